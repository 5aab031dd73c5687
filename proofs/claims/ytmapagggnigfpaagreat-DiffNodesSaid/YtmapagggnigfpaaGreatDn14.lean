/- Joined: RdB, RdC, RdD, RdP, RdE, NodG, NodH, NodI, NodJ, NodK, SzV, SzB, SzC, SzD, SzE, SzF, SzG, SzH, SzI, SzJ, SzK. -/
import Derived.Test.YtmapagggnigfpaaGreatDn13
import Derived.Test.YtmapagggnigfpaaGreatProg
import Derived.KernelRfl
set_option linter.unusedVariables false
set_option linter.unusedSimpArgs false
namespace Go.Proofs.YtmapagggnigfpaaGreat.pk
open Cn Cn.Pk vc
theorem aO{CS vs:LV}(h:vs.length=CS.length):splice CS 0 vs=vs:=by simp[splice,h]
theorem qX{s:BA}{p n:Nat}(hp:p<=s.size):fP n (s.data.toList.drop p)=if s.size < p+n then none else some ((s.data.toList.drop p).take n,s.data.toList.drop (p+n)):=by
 unfold fP;rw[rest_len hp,WJ];by_cases h:s.size < p+n
 ·rw[if_pos h,if_pos (by omega)]
 ·rw[if_neg h,if_neg (by omega)]
theorem QZ{b:Nat}{s:BA}{x:Option LU}{h:Hp}(r:RS h b s x)(hs:s.size<=1099511627776)(n:Nat)(O:n<=1099511627776):
  C 228 [pt b,.int .i64 (n:Int)] h fun v h'=>v = .string (str (got (x.bind (fP n)) []))/\RS h' b s (left (x.bind (fP n)))/\Keep (· = b) h h':=by
 cases x with
 | none =>
  obtain⟨p,f,hp,E,r⟩:=r;refine(TG r hp hs n (by omega)).mono fun v h' ⟨e,r',k⟩=>?_;have e1:wQ n s p f=(.empty,p,f):=by unfold wQ;rw[if_pos (.inl E)]
  rw[e1]at e r';exact⟨e,⟨p,f,hp,E,r'⟩,k⟩
 | some L =>
  obtain⟨p,hp,rfl,r⟩:=r;refine(TG r hp hs n (by omega)).mono fun v h' ⟨e,r',k⟩=>?_;simp only[Ul,qX hp];by_cases h0:n=0
  ·subst h0;have e1:wQ ((0:Nat):Int) s p 0=(.empty,p,0):=by unfold wQ;rw[if_pos (.inr (by simp))]
   rw[e1]at e r';rw[if_neg (by omega)];exact⟨e,⟨p,hp,rfl,r'⟩,k⟩
  ·by_cases G:s.size < p+n
   ·have e1:wQ (n:Int) s p 0=(.empty,p,10):=by unfold wQ;rw[if_neg (by simp;omega),if_pos (by omega)]
    rw[e1]at e r';rw[if_pos G];exact⟨e,⟨p,10,hp,by decide,r'⟩,k⟩
   ·have e1:wQ (n:Int) s p 0=(str ((s.data.toList.drop p).take n),p+n,0):=by unfold wQ;rw[if_neg (by simp;omega),if_neg (by omega)];rfl
    rw[e1]at e r';rw[if_neg G];exact⟨e,⟨p+n,by omega,rfl,r'⟩,k⟩
theorem Hh{s:BA}{n p:Nat}{f:Int}{h':Hp}{b:Nat}(hp:p<=s.size){x:Option LU}(O:(x=none/\f≠0)\/(x=some (s.data.toList.drop p)/\f=0)) (r:FM h' b s (kN n s p f).2.1 (kN n s p f).2.2) :
  (kN n s p f).1=got (x.bind (bV n)) 0/\RS h' b s (left (x.bind (bV n))):=by
 rcases O with ⟨rfl,G⟩ | ⟨rfl,rfl⟩
 ·have e1:kN n s p f=(0,p,f):=by unfold kN;rw[if_pos G]
  rw[e1]at r ⊢;exact⟨rfl,p,f,hp,G,r⟩
 ·simp only[Ul,bV,qX hp];by_cases E:s.size < p+n
  ·have e1:kN n s p 0=(0,p,10):=by unfold kN;rw[if_neg (by simp),if_pos E]
   rw[e1]at r ⊢;rw[if_pos E];exact⟨rfl,p,10,hp,by decide,r⟩
  ·have e1:kN n s p 0=(num ((s.data.toList.drop p).take n),p+n,0):=by unfold kN;rw[if_neg (by simp),if_neg E]
   rw[e1]at r ⊢;rw[if_neg E];exact⟨rfl,p+n,by omega,rfl,r⟩
theorem Ng{b:Nat}{s:BA}{x:Option LU}{h:Hp}(r:RS h b s x)(hs:s.size<=1099511627776):
  C 215 [pt b] h fun v h'=>v = .int .u8 ((got (x.bind (bV 1)) 0:Nat):Int)/\RS h' b s (left (x.bind (bV 1)))/\Keep (· = b) h h':=by
 cases x with
 | none =>
  obtain⟨p,f,hp,G,r⟩:=r;refine(IN r hp hs).mono fun v h' ⟨e,r',k⟩=>?_;obtain⟨e1,E⟩:=Hh hp (x:=none) (.inl ⟨rfl,G⟩) r';exact⟨by rw[e,e1],E,k⟩
 | some L =>
  obtain⟨p,hp,rfl,r⟩:=r;refine(IN r hp hs).mono fun v h' ⟨e,r',k⟩=>?_;obtain⟨e1,E⟩:=Hh hp (x:=some _) (.inr ⟨rfl,rfl⟩) r';exact⟨by rw[e,e1],E,k⟩
theorem KZ{b:Nat}{s:BA}{x:Option LU}{h:Hp}(r:RS h b s x)(hs:s.size<=1099511627776):
  C 221 [pt b] h fun v h'=>v = .int .u32 ((got (x.bind (bV 4)) 0:Nat):Int)/\RS h' b s (left (x.bind (bV 4)))/\Keep (· = b) h h':=by
 cases x with
 | none =>
  obtain⟨p,f,hp,G,r⟩:=r;refine(Ey r hp hs).mono fun v h' ⟨e,r',k⟩=>?_;obtain⟨e1,E⟩:=Hh hp (x:=none) (.inl ⟨rfl,G⟩) r';exact⟨by rw[e,e1],E,k⟩
 | some L =>
  obtain⟨p,hp,rfl,r⟩:=r;refine(Ey r hp hs).mono fun v h' ⟨e,r',k⟩=>?_;obtain⟨e1,E⟩:=Hh hp (x:=some _) (.inr ⟨rfl,rfl⟩) r';exact⟨by rw[e,e1],E,k⟩
theorem freeP_le{m n:Nat}{L r:LU}(h:dK m L=some (n,r)):n<=m:=by
 unfold dK at h
 split at h
 ·split at h
  ·simp at h
  ·simp only[Um,Un]at h;omega
 ·simp at h
theorem RS.rest{h:Hp}{b:Nat}{s:BA}{L:LU}(r:RS h b s (some L)):L.length<=s.size:=by
 obtain⟨p,hp,rfl,_⟩:=r;rw[rest_len hp];omega
theorem HP{b:Nat}{s:BA}{x:Option LU}{h:Hp}(r:RS h b s x)(hs:s.size<=1099511627776)(m:Nat)(hm:m<=1099511627776):
  C 218 [pt b,.int .i64 (m:Int)] h fun v h'=>v = .string (str (got (x.bind (cX m)) []))/\RS h' b s (left (x.bind (cX m)))/\Keep (· = b) h h':=by
 refine sv LY fun wf=>?_;refine(pE r).mono fun v h' ⟨e,G⟩=>?_;subst G;refine⟨_,e,?_⟩
 cases x with
 | none=>rw[if_pos (show(none:Option LU).isNone=true from rfl)];exact⟨rfl,r,Keep.refl _ _⟩
 | some L =>
  rw[if_neg (by simp)];obtain⟨p,hp,eL,r0⟩:=r;refine⟨rfl,rfl,(p:Int),⟨rfl,Blk.one r0 rfl⟩,?_⟩;have em:cC .u64 (pX 0 (m:Int))=((m:Nat):Int):=by
   have:pX 0 (m:Int)=(m:Int):=by unfold pX;split <;> omega
   rw[this,cQ,Up (by omega)]
  rw[em];refine(HQ (x:=some L) ⟨p,hp,eL,r0⟩ hs m).wf fun v h1 aa ac ⟨e,E,U⟩=>⟨_,e,?_⟩;refine(pE E).mono fun v h' ⟨e,G⟩=>?_;subst G;refine⟨_,e,?_⟩;simp only[Ul]at E ⊢
  cases O:dK m L with
  | none =>
   rw[O]at E;rw[if_pos (show(left (none:Option (Nat×LU))).isNone=true from rfl)];have:cX m L=none:=by unfold cX;rw[O];rfl
   rw[this];exact⟨rfl,E,U⟩
  | some y =>
   obtain⟨n,R⟩:=y;have ad:=freeP_le O;rw[O]at E;rw[if_neg (by simp)];have E:RS _ b s (some R):=E;simp only[got];refine(Cp E hs).mono fun v h' ⟨e,G⟩=>⟨_,e,?_⟩;subst G;have ae:=RS.rest E;have et:cC .u64 (R.length:Int)=(R.length:Int):=by rw[cQ,Up (by omega)]
   rw[et];have ht:cX m L=fP n R:=by unfold cX;rw[O];rfl
   rw[ht];by_cases V:dB (n:Int) (R.length:Int)=true
   ·rw[if_pos V];obtain⟨q,hq,eR,r2⟩:=E;refine(Cr r2 10 (by decide) p hp).mono fun v h2 ⟨e,W,k3⟩=>?_;have:fP n R=none:=by unfold fP;rw[if_pos (by rw[aS]at V;omega)]
    rw[this];exact⟨e,rfl,W,U.trans wf k3 fun _ _ hg=>hg⟩
   ·rw[if_neg V];have hn:cC .i64 (n:Int)=(n:Int):=sY (by omega) (by omega);rw[hn];refine(QZ (x:=some R) E hs n (by omega)).mono fun v h2 ⟨e,W,k3⟩=>?_;exact⟨_,e,rfl,W,U.trans wf k3 fun _ _ hg=>hg⟩
theorem rawP_len{n:Nat}{L a r:LU}(h:fP n L=some (a,r)):a.length=n:=by
 unfold fP at h
 split at h
 ·simp at h
 ·simp only[Um,Un]at h;rw[<-h.1,Uq];omega
theorem NL{h:Hp}{b g:Nat}{d:LU}(hb:Blk h b (some g) (bc d)){t:LU}{n c:Nat}(V:n=d.length)(G:t.length<=n):
  ∃m h',qO Tryz.prog 144 (.slice (some ⟨b,0,none⟩) n c) (.string (str t)) h=some (.int .i64 m,h')/\Blk h' b (some g) (bc (t++d.drop t.length))/\Keep (· = g) h h'/\h'.next=h.next/\(Wf h->Wf h'):=by
 by_cases h0:t.length=0
 ·have:t=[]:=VS h0;subst this;refine⟨0,h,?_,by simpa using hb,Keep.refl _ _,rfl,id⟩;unfold qO;rw[Cu.under]
  dsimp only
  rw[Ls];simp only[dC,if_true];rw[show(str ([]:LU)).size=0 from rfl,Nat.zero_min,if_pos rfl]
 ·have hlen:(bc t).length=t.length:=aJ t;obtain⟨h',O,E,U⟩:=hb.store (o:=0) (vs:=bc t) (by rw[aJ,aJ];omega) (aZ _);refine⟨t.length,h',?_,?_,U⟩
  ·unfold qO;rw[Cu.under]
   dsimp only
   rw[Ls];simp only[dC,if_true,eQ,Ve];rw[Vc G,if_neg h0];have e:((str t).data.toList.map fun b=>Value.int .u8 b.toNat)=bc t:=lS _;rw[e,Uj (by omega),O]
   rfl
  ·have es:splice (bc d) 0 (bc t)=bc (t++d.drop t.length):=by
    rw[fM];unfold splice;rw[aJ];simp only[Vn,VH,Nat.zero_add];congr 1;rw[eU,eU,List.map_drop]
   rw[es]at E;exact E
theorem digP_len{w:Nat}(hw:w<=32){L a r:LU}(h:dR w L=some (a,r)):a.length=32:=by
 unfold dR at h
 cases hr:fP w L with
 | none=>simp[hr]at h
 | some y =>
  obtain⟨x,r'⟩:=y;have:=rawP_len hr;simp only[hr,Uv,Um,Un]at h;rw[<-h.1];unfold iG;rw[Ug,WQ];omega
theorem FA{b:Nat}{s:BA}{x:Option LU}{h:Hp}(r:RS h b s x)(hs:s.size<=1099511627776)(w:Nat)(hw:w<=32):
  C 222 [pt b,.int .i64 (w:Int)] h fun v h'=>v = .agg (bc (got (x.bind (dR w)) bH)).toArray/\RS h' b s (left (x.bind (dR w)))/\Keep (· = b) h h':=by
 refine sv Fw fun wf=>?_;have ag:=r.glt wf;intro h1 e1 h2 e2;rw[dU]at e1 e2;obtain⟨b1,k1,n1,V⟩:=aB wf e1;obtain⟨b2,k2,n2,ah⟩:=aB V e2;refine⟨⟨by simp only[jO,aF];omega,rfl⟩,?_⟩;refine(Qe _ h2).mono fun v h' ⟨e,eh⟩=>⟨_,e,?_⟩;subst eh;have hi:inW (w:Int)=w:=by unfold inW;omega
 rw[hi];have G:=k1.trans wf k2 fF;refine(QZ (r.keep G id) hs w (by omega)).wf fun v h3 ai aj ⟨e,r3,W⟩=>⟨_,e,?_⟩;have aa:(got (x.bind (fP w)) []).length<=32:=by
  cases x with
  | none=>simp
  | some L =>
   simp only[Ul]
   cases hr:fP w L with
   | none=>simp
   | some y=>obtain⟨a,q⟩:=y;have:=rawP_len hr;show a.length<=32;omega
 have ac:=W.blk b2 fun x O U=>by simp at O;omega
 obtain⟨m,h4,e4,b4,k4,n4,ak⟩:=NL (c:=32) ac (n:=32) (t:=got (x.bind (fP w)) []) (by simp[bH]) aa;have hd:(got (x.bind (fP w)) []++bH.drop (got (x.bind (fP w)) []).length)=got (x.bind (dR w)) bH/\(got (x.bind (dR w)) bH).length=32/\left (x.bind (dR w))=left (x.bind (fP w)):=by
  cases x with
  | none=>exact⟨by simp,by simp[bH],rfl⟩
  | some L =>
   simp only[Ul]
   cases hr:fP w L with
   | none =>
    have:dR w L=none:=by unfold dR;rw[hr];rfl
    rw[this];exact⟨by simp,by simp[bH],rfl⟩
   | some y =>
    obtain⟨a,q⟩:=y;have:dR w L=some (iG a,q):=by unfold dR;rw[hr];rfl
    rw[this];refine⟨?_,digP_len hw this,rfl⟩;simp only[iG,bH,List.drop_replicate]
 obtain⟨ad,E,ae⟩:=hd;rw[ad]at b4;have af:=k4.blk (W.blk (Kept.blk k2 b1) fun x O U=>by simp at O;omega) fun x O U=>by simp at O;omega
 obtain⟨h6,e6,b6,k6,n6,al⟩:=af.store (o:=0) (vs:=bc (got (x.bind (dR w)) bH)) (by rw[aJ,aJ,E,bI];exact Uf _) (aZ _);have es:splice (bc bH) 0 (bc (got (x.bind (dR w)) bH))=bc (got (x.bind (dR w)) bH):=aO (by rw[aJ,aJ,E,bI]);rw[es]at b6;rw[ae];refine⟨(m:Int),h4,e4,cV (got (x.bind (dR w)) bH),⟨rfl,cH b4 E⟩,rfl,h6,by rw[aH E];exact e6,cV (got (x.bind (dR w)) bH),⟨rfl,cH b6 E⟩,?_,?_,?_⟩
 ·rw[aH E]
 ·exact(r3.keep k4 (by omega)).keep k6 (by omega)
 ·exact(((G.mono wf (S':=(· = b)) fun _ _ h=>h.elim).trans wf W fF).trans wf k4 fun g hg U=>by omega).trans wf k6 fun g hg U=>by omega
end Go.Proofs.YtmapagggnigfpaaGreat.pk
namespace Go.Cn.Pk
def fC(mk mv:Nat)(L:LU):Option (PairT×LU):=(cX mk L).bind fun(k,r)=>(cX mv r).map fun(v,q)=>((str k,str v),q)
def kP{α:Type}(p:LU->Option (α×LU)):Nat->LU->Option (List α×LU)
 | 0,L=>some ([],L)
 | n+1,L=>(p L).bind fun(x,r)=>(kP p n r).map fun(l,q)=>(x::l,q)
def jN{α:Type}(p:LU->Option (α×LU))(most:Nat)(L:LU):Option (List α×LU) :=
 (dK most L).bind fun(n,r)=>if r.length < n then none else kP p n r
end Go.Cn.Pk
namespace Go.Proofs.YtmapagggnigfpaaGreat.pk
open Cn Cn.Pk vc
theorem quoN(m d:Nat)(hm:m<=1099511627776)(E:0 < d):eP .i64 (m:Int) (d:Int)=((m / d:Nat):Int):=by
 unfold eP;have:(m:Int).tdiv (d:Int)=((m / d:Nat):Int):=by
  rw[Wo (Ui m)];rfl
 rw[this];have:m / d<=m:=Nat.div_le_self _ _;generalize m / d=q at *;exact sY (by omega) (by omega)
theorem Rx{b f m w:Nat}{V:ON}{s:BA}{x:Option LU}{h:Hp}(r:RS h b s x)(hf:Blk h f V [.int .i64 (m:Int),.int .i64 (w:Int)])(W:V≠some b)(hs:s.size<=1099511627776)(hm:m<=1099511627776):
  C 217 [pt b,pt f] h fun v h'=>(∃k u:BA,v = .agg #[.string k,.string u]/\∀y q,x.bind (fC (m / 16) (m / 8))=some (y,q)->y=(k,u))/\RS h' b s (left (x.bind (fC (m / 16) (m / 8))))/\Keep (· = b) h h':=by
 refine sv Bm fun wf=>?_;have af:=r.glt wf;have aa:∀y,V=some y->¬y=b:=fun y E G=>W (by rw[E,G]);intro h1 e1;obtain⟨b1,k1,n1,ac⟩:=aB wf e1;have f1:=Kept.blk k1 hf;refine⟨(m:Int),(w:Int),⟨rfl,by rw[f1.cells (by simp)];rfl⟩,?_⟩;refine(xM _ _ h1).mono fun v h' ⟨e,eh⟩=>⟨_,e,?_⟩;subst eh;rw[show(16:Int)=((16:Nat):Int) from rfl,quoN m 16 hm (by omega)];refine(HP (r.keep k1 id) hs (m / 16) (by omega)).wf fun v h2 ag ah ⟨e,r2,k2⟩=>⟨_,e,?_⟩;have f2:=k2.blk f1 aa;refine⟨(m:Int),(w:Int),⟨rfl,by rw[f2.cells (by simp)];rfl⟩,?_⟩;refine(IU _ _ h2).mono fun v h' ⟨e,eh⟩=>⟨_,e,?_⟩;subst eh;rw[show(8:Int)=((8:Nat):Int) from rfl,quoN m 8 hm (by omega)];refine(HP r2 hs (m / 8) (by omega)).wf fun v h3 ai aj ⟨e,r3,k3⟩=>⟨_,e,rfl,?_⟩;have ad:=k3.blk (k2.blk b1 fun y E G=>by simp at E;omega) fun y E G=>by simp at E;omega
 have ae:=k2.trans ac k3 fun _ _ hg=>hg;obtain⟨h4,e4,b4,k4,n4,ak⟩:=ad.store (o:=0) (vs:=[.string (str (got (x.bind (cX (m / 16))) [])),.string (str (got ((left (x.bind (cX (m / 16)))).bind (cX (m / 8))) []))]) (by simp) rfl;refine⟨h4,e4,_,_,⟨rfl,by rw[b4.cells (by simp[splice])];rfl⟩,⟨_,_,rfl,?_⟩,?_,?_⟩
 ·intro y q E
  cases x with
  | none=>simp at E
  | some L =>
   simp only[Ul,fC]at E
   cases O:cX (m / 16) L with
   | none=>simp[O]at E
   | some z =>
    obtain⟨k,R⟩:=z;simp only[O,Ul]at E
    cases U:cX (m / 8) R with
    | none=>simp[U]at E
    | some z =>
     obtain⟨u,Q⟩:=z;simp only[U,Uv,Um,Un]at E;rw[<-E.1];simp[O,U]
 ·have er:left (x.bind (fC (m / 16) (m / 8)))=left ((left (x.bind (cX (m / 16)))).bind (cX (m / 8))):=by
   cases x with
   | none=>rfl
   | some L =>
    simp only[Ul,fC]
    cases O:cX (m / 16) L with
    | none=>rfl
    | some z =>
     obtain⟨k,R⟩:=z;simp only[Ul,Uv]
     cases U:cX (m / 8) R with
     | none=>rfl
     | some z=>rfl
  rw[er];exact r3.keep k4 (by omega)
 ·exact(((k1.mono wf (S':=(· = b)) fun _ _ h=>h.elim).trans wf ae fF).trans wf k4 fun g hg G=>by omega)
theorem Gk{α:Type}{p:LU->Option (α×LU)}{L:LU}(h:p L=none)(n:Nat):kP p (n+1) L=none:=by unfold kP;rw[h];rfl
theorem tO{α:Type}(E:List α)(x:α)(o:Option (List α×LU)):(o.map fun(l,q)=>(x::l,q)).map (fun(l,q)=>(E++l,q))=o.map fun(l,q)=>(E++[x]++l,q):=by
 cases o with
 | none=>rfl
 | some y=>simp
theorem uG:AppT Tryz.prog 59 59 104 2 32:=AppT.of _ (by kernel_rfl)
theorem SE{b f m w:Nat}{gf:ON}{s:BA}{x:Option LU}{h:Hp}(r:RS h b s x)(hf:Blk h f gf [.int .i64 (m:Int),.int .i64 (w:Int)])(ag:gf≠some b)(hs:s.size<=1099511600)(hm:m<=1099511627776)(E:Nat)(ay:E<=1099511627776):
  C 216 [pt b,.int .i64 (E:Int),.func (.func 217) #[] #[pt f]] h fun v h' =>
   (match x.bind (jN (fC (m / 16) (m / 8)) E) with
    | some (l,_)=>∃a,v = .slice a l.length l.length/\Bd h' 2 (h.next<=·) a l.length l.length (l.flatMap pairC)
    | none=>v = .slice none 0 0)/\RS h' b s (left (x.bind (jN (fC (m / 16) (m / 8)) E)))/\Keep (· = b) h h':=by
 refine sv Lg fun wf=>?_;have az:=r.glt wf;have ah:∀y,gf=some y->¬y=b:=fun y hy W=>ag (by rw[hy,W]);refine(pE r).mono fun v h' ⟨e,eh⟩=>⟨_,e,?_⟩;subst eh
 cases x with
 | none=>rw[if_pos (show(none:Option LU).isNone=true from rfl)];exact⟨rfl,r,Keep.refl _ _⟩
 | some L =>
  rw[if_neg (by simp)];obtain⟨p,hp,eL,r0⟩:=r;refine⟨rfl,rfl,(p:Int),⟨rfl,Blk.one r0 rfl⟩,?_⟩;have em:cC .u64 (pX 0 (E:Int))=((E:Nat):Int):=by
   have:pX 0 (E:Int)=(E:Int):=by unfold pX;split <;> omega
   rw[this,cQ,Up (by omega)]
  rw[em];refine(HQ (x:=some L) ⟨p,hp,eL,r0⟩ (by omega) E).wf fun v h1 ae an ⟨e,r1,k1⟩=>⟨_,e,?_⟩;refine(pE r1).mono fun v h' ⟨e,eh⟩=>⟨_,e,?_⟩;subst eh;simp only[Ul]at r1 ⊢
  cases U:dK E L with
  | none =>
   rw[U]at r1;rw[if_pos (show(left (none:Option (Nat×LU))).isNone=true from rfl)];have:jN (fC (m / 16) (m / 8)) E L=none:=by unfold jN;rw[U];rfl
   rw[this];exact⟨trivial,r1,k1⟩
  | some y =>
   obtain⟨n,R⟩:=y;have a4:=freeP_le U;rw[U]at r1;rw[if_neg (by simp)];have r1:RS _ b s (some R):=r1;simp only[got];refine(Cp r1 (by omega)).mono fun v h' ⟨e,eh⟩=>⟨_,e,?_⟩;subst eh;have a5:=RS.rest r1;have et:cC .u64 (R.length:Int)=(R.length:Int):=by rw[cQ,Up (by omega)]
   rw[et];by_cases W:dB (n:Int) (R.length:Int)=true
   ·rw[if_pos W];obtain⟨q,hq,eR,r2⟩:=r1;refine(Cr r2 12 (by decide) p hp).mono fun v h2 ⟨e,r3,k3⟩=>?_;have:jN (fC (m / 16) (m / 8)) E L=none:=by
     unfold jN;rw[U];simp only[Ul];rw[if_pos (by rw[aS]at W;omega)]
    rw[this];exact⟨e,trivial,r3,k1.trans wf k3 fun _ _ hg=>hg⟩
   ·rw[if_neg W];have a6:n<=R.length:=by rw[aS]at W;omega
    have ao:jN (fC (m / 16) (m / 8)) E L=kP (fC (m / 16) (m / 8)) n R:=by
     unfold jN;rw[U];simp only[Ul];rw[if_neg (by omega)]
    rw[ao];refine⟨fun vals mm V=>∃(i:Nat) (O:List PairT) (Q:LU) (a:OA),[.slice a i i,.int .u64 (i:Int)]=vals/\mm=n - i/\i<=n/\O.length=i/\
     kP (fC (m / 16) (m / 8)) n R=(kP (fC (m / 16) (m / 8)) (n - i) Q).map (fun(l,q)=>(O++l,q))/\RS V b s (some Q)/\Bd V 2 (h'.next<=·) a i i (O.flatMap pairC)/\Keep (· = b) h' V/\Wf V,
     ⟨n,0,[],R,none,rfl,rfl,Uk _,rfl,?_,r1,Bd.nil _ _ _,Keep.refl _ _,ae⟩,?_⟩
    ·rw[Nat.sub_zero]
     cases kP (fC (m / 16) (m / 8)) n R with
     | none=>rfl
     | some z=>simp
    rintro a0 l0 c0 n1 mm V ⟨i,O,Q,a,e,rfl,hi,aa,G,rQ,bd,kk,ac⟩;simp at e;obtain⟨⟨rfl,rfl,rfl⟩,rfl⟩:=e;have fh:=kk.blk (k1.blk hf ah) ah;have ax:=kk.next;by_cases ad:bO (i:Int) (n:Int)=true
    ·rw[if_pos ad];have ai:i < n:=by rw[aC]at ad;omega
     intro h2 e2;rw[if_pos (show aD false=true from rfl)];obtain⟨b2,k2,n2,ap⟩:=aB ac e2;refine(Rx (rQ.keep k2 id) (Kept.blk k2 fh) ag (by omega) hm).wf fun v h3 aj a8 ⟨⟨ck,cu,e,hv⟩,r3,k3⟩=>⟨ck,cu,e,rfl,?_⟩;have aq:=k3.blk b2 fun y hy W=>by simp at hy;omega
     obtain⟨h4,e4,b4,k4,n4,af⟩:=aq.store (o:=0) (vs:=[.string ck,.string cu]) (by simp) rfl;have af:=af aj;have r4:=r3.keep k4 (by omega);refine⟨h4,e4,(pE r4).mono fun v h5 ⟨e,eh⟩=>⟨_,e,?_⟩⟩;subst eh;have ak:Keep (fun g=>g=b\/g=V.next) V h5:=((k2.mono ac (S':=fun g=>g=b\/g=V.next) fun _ _ h=>h.elim).trans ac (k3.mono ap (S':=fun g=>g=b\/g=V.next) fun _ _ h=>.inl h) fF).trans ac (k4.mono aj (S':=fun g=>g=b\/g=V.next) fun _ _ h=>.inr h) fF;have al:Keep (· = b) h' h5:=kk.trans ae ak fun g hg hs=>by rcases hs with h | h;exact h;omega
     rw[show n - i=n - (i+1)+1 by omega]at G
     cases hq:fC (m / 16) (m / 8) Q with
     | none =>
      simp only[Ul,hq]at r4 ⊢;rw[if_pos (show(left (none:Option (PairT×LU))).isNone=true from rfl)];rw[Gk hq]at G;rw[G,Option.map_none];exact⟨by first | trivial | rfl,r4,k1.trans wf al fF⟩
     | some z =>
      obtain⟨⟨zk,zu⟩,Q'⟩:=z;have hz:=hv (zk,zu) Q' (by simp[hq]);obtain⟨rfl,rfl⟩:zk=ck/\zu=cu:=by simpa using hz
      simp only[Ul,hq]at r4 ⊢;rw[if_neg (by simp)];refine⟨_,_,⟨rfl,by rw[b4.cells (by simp[splice])];rfl⟩,?_⟩;intro h6 e6;have ar:Bd h5 2 (fun g=>h'.next<=g/\g≠V.next) a i i (O.flatMap pairC):=((bd.bound ac).keep ak fun x hx W=>by rcases W with h | h <;> omega).mono fun g hg=>⟨hg.1,by omega⟩;obtain⟨a7,h7,e7,au,k7,av⟩:=Bd.append1 af uG (S:=fun g=>h'.next<=g/\g≠V.next) (fun g hg=>⟨by omega,by omega⟩) ar (new:=[.string zk,.string zu]) e6 rfl rfl (bM (by omega));refine⟨a7,i+1,i+1,h7,e7,n - (i+1),by simp only[aI];omega,i+1,O++[(zk,zu)],Q',a7,?_,rfl,by omega,by simp[aa],?_,?_,?_,?_,av⟩
      ·rw[show aG .u64 (i:Int) 1=((i+1:Nat):Int) by
        unfold aG;have:(i:Int)+1=((i+1:Nat):Int):=by omega
        rw[this,Go.Cn.Sha.wrap_u64,Up (by omega)]]
      ·rw[G,<-tO]
       conv=>lhs;unfold kP
       rw[hq]
       rfl
      ·exact r4.keep k7 (fun W=>by omega)
      ·rw[VX];exact au.mono fun g hg=>hg.1
      ·exact al.trans ae k7 fun g hg hs=>by omega
    ·rw[if_neg ad];have ai:i=n:=by
      have:¬i < n:=fun W=>ad (by rw[aC];omega)
      omega
     subst ai;rw[Vu]at G;have:kP (fC (m / 16) (m / 8)) i R=some (O,Q):=by rw[G];simp[kP]
     rw[this];refine⟨⟨a,by rw[aa],?_⟩,rQ,k1.trans wf kk fF⟩;rw[aa];exact bd.mono fun g hg=>Nat.le_trans an hg
end Go.Proofs.YtmapagggnigfpaaGreat.pk
namespace Go.Cn.Pk
abbrev jL:=LU×Nat×LU
def gT(dF:Bool)(w mk:Nat)(i:Nat)(L:LU):Option (jL×LU) :=
 (if 0 < i then cX mk L else some ([],L)).bind fun(sp,r)=>(if dF=true then bV 4 r else some (0,r)).bind fun(pg,q)=>(dR w q).map fun(d,t)=>((sp,pg,d),t)
def kQ{α:Type}(p:Nat->LU->Option (α×LU)):Nat->Nat->LU->Option (List α×LU)
 | _,0,L=>some ([],L)
 | i,n+1,L=>(p i L).bind fun(x,r)=>(kQ p (i+1) n r).map fun(l,q)=>(x::l,q)
def jH{α:Type}(p:Nat->LU->Option (α×LU))(most:Nat)(L:LU):Option (List α×LU) :=
 (dK most L).bind fun(n,r)=>if r.length < n then none else kQ p 0 n r
def rX(k:jL):LV:=[.int .u32 (k.2.1:Int)]++bc k.2.2
theorem Da{L r:LU}{x:Nat}(h:bV 4 L=some (x,r)):x<=4294967295:=by
 unfold bV at h
 cases hr:fP 4 L with
 | none=>simp[hr]at h
 | some y =>
  obtain⟨a,q⟩:=y;simp only[hr,Uv,Um,Un]at h;have:=Go.Proofs.YtmapagggnigfpaaGreat.pk.rawP_len hr;have E:=sJ a;rw[this]at E;have:(256:Nat) ^ 4=4294967296:=by decide
  omega
end Go.Cn.Pk
namespace Go.Proofs.YtmapagggnigfpaaGreat.pk
open Cn Cn.Pk vc
theorem CU:Bc=[Value.int .u32 0]++bc bH:=rfl
def qB(dF:Bool)(w:Nat)(L:LU):Option ((Nat×LU)×LU) :=
 (if dF=true then bV 4 L else some (0,L)).bind fun(pg,q)=>(dR w q).map fun(d,t)=>((pg,d),t)
def Tc(b f g ob:Nat)(hA:Hp)(K:KT):Prop :=
 ∀h':Hp,h'=hA.alloc ([Value.int .u32 0]++bc bH) 131->∃b_2:Bool,(aN (some (Addr.mk g 0 none))=true/\h'.cellsAt g 0 1=some [Value.bool b_2])/\
  if b_2=true then
   C 221 [Value.pointer (some (Addr.mk b 0 none))] h' fun(v:Value) (h':Hp)=>∃n:Int,v=Value.int IntKind.u32 n/\aN (some (Addr.mk hA.next 0 none))=true/\aN (some (Addr.mk hA.next 0 none))=true/\
    ∃h4:Hp,h'.store hA.next 0 [Value.int IntKind.u32 n]=some h4/\aN (some (Addr.mk f 0 none))=true/\∃n:Int,(aN (some (Addr.mk f 1 none))=true/\h4.cellsAt f 1 1=some [Value.int IntKind.i64 n])/\
    C 222 [Value.pointer (some (Addr.mk b 0 none)),Value.int IntKind.i64 n] h4 fun(v:Value) (h':Hp)=>∃D:Nat->Int,v=Value.agg (Array.mk (aK .u8 32 D))/\aN (some (Addr.mk hA.next 0 none))=true/\aN (some (Addr.mk hA.next 1 none))=true/\
    ∃h5:Hp,h'.store hA.next 1 (aK .u8 32 D)=some h5/\∃(n:Int) (D:Nat->Int),(aN (some (Addr.mk hA.next 0 none))=true/\h5.cellsAt hA.next 0 33=some ([Value.int IntKind.u32 n]++aK .u8 32 D))/\aN (some (Addr.mk ob 0 none))=true/\
    ∃h':Hp,h5.store ob 0 ([Value.int IntKind.u32 n]++aK .u8 32 D)=some h'/\∃(n:Int) (D:Nat->Int),(aN (some (Addr.mk ob 0 none))=true/\h'.cellsAt ob 0 33=some ([Value.int IntKind.u32 n]++aK .u8 32 D))/\K (Value.agg (Array.mk ([Value.int IntKind.u32 n]++aK .u8 32 D))) h'
  else
   aN (some (Addr.mk f 0 none))=true/\∃n:Int,(aN (some (Addr.mk f 1 none))=true/\h'.cellsAt f 1 1=some [Value.int IntKind.i64 n])/\
    C 222 [Value.pointer (some (Addr.mk b 0 none)),Value.int IntKind.i64 n] h' fun(v:Value) (h':Hp)=>∃D:Nat->Int,v=Value.agg (Array.mk (aK .u8 32 D))/\aN (some (Addr.mk hA.next 0 none))=true/\aN (some (Addr.mk hA.next 1 none))=true/\
    ∃h5:Hp,h'.store hA.next 1 (aK .u8 32 D)=some h5/\∃(n:Int) (D:Nat->Int),(aN (some (Addr.mk hA.next 0 none))=true/\h5.cellsAt hA.next 0 33=some ([Value.int IntKind.u32 n]++aK .u8 32 D))/\aN (some (Addr.mk ob 0 none))=true/\
    ∃h':Hp,h5.store ob 0 ([Value.int IntKind.u32 n]++aK .u8 32 D)=some h'/\∃(n:Int) (D:Nat->Int),(aN (some (Addr.mk ob 0 none))=true/\h'.cellsAt ob 0 33=some ([Value.int IntKind.u32 n]++aK .u8 32 D))/\K (Value.agg (Array.mk ([Value.int IntKind.u32 n]++aK .u8 32 D))) h'
theorem tT{h:Hp}{b:Nat}{g:ON}{d:LU}{n:Int}(hb:Blk h b g ([Value.int .u32 n]++bc d))(E:d.length=32):h.cellsAt b 0 33=some ([Value.int .u32 n]++aK .u8 32 (cV d)):=by
 rw[hb.cells (by rw[Ug,aJ,E];exact Uf _),VC,Uj (by rw[Ug,aJ,E];exact Uf _),aH E]
theorem qD{w:Nat}(hw:w<=32)(x:Option LU):(got (x.bind (dR w)) bH).length=32:=by
 cases x with
 | none=>simp[bH]
 | some L =>
  simp only[Ul]
  cases h:dR w L with
  | none=>simp[bH]
  | some y=>obtain⟨a,q⟩:=y;exact digP_len hw h
theorem wG(x:Option LU):got (x.bind (bV 4)) 0<=4294967295:=by
 cases x with
 | none=>simp
 | some L =>
  simp only[Ul]
  cases h:bV 4 L with
  | none=>simp
  | some y=>obtain⟨a,q⟩:=y;exact Da h
theorem ES{b f g ob m w:Nat}{pg:Bool}{s:BA}{x:Option LU}{O:Hp}(wf:Wf O)(r:RS O b s x)(hf:Blk O f (some f) [.int .i64 (m:Int),.int .i64 (w:Int)])(hg:Blk O g (some g) [.bool pg])(ar:f≠b)(au:g≠b)
  {ac:LV} (ho:Blk O ob (some ob) ac) (af:ac.length=33) (ag:ob≠b) (hs:s.size<=1099511627776) (hw:w<=32) {K:KT}
  (hK:∀(G:Nat) (D:LU) (h':Hp),G<=4294967295->D.length=32->(∀y q,x.bind (qB pg w)=some (y,q)->y=(G,D))->RS h' b s (left (x.bind (qB pg w)))->Keep (fun y=>y=b\/y=ob) O h'->Wf h'->
   K (.agg ([Value.int .u32 (G:Int)]++bc D).toArray) h'):Tc b f g ob O K:=by
 intro h1 e1;obtain⟨b1,k1,n1,av⟩:=aB wf e1;have ax:=r.glt wf;have ay:=hf.glt wf;have az:=hg.glt wf;have a0:=ho.glt wf;have r1:=r.keep k1 id;have f1:=Kept.blk k1 hf;have o1:=Kept.blk k1 ho;refine⟨pg,⟨rfl,(Kept.blk k1 hg).one rfl⟩,?_⟩;have fin:∀(W:Hp) (G:Nat) (D:LU) (Y:Option LU),Wf W->G<=4294967295->D.length=32->Blk W O.next (some O.next) ([Value.int .u32 (G:Int)]++bc bH)->Blk W ob (some ob) ac->RS W b s Y->Keep (· = b) O W->
   (∀y q,x.bind (qB pg w)=some (y,q)->y=(G,D))->Y=left (x.bind (qB pg w))->
   ∃h5:Hp,W.store O.next 1 (aK .u8 32 (cV D))=some h5/\∃(n:Int) (D:Nat->Int),(aN (some (Addr.mk O.next 0 none))=true/\h5.cellsAt O.next 0 33=some ([Value.int IntKind.u32 n]++aK .u8 32 D))/\aN (some (Addr.mk ob 0 none))=true/\
    ∃h':Hp,h5.store ob 0 ([Value.int IntKind.u32 n]++aK .u8 32 D)=some h'/\∃(n:Int) (D:Nat->Int),(aN (some (Addr.mk ob 0 none))=true/\h'.cellsAt ob 0 33=some ([Value.int IntKind.u32 n]++aK .u8 32 D))/\K (Value.agg (Array.mk ([Value.int IntKind.u32 n]++aK .u8 32 D))) h':=by
  intro W G D Y ad ah hD bk bo r3 k3 E hY;obtain⟨h5,e5,b5,k5,n5,ai⟩:=bk.store (o:=1) (vs:=bc D) (by rw[Ug,aJ,aJ,hD,bI];exact Uf _) (aZ _);have es:splice ([Value.int .u32 (G:Int)]++bc bH) 1 (bc D)=[Value.int .u32 (G:Int)]++bc D:=by
   unfold splice;rw[aJ,hD];simp only[WZ,Wa,Vn,List.cons_append,VH];rw[VV (by rw[Ux,aJ,bI];omega),VJ]
  rw[es]at b5;have aj:=k5.blk bo fun y E U=>by simp at E;omega
  obtain⟨V,e6,b6,k6,n6,ak⟩:=aj.store (o:=0) (vs:=[Value.int .u32 (G:Int)]++bc D) (by rw[Ug,aJ,hD,af];exact Uf _) (by rw[Vt,aZ];rfl);have es:splice ac 0 ([Value.int .u32 (G:Int)]++bc D)=[Value.int .u32 (G:Int)]++bc D:=by
   unfold splice;rw[Vn,VH,VV (by rw[Ug,aJ,hD,af];exact Uf _),VJ]
  rw[es]at b6;refine⟨h5,by rw[aH hD];exact e5,(G:Int),cV D,⟨rfl,tT b5 hD⟩,rfl,V,by rw[aH hD];exact e6,(G:Int),cV D,⟨rfl,tT b6 hD⟩,?_⟩;rw[aH hD];refine hK G D V ah hD E ?_ ?_ (ak (ai ad))
  ·rw[<-hY];exact(r3.keep k5 (by omega)).keep k6 (fun U=>ag U.symm)
  ·exact((k3.mono wf (S':=fun y=>y=b\/y=ob) fun _ _ h=>.inl h).trans wf k5 fun y E U=>by omega).trans wf k6 fun _ _ h=>.inr h
 cases pg with
 | true =>
  rw[if_pos rfl];refine(KZ r1 hs).wf fun v h2 al a4 ⟨e,r2,k2⟩=>⟨_,e,rfl,rfl,?_⟩;have an:=k2.blk b1 fun y E U=>by simp at E;omega
  obtain⟨W,e3,b3,k3,n3,ad⟩:=an.set (o:=0) (v:=.int .u32 ((got (x.bind (bV 4)) 0:Nat):Int)) (by simp) rfl;have ad:=ad al;have f3:=k3.blk (k2.blk f1 fun y E U=>by simp at E;omega) fun y E U=>by simp at E;omega
  have o3:=k3.blk (k2.blk o1 fun y E U=>by simp at E;omega) fun y E U=>by simp at E;omega
  have r3:=r2.keep k3 (by omega);have ao:Keep (· = b) O W:=((k1.mono wf (S':=(· = b)) fun _ _ h=>h.elim).trans wf k2 fF).trans wf k3 fun g hg U=>by omega
  refine⟨W,e3,rfl,(w:Int),⟨rfl,f3.one rfl⟩,?_⟩;have ap:Blk W O.next (some O.next) ([.int .u32 ((got (x.bind (bV 4)) 0:Nat):Int)]++bc bH):=b3;refine(FA r3 hs w hw).wf fun v h4 ae aq ⟨e,r4,k4⟩=>?_;have aa:=qD hw (left (x.bind (bV 4)));refine⟨cV (got ((left (x.bind (bV 4))).bind (dR w)) bH),by rw[aH aa];exact e,rfl,rfl,?_⟩;refine fin h4 (got (x.bind (bV 4)) 0) (got ((left (x.bind (bV 4))).bind (dR w)) bH) _ ae (wG x) aa (k4.blk ap fun y E U=>by simp at E;omega) (k4.blk o3 fun y E U=>by simp at E;omega) r4 (ao.trans wf k4 fF) ?_ ?_
  ·intro y q E
   cases x with
   | none=>simp at E
   | some L =>
    simp only[Ul,qB,if_true]at E
    cases h5:bV 4 L with
    | none=>simp[h5]at E
    | some z =>
     obtain⟨k,R⟩:=z;simp only[h5,Ul]at E
     cases V:dR w R with
     | none=>simp[V]at E
     | some z =>
      obtain⟨u,Q⟩:=z;simp only[V,Uv,Um,Un]at E;rw[<-E.1];simp[h5,V]
  ·cases x with
   | none=>rfl
   | some L =>
    simp only[Ul,qB,if_true]
    cases h5:bV 4 L with
    | none=>rfl
    | some z =>
     obtain⟨k,R⟩:=z;simp only[Ul,Uv]
     cases V:dR w R with
     | none=>rfl
     | some z=>rfl
 | false =>
  rw[if_neg (by simp)];refine⟨rfl,(w:Int),⟨rfl,f1.one rfl⟩,?_⟩;refine(FA r1 hs w hw).wf fun v h4 ae aq ⟨e,r4,k4⟩=>?_;have aa:=qD hw x;refine⟨cV (got (x.bind (dR w)) bH),by rw[aH aa];exact e,rfl,rfl,?_⟩;refine fin h4 0 (got (x.bind (dR w)) bH) _ ae (by omega) aa (k4.blk b1 fun y E U=>by simp at E;omega) (k4.blk o1 fun y E U=>by simp at E;omega) r4 ((k1.mono wf (S':=(· = b)) fun _ _ h=>h.elim).trans wf k4 fF) ?_ ?_
  ·intro y q E
   cases x with
   | none=>simp at E
   | some L =>
    simp only[Ul,qB,if_false,VA]at E
    cases V:dR w L with
    | none=>simp[V]at E
    | some z =>
     obtain⟨u,Q⟩:=z;simp only[V,Uv,Um,Un]at E;rw[<-E.1];simp[V]
  ·cases x with
   | none=>rfl
   | some L =>
    simp only[Ul,qB,if_false,VA]
    cases V:dR w L with
    | none=>rfl
    | some z=>rfl
theorem CP(dF:Bool)(w mk i:Nat)(L:LU):gT dF w mk i L=(if 0 < i then cX mk L else some ([],L)).bind fun(sp,r)=>(qB dF w r).map fun((pg,d),t)=>((sp,pg,d),t):=by
 unfold gT qB;congr 1
 funext ⟨sp,r⟩
 simp only
 cases (if dF=true then bV 4 r else some (0,r)) with
 | none=>rfl
 | some y =>
  obtain⟨pg,q⟩:=y;simp only[Ul]
  cases dR w q with
  | none=>rfl
  | some z=>rfl
theorem vP:AppT Tryz.prog 65 65 9 1 16:=AppT.of _ (by kernel_rfl)
theorem TN{b i n f g m w n0 idx:Nat}{pg:Bool}{s:BA}{x:Option LU}{h:Hp}{pv kv:Value}{a:OA}{l:Nat}{Ks:List BA}{T:NP}
  (r:RS h b s x) (hi:Blk h i (some i) [.bool (decide (idx=0))]) (hn:Blk h n (some n) [pv,.slice a l l,kv]) (hf:Blk h f (some f) [.int .i64 (m:Int),.int .i64 (w:Int)]) (hg:Blk h g (some g) [.bool pg])
  (ai:b≠i/\b≠n/\b≠f/\b≠g/\i≠n/\i≠f/\i≠g/\n≠f/\n≠g) (aj:b < n0/\i < n0/\n < n0/\f < n0/\g < n0) (ao:n0<=h.next)
  (bd:Bd h 1 (fun y=>n0<=y/\T y) a l l (Ks.flatMap strc)) (hl:l<=1099511600) (hs:s.size<=1099511627776) (hm:m<=1099511627776) (hw:w<=32) {K:KT}
  (hK:∀(O:Nat) (D:LU) (a':OA) (l':Nat) (ag:List BA) (h':Hp),O<=4294967295->D.length=32->(∀y q,x.bind (gT pg w (m / 16) idx)=some (y,q)->y.2=(O,D)/\ag=if 0 < idx then Ks++[str y.1] else Ks)->
   RS h' b s (left (x.bind (gT pg w (m / 16) idx)))->Blk h' i (some i) [.bool false]->Blk h' n (some n) [pv,.slice a' l' l',kv]->Bd h' 1 (fun y=>n0<=y/\(T y/\y < h.next\/h.next<=y)) a' l' l' (ag.flatMap strc)->l'<=l+1->
   Keep (fun y=>y=b\/y=i\/y=n\/n0<=y/\T y) h h'->Wf h'->K (.agg ([Value.int .u32 (O:Int)]++bc D).toArray) h') :
  C 220 [pt b,pt i,pt n,pt f,pt g] h K:=by
 obtain⟨d1,d2,d3,d4,d5,d6,d7,d8,d9⟩:=ai;obtain⟨l1,l2,l3,l4,l5⟩:=aj;refine sv DV fun wf=>?_;intro h1 e1;rw[CU]at e1;obtain⟨b1,k1,ap,aa⟩:=aB wf e1;have i1:=Kept.blk k1 hi;have n1:=Kept.blk k1 hn;have f1:=Kept.blk k1 hf;have g1:=Kept.blk k1 hg;have r1:=r.keep k1 id;refine⟨_,⟨rfl,i1.one rfl⟩,?_⟩;by_cases h0:idx=0
 ·subst h0;rw[if_neg (by simp[aD])];obtain⟨h2,e2,i2,U,aq,W⟩:=i1.set (o:=0) (v:=.bool false) (by simp) rfl;have W:=W aa;refine⟨rfl,h2,e2,?_⟩;have ek:gT pg w (m / 16) 0=fun L=>(qB pg w L).map fun((p,d),t)=>(([],p,d),t):=by
   funext L;rw[CP,if_neg (by omega)];rfl
  refine ES (x:=x) (ob:=h.next) W (r1.keep U d1) (U.blk f1 fun y E G=>by simp at E;omega) (U.blk g1 fun y E G=>by simp at E;omega) (fun G=>d3 G.symm) (fun G=>d4 G.symm)
   (U.blk b1 fun y E G=>by simp at E;omega) (by rw[Ug,aJ,bI];rfl) (by omega) hs hw ?_
  intro O D h' ac hD E r' k' ad;have k0:Keep (fun y=>y=b\/y=i\/y=n\/n0<=y/\T y) h h':=((k1.mono wf (S':=fun y=>y=b\/y=i\/y=n\/n0<=y/\T y) fun _ _ h=>h.elim).trans wf (U.mono aa (S':=fun y=>y=b\/y=i\/y=n\/n0<=y/\T y) fun _ _ h=>.inr (.inl h)) fF).trans wf k' fun y E G=>by rcases G with h | h;exact .inl h;omega
  refine hK O D a l Ks h' ac hD ?_ ?_ (k'.blk i2 fun y E G=>by simp at E;omega) (k'.blk (U.blk n1 fun y E G=>by simp at E;omega) fun y E G=>by simp at E;omega) ?_ (by omega) k0 ad
  ·intro y q V;rw[ek]at V
   cases x with
   | none=>simp at V
   | some L =>
    simp only[Ul]at V E
    cases h5:qB pg w L with
    | none=>simp[h5]at V
    | some z =>
     obtain⟨⟨p,d⟩,t⟩:=z;simp only[h5,Uv,Um,Un]at V;have:=E (p,d) t h5;rw[<-V.1];exact⟨this,by simp⟩
  ·have:left (x.bind (gT pg w (m / 16) 0))=left (x.bind (qB pg w)):=by
    rw[ek]
    cases x with
    | none=>rfl
    | some L =>
     simp only[Ul]
     cases qB pg w L with
     | none=>rfl
     | some z=>rfl
   rw[this];exact r'
  ·exact((bd.bound wf).keep k1 fF).keep U (fun y E G=>by omega) |>.keep k' (fun y E G=>by rcases G with h | h <;> omega) |>.mono fun y E=>⟨E.1.1,.inl ⟨E.1.2,E.2⟩⟩
 ·rw[if_pos (by simp[aD,h0])];refine⟨rfl,a,l,l,⟨rfl,n1.one rfl⟩,(m:Int),(w:Int),⟨rfl,by rw[f1.cells (by simp)];rfl⟩,?_⟩;refine(xM _ _ h1).mono fun v h' ⟨e,eh⟩=>⟨_,e,⟨rfl,by rw[eh];exact n1.one rfl⟩,?_⟩;subst eh;rw[show(16:Int)=((16:Nat):Int) from rfl,quoN m 16 hm (by omega)];refine(HP r1 hs (m / 16) (by omega)).wf fun v h2 W ar ⟨e,r2,U⟩=>⟨_,e,?_⟩;have n2:=U.blk n1 fun y E G=>by simp at E;omega
  have f2:=U.blk f1 fun y E G=>by simp at E;omega
  have g2:=U.blk g1 fun y E G=>by simp at E;omega
  have i2:=U.blk i1 fun y E G=>by simp at E;omega
  have o2:=U.blk b1 fun y E G=>by simp at E;omega
  refine⟨⟨rfl,n2.one rfl⟩,?_⟩;intro h3 e3;have ak:Bd h2 1 (fun y=>n0<=y/\(T y/\y < h.next\/h.next<=y)/\y≠h.next) a l l (Ks.flatMap strc):=((bd.bound wf).keep k1 fF).keep U (fun y E G=>by omega) |>.mono fun y E=>⟨E.1.1,.inl ⟨E.1.2,E.2⟩,by omega⟩;obtain⟨a4,h4,e4,al,k4,an⟩:=Bd.append1 W vP (fun y E=>⟨by omega,.inr (by omega),by omega⟩) ak (new:=[.string (str (got (x.bind (cX (m / 16))) []))]) e3 rfl rfl (bM (by omega));have n4:=k4.blk n2 fun y E G=>by simp at E;omega
  obtain⟨h5,e5,n5,k5,au,ae⟩:=n4.set (o:=1) (v:=.slice a4 (l+1) (l+1)) (by simp) rfl;have ae:=ae an;have i4:=k5.blk (k4.blk i2 fun y E G=>by simp at E;omega) fun y E G=>by simp at E;omega
  obtain⟨h6,e6,i6,k6,av,af⟩:=i4.set (o:=0) (v:=.bool false) (by simp) rfl;have af:=af ae;refine⟨a4,l+1,l+1,h4,e4,rfl,rfl,h5,e5,rfl,h6,e6,?_⟩;have r6:=((r2.keep k4 (by omega)).keep k5 d2).keep k6 d1;have f6:=k6.blk (k5.blk (k4.blk f2 fun y E G=>by simp at E;omega) fun y E G=>by simp at E;omega) fun y E G=>by simp at E;omega
  have g6:=k6.blk (k5.blk (k4.blk g2 fun y E G=>by simp at E;omega) fun y E G=>by simp at E;omega) fun y E G=>by simp at E;omega
  have o6:=k6.blk (k5.blk (k4.blk o2 fun y E G=>by simp at E;omega) fun y E G=>by simp at E;omega) fun y E G=>by simp at E;omega
  have n6:=k6.blk n5 fun y E G=>by simp at E;omega
  have ah:Keep (fun y=>y=b\/y=i\/y=n\/n0<=y/\T y) h h6 :=
   ((((k1.mono wf (S':=fun y=>y=b\/y=i\/y=n\/n0<=y/\T y) fun _ _ h=>h.elim).trans wf (U.mono aa (S':=fun y=>y=b\/y=i\/y=n\/n0<=y/\T y) fun _ _ h=>.inl h) fF).trans wf k4 fun y E G=>by
    rcases G.2.1 with h | h
    ·exact .inr (.inr (.inr ⟨G.1,h.1⟩))
    ·omega).trans wf k5 fun y E G=>.inr (.inr (.inl G))).trans wf k6 fun y E G=>.inr (.inl G)
  have ax:=ah.next;refine ES (x:=left (x.bind (cX (m / 16)))) (ob:=h.next) af r6 f6 g6 (fun G=>d3 G.symm) (fun G=>d4 G.symm) o6 (by rw[Ug,aJ,bI];rfl) (by omega) hs hw ?_;intro O D h' ac hD E r' k' ad;refine hK O D a4 (l+1) (Ks++[str (got (x.bind (cX (m / 16))) [])]) h' ac hD ?_ ?_ (k'.blk i6 fun y E G=>by simp at E;omega) (k'.blk n6 fun y E G=>by simp at E;omega) ?_ (by omega) (ah.trans wf k' fun y E G=>by rcases G with h | h;exact .inl h;omega) ad
  ·intro y q V
   cases x with
   | none=>simp at V
   | some L =>
    simp only[Ul,CP,if_pos (Nat.pos_of_ne_zero h0)]at V E ⊢
    cases h5:cX (m / 16) L with
    | none=>simp[h5]at V
    | some z =>
     obtain⟨sp,R⟩:=z;simp only[h5,Ul,Uv]at V E ⊢
     cases h6:qB pg w R with
     | none=>simp[h6]at V
     | some z =>
      obtain⟨⟨p,d⟩,t⟩:=z;simp only[h6,Uv,Um,Un]at V;have:=E (p,d) t h6;rw[<-V.1];exact⟨this,rfl⟩
  ·have:left (x.bind (gT pg w (m / 16) idx))=left ((left (x.bind (cX (m / 16)))).bind (qB pg w)):=by
    cases x with
    | none=>rfl
    | some L =>
     simp only[Ul,CP,if_pos (Nat.pos_of_ne_zero h0)]
     cases h5:cX (m / 16) L with
     | none=>rfl
     | some z =>
      obtain⟨sp,R⟩:=z;simp only[Ul,Uv]
      cases h6:qB pg w R with
      | none=>rfl
      | some z=>rfl
   rw[this];exact r'
  ·rw[VX];refine(((al.keep k5 (fun y E G=>by omega)).keep k6 (fun y E G=>by omega)).keep k' (fun y E G=>?_)).mono fun y E=>⟨E.1,E.2.1⟩;rcases G with h | h
   ·omega
   ·exact E.2.2 h
end Go.Proofs.YtmapagggnigfpaaGreat.pk
namespace Go.Cn.Pk
theorem Lk{n:Nat}(h:n < 256):(UInt8.ofNat n).toNat=n:=by rw[Wp,Up h]
theorem KI:∀(x:Nat) (k n:Nat) (r:LU),k<=9->(0 < k->0 < x)->x * 2 ^ (7 * k) < 18446744073709551616->eT (cU x++r) k n=some (n+x * 2 ^ (7 * k),r):=by
 intro x
 induction x using Nat.strongRecOn with
 | _ x W =>
  intro k n r hk h0 O;have G:(2:Nat) ^ (7 * 9)=9223372036854775808:=by decide
  by_cases E:x < 128
  ·rw[mG E];have e1:=Lk (n:=x) (by omega);show eT (UInt8.ofNat x::r) k n=_;unfold eT;rw[e1,if_neg,if_pos E,Up E];rintro(⟨rfl,h⟩ | ⟨h1,h2⟩)
   ·rw[G]at O;omega
   ·have:=h0 h1;omega
  ·rw[mH E];have e1:=Lk (n:=x % 128+128) (by omega);have U:0 < (2:Nat) ^ (7 * k):=Nat.pow_pos (by omega);have V:(2:Nat) ^ (7 * (k+1))=128 * 2 ^ (7 * k):=by rw[show 7 * (k+1)=7+7 * k by omega,Nat.pow_add]
   have hmul:x / 128 * (128 * 2 ^ (7 * k))+x % 128 * 2 ^ (7 * k)=x * 2 ^ (7 * k):=by
    rw[<-WY,<-Vb];congr 1;omega
   have aa:k≠9:=by
    rintro rfl;rw[G]at O;omega
   show eT (UInt8.ofNat (x % 128+128)::(cU (x / 128)++r)) k n=_;unfold eT;rw[e1,if_neg (by omega),if_neg (by omega),W (x / 128) (by omega) (k+1) _ r (by omega) (fun _=>by omega) (by rw[V];omega),V,show(x % 128+128) % 128=x % 128 by omega];congr 2
   omega
theorem SZ{x y q:Nat}(E:q=72057594037927936)(V:y < 128)(h:x * (128 * q) < 18446744073709551616):(128 * x+y) * q < 18446744073709551616:=by
 have W:x < 2:=by
  apply Nat.lt_of_not_le;intro G;have:=VU (128 * q) G;rw[E]at this h;exact absurd (WO this h) (by decide)
 have O:128 * x+y<=255:=by omega
 have U:=VU q O;exact WO U (by rw[E];decide)
theorem yY:∀{L:LU} {k n m:Nat} {r:LU},k<=9->eT L k n=some (m,r)->∃x,L=cU x++r/\m=n+x * 2 ^ (7 * k)/\(0 < k->0 < x)/\x * 2 ^ (7 * k) < 18446744073709551616
 | [],k,n,m,r,hk,h=>by simp[eT]at h
 | b::L,k,n,m,r,hk,h=>by
  have O:(2:Nat) ^ (7 * 9)=9223372036854775808:=by decide
  have hb:=b.toNat_lt;unfold eT at h
  split at h
  ·simp at h
  ·rename_i W
   split at h
   ·rename_i E
    simp only[Um,Un]at h;obtain⟨rfl,rfl⟩:=h;refine⟨b.toNat,?_,by rw[Up E],fun h0=>by omega,?_⟩
    ·rw[mG E,UInt8.ofNat_toNat];rfl
    ·by_cases h9:k=9
     ·subst h9;rw[O];omega
     ·have:(2:Nat) ^ (7 * k)<=2 ^ 56:=Nat.pow_le_pow_right (by omega) (by omega);have U:(2:Nat) ^ 56=72057594037927936:=by decide
      have:=WB (Nat.le_of_lt_succ (Nat.lt_succ_of_lt E)) this
      omega
   ·rename_i E
    have ac:k≠9:=by rintro rfl;omega
    obtain⟨x,rfl,rfl,hx,G⟩:=yY (by omega) h;have hx:=hx (by omega);have e7:(2:Nat) ^ (7 * (k+1))=128 * 2 ^ (7 * k):=by rw[show 7 * (k+1)=7+7 * k by omega,Nat.pow_add]
    rw[e7]at G;have hmul:x * (128 * 2 ^ (7 * k))+b.toNat % 128 * 2 ^ (7 * k)=(128 * x+b.toNat % 128) * 2 ^ (7 * k):=by
     rw[Vb,<-WY];congr 2;omega
    refine⟨128 * x+b.toNat % 128,?_,by rw[e7,<-hmul];omega,fun _=>by omega,?_⟩
    ·rw[mH (n:=128 * x+b.toNat % 128) (by omega),show(128 * x+b.toNat % 128) / 128=x by omega,show(128 * x+b.toNat % 128) % 128+128=b.toNat by omega,UInt8.ofNat_toNat];rfl
    ·by_cases V:k=8
     ·subst V;have U:(2:Nat) ^ (7 * 8)=72057594037927936:=by decide
      exact SZ U (Nat.mod_lt _ (by omega)) G
     ·
      have ad:(128 * x+b.toNat % 128) * 2 ^ (7 * k) < (x+1) * (128 * 2 ^ (7 * k)):=by
       rw[<-WY];exact Nat.mul_lt_mul_of_pos_right (by omega) (Nat.pow_pos (by omega))
      have aa:(x+1) * (128 * 2 ^ (7 * k))<=18446744073709551616:=by
       have hq:18446744073709551616=2 ^ (64 - (7 * k+7)) * (128 * 2 ^ (7 * k)):=by
        rw[show(128:Nat)=2 ^ 7 by decide,<-Nat.pow_add,<-Nat.pow_add,show 64 - (7 * k+7)+(7+7 * k)=64 by omega]
       rw[hq]at G ⊢;have:=Nat.lt_of_mul_lt_mul_right G;exact VU _ this
      omega
theorem tV{m x:Nat}(h:x<=m)(hm:m < 18446744073709551616)(r:LU):dK m (cU x++r)=some (x,r):=by
 unfold dK;rw[KI x 0 0 r (by omega) (by omega) (by simp;omega)];simp only[Nat.mul_zero,Nat.pow_zero,Ve,Nat.zero_add];rw[if_neg (by omega)]
theorem vG{m x:Nat}{L r:LU}(h:dK m L=some (x,r)):L=cU x++r/\x<=m:=by
 refine⟨?_,Go.Proofs.YtmapagggnigfpaaGreat.pk.freeP_le h⟩;unfold dK at h
 split at h
 ·rename_i n r' E
  split at h
  ·simp at h
  ·simp only[Um,Un]at h;obtain⟨rfl,rfl⟩:=h;obtain⟨x,rfl,rfl,_⟩:=yY (by omega) E;simp
 ·simp at h
theorem xA{n:Nat}{a:LU}(h:a.length=n)(r:LU):fP n (a++r)=some (a,r):=by
 unfold fP;rw[if_neg (by rw[Ug];omega),Vz (by omega),Uj (by omega),Vy (by omega),VV (by omega)]
 rfl
theorem tH{n:Nat}{L a r:LU}(h:fP n L=some (a,r)):L=a++r/\a.length=n:=by
 refine⟨?_,Go.Proofs.YtmapagggnigfpaaGreat.pk.rawP_len h⟩;unfold fP at h
 split at h
 ·simp at h
 ·simp only[Um,Un]at h;rw[<-h.1,<-h.2,WA]
theorem nQ{m:Nat}(t:BA)(h:t.size<=m)(hm:m < 18446744073709551616)(r:LU):cX m (gI t++r)=some (t.data.toList,r):=by
 unfold cX gI;rw[Ut,tV h hm];simp only[Ul];exact xA VE r
theorem uQ{m:Nat}{L a r:LU}(h:cX m L=some (a,r)):L=gI (str a)++r/\a.length<=m:=by
 unfold cX at h
 cases E:dK m L with
 | none=>simp[E]at h
 | some y =>
  obtain⟨n,q⟩:=y;simp only[E,Ul]at h;obtain⟨rfl,G⟩:=vG E;obtain⟨rfl,rfl⟩:=tH h;refine⟨?_,G⟩;unfold gI;rw[eQ,jC,Ut]
theorem yI:∀(L:LU) (b:UInt8),num (b::L)=b.toNat * 256 ^ L.length+num L:=by
 have gen:∀(L:LU) (n:Nat),L.foldl (fun n b=>n * 256+b.toNat) n=n * 256 ^ L.length+num L:=by
  intro L
  induction L with
  | nil=>intro n;simp[num]
  | cons c L E =>
   intro n;unfold num;simp only[Vx,Ux];rw[E,E (0 * 256+c.toNat),Nat.pow_succ,Vb];simp only[Nat.zero_mul,Nat.zero_add];rw[WY,WN 256,Vw]
 intro L b;unfold num;simp only[Vx];rw[gen];simp[num]
theorem Ge:∀(n x:Nat),x < 256 ^ n->num (be n x)=x
 | 0,x,h=>by simp at h;subst h;rfl
 | n+1,x,h=>by
  unfold be;rw[yI,cO];have G:x >>> (8 * n)=x / 256 ^ n:=by
   rw[WK,Nat.pow_mul]
  have O:x / 256 ^ n < 256:=Nat.div_lt_of_lt_mul (by rw[Nat.pow_succ]at h;exact h);rw[G,Lk O];have E:be n x=be n (x % 256 ^ n):=by
   have:∀j,j<=n->be j x=be j (x % 256 ^ n):=by
    intro j
    induction j with
    | zero=>intro _;rfl
    | succ j U =>
     intro V;unfold be;rw[U (by omega)];congr 1;apply Wn.1;rw[Wp,Wp,WK,WK,show(2:Nat) ^ 8=256 by decide,Nat.pow_mul,show(2:Nat) ^ 8=256 by decide];have:(256:Nat) ^ n=256 ^ j * 256 ^ (n - j):=by rw[<-Nat.pow_add];congr 1;omega
     rw[this,Nat.mod_mul_right_div_self,Nat.mod_mod_of_dvd];rw[show n - j=(n - j - 1)+1 by omega,Nat.pow_succ];exact Nat.dvd_mul_left _ _
   exact this n (Uf _)
  rw[E,Ge n (x % 256 ^ n) (Nat.mod_lt _ (Nat.pow_pos (by omega))),WN];exact Nat.div_add_mod x (256 ^ n)
theorem SG(L:LU):be L.length (num L)=L:=by
 induction L with
 | nil=>rfl
 | cons b L G =>
  rw[Ux];unfold be;have hl:=sJ L;have hb:=b.toNat_lt;have e1:num (b::L) >>> (8 * L.length)=b.toNat:=by
   rw[yI,WK,Nat.pow_mul,show(2:Nat) ^ 8=256 by decide,WN,Nat.mul_add_div (Nat.pow_pos (by omega)),Nat.div_eq_of_lt hl,Vk]
  rw[e1,UInt8.ofNat_toNat];congr 1;have:∀j,j<=L.length->be j (num (b::L))=be j (num L):=by
   intro j
   induction j with
   | zero=>intro _;rfl
   | succ j E =>
    intro O;unfold be;rw[E (by omega)];congr 1;apply Wn.1;rw[Wp,Wp,WK,WK,show(2:Nat) ^ 8=256 by decide,Nat.pow_mul,show(2:Nat) ^ 8=256 by decide,yI];have e:(256:Nat) ^ L.length=256 ^ j * (256 * 256 ^ (L.length - j - 1)):=by
     rw[WN 256,<-Nat.pow_succ,<-Nat.pow_add];congr 1;omega
    rw[e,WN b.toNat,WY,Nat.mul_add_div (Nat.pow_pos (by omega)),WY,Nat.mul_add_mod]
  rw[this _ (Uf _),G]
theorem DZ{x:Nat}(h:x<=4294967295)(r:LU):bV 4 (be 4 x++r)=some (x,r):=by
 unfold bV;rw[xA (cO 4 x)];simp only[Uv];rw[Ge 4 x (by have:(256:Nat) ^ 4=4294967296:=(by decide);omega)]
theorem uS{n x:Nat}{L r:LU}(h:bV n L=some (x,r)):L=be n x++r:=by
 unfold bV at h
 cases hr:fP n L with
 | none=>simp[hr]at h
 | some y =>
  obtain⟨a,q⟩:=y;obtain⟨rfl,rfl⟩:=tH hr;simp only[hr,Uv,Um,Un]at h;obtain⟨rfl,rfl⟩:=h;rw[SG]
theorem PC{w:Nat}{d:LU}(E:d.length=32)(hw:w<=32):iG (d.take w)=dX w d:=by
 unfold iG dX;rw[Uq];congr 2
 omega
theorem IG{w:Nat}{d:LU}(E:d.length=32)(hw:w<=32)(G:dX w d=d)(r:LU):dR w (d.take w++r)=some (d,r):=by
 unfold dR;rw[xA (by rw[Uq];omega)];simp only[Uv];rw[PC E hw,G]
theorem Mu{w:Nat}(hw:w<=32){L d r:LU}(h:dR w L=some (d,r)):L=d.take w++r/\d.length=32/\dX w d=d:=by
 refine⟨?_,Go.Proofs.YtmapagggnigfpaaGreat.pk.digP_len hw h,?_⟩
 ·unfold dR at h
  cases hr:fP w L with
  | none=>simp[hr]at h
  | some y =>
   obtain⟨a,q⟩:=y;obtain⟨rfl,E⟩:=tH hr;simp only[hr,Uv,Um,Un]at h;rw[<-h.1,<-h.2];unfold iG;rw[Vz (by omega),Uj (by omega)]
 ·unfold dR at h
  cases hr:fP w L with
  | none=>simp[hr]at h
  | some y =>
   obtain⟨a,q⟩:=y;obtain⟨rfl,E⟩:=tH hr;simp only[hr,Uv,Um,Un]at h;rw[<-h.1];unfold dX iG;rw[Vz (by omega),Uj (by omega),E]
end Go.Cn.Pk
namespace Go.Proofs.YtmapagggnigfpaaGreat.pk
open Cn Cn.Pk vc
theorem Gl{α:Type}{p:Nat->LU->Option (α×LU)}{i:Nat}{L:LU}(h:p i L=none)(n:Nat):kQ p i (n+1) L=none:=by unfold kQ;rw[h];rfl
theorem zX:AppT Tryz.prog 120 120 131 33 36:=AppT.of _ (by kernel_rfl)
def KidOk(k:jL):Prop:=k.2.1<=4294967295/\k.2.2.length=32
theorem SF{b i n f g m w:Nat}{pg:Bool}{s:BA}{x:Option LU}{h:Hp}{pv kv:Value}
  (r:RS h b s x) (hi:Blk h i (some i) [.bool true]) (hn:Blk h n (some n) [pv,.slice none 0 0,kv]) (hf:Blk h f (some f) [.int .i64 (m:Int),.int .i64 (w:Int)]) (hg:Blk h g (some g) [.bool pg])
  (a8:b≠i/\b≠n/\b≠f/\b≠g/\i≠n/\i≠f/\i≠g/\n≠f/\n≠g) (hs:s.size<=1099511500) (hm:m<=1099511627776) (hw:w<=32) (G:Nat) (bp:G<=1099511627776) {K:KT}
  (hK:∀(v:Value) (a2:OA) (l2:Nat) (h':Hp),(match x.bind (jH (gT pg w (m / 16)) G) with
    | some (l,_)=>∃a,v = .slice a l.length l.length/\(∃T:NP,Bd h' 33 (fun y=>h.next<=y/\¬T y) a l.length l.length (l.flatMap rX)/\Bd h' 1 (fun y=>h.next<=y/\T y) a2 l2 l2 (((l.drop 1).map fun k=>str k.1).flatMap strc))/\∀k∈l,KidOk k
    | none=>v = .slice none 0 0)->RS h' b s (left (x.bind (jH (gT pg w (m / 16)) G)))->Blk h' n (some n) [pv,.slice a2 l2 l2,kv]->Keep (fun y=>y=b\/y=i\/y=n) h h'->Wf h'->K v h') :
  C 219 [pt b,.int .i64 (G:Int),.func (.func 220) #[] #[pt i,pt n,pt f,pt g]] h K:=by
 obtain⟨d1,d2,d3,d4,d5,d6,d7,d8,d9⟩:=a8;refine sv Lh fun wf=>?_;have a9:=r.glt wf;have ba:=hi.glt wf;have bb:=hn.glt wf;have bf:=hf.glt wf;have bg:=hg.glt wf;refine(pE r).mono fun v h' ⟨e,eh⟩=>⟨_,e,?_⟩;subst eh
 cases x with
 | none=>rw[if_pos (show(none:Option LU).isNone=true from rfl)];exact hK _ _ _ _ rfl r hn (Keep.refl _ _) wf
 | some L =>
  rw[if_neg (by simp)];obtain⟨p,hp,eL,r0⟩:=r;refine⟨rfl,rfl,(p:Int),⟨rfl,Blk.one r0 rfl⟩,?_⟩;have em:cC .u64 (pX 0 (G:Int))=((G:Nat):Int):=by
   have:pX 0 (G:Int)=(G:Int):=by unfold pX;split <;> omega
   rw[this,cQ,Up (by omega)]
  rw[em];refine(HQ (x:=some L) ⟨p,hp,eL,r0⟩ (by omega) G).wf fun v h1 ak bq ⟨e,r1,k1⟩=>⟨_,e,?_⟩;have ai:Keep (fun y=>y=b\/y=i\/y=n) h' h1:=k1.mono wf (S':=fun y=>y=b\/y=i\/y=n) fun _ _ h=>.inl h;have n1:=k1.blk hn fun y E V=>by simp at E;omega
  refine(pE r1).mono fun v br ⟨e,eh⟩=>⟨_,e,?_⟩;subst eh;simp only[Ul]at r1 hK ⊢
  cases ac:dK G L with
  | none =>
   rw[ac]at r1;rw[if_pos (show(left (none:Option (Nat×LU))).isNone=true from rfl)];have:jH (gT pg w (m / 16)) G L=none:=by unfold jH;rw[ac];rfl
   exact hK _ _ _ _ (by rw[this]) (by rw[this];exact r1) n1 ai ak
  | some y =>
   obtain⟨N,R⟩:=y;have bt:=freeP_le ac;rw[ac]at r1;rw[if_neg (by simp)];have r1:RS _ b s (some R):=r1;simp only[got];refine(Cp r1 (by omega)).mono fun v h3 ⟨e,eh⟩=>⟨_,e,?_⟩;subst eh;have bu:=RS.rest r1;have et:cC .u64 (R.length:Int)=(R.length:Int):=by rw[cQ,Up (by omega)]
   rw[et];by_cases V:dB (N:Int) (R.length:Int)=true
   ·rw[if_pos V];obtain⟨q,hq,eR,r2⟩:=r1;refine(Cr r2 12 (by decide) p hp).wf fun v h2 aj bv ⟨e,r3,k3⟩=>?_;have:jH (gT pg w (m / 16)) G L=none:=by
     unfold jH;rw[ac];simp only[Ul];rw[if_pos (by rw[aS]at V;omega)]
    refine⟨e,hK _ _ _ _ (by rw[this]) (by rw[this];exact r3) (k3.blk n1 fun y E V=>by simp at E;omega) (ai.trans wf k3 fun _ _ h=>.inl h) aj⟩
   ·rw[if_neg V];have bw:N<=R.length:=by rw[aS]at V;omega
    have bh:jH (gT pg w (m / 16)) G L=kQ (gT pg w (m / 16)) 0 N R:=by
     unfold jH;rw[ac];simp only[Ul];rw[if_neg (by omega)]
    rw[bh]at hK;refine⟨fun vals mm O=>∃(j:Nat) (U:List jL) (Q:LU) (a a2:OA) (l2:Nat) (T:NP),[.slice a j j,.int .u64 (j:Int)]=vals/\mm=N - j/\j<=N/\U.length=j/\
     kQ (gT pg w (m / 16)) 0 N R=(kQ (gT pg w (m / 16)) j (N - j) Q).map (fun(l,q)=>(U++l,q))/\RS O b s (some Q)/\Blk O i (some i) [.bool (decide (j=0))]/\Blk O n (some n) [pv,.slice a2 l2 l2,kv]/\
     Bd O 33 (fun y=>h'.next<=y/\¬T y) a j j (U.flatMap rX)/\Bd O 1 (fun y=>h'.next<=y/\T y) a2 l2 l2 (((U.drop 1).map fun k=>str k.1).flatMap strc)/\(∀k∈U,KidOk k)/\l2<=j/\Keep (fun y=>y=b\/y=i\/y=n) h' O/\Wf O,
     ⟨N,0,[],R,none,none,0,fun _=>False,rfl,rfl,Uk _,rfl,?_,r1,k1.blk hi (fun y E V=>by simp at E;omega),n1,Bd.nil _ _ _,Bd.nil _ _ _,by simp,Uf _,ai,ak⟩,?_⟩
    ·rw[Nat.sub_zero]
     cases kQ (gT pg w (m / 16)) 0 N R with
     | none=>rfl
     | some z=>simp
    rintro a0 l0 c0 bx mm O ⟨j,U,Q,a,a2,l2,T,e,rfl,hj,ad,W,rQ,ij,nj,al,an,ao,bz,kk,aa⟩;simp at e;obtain⟨⟨rfl,rfl,rfl⟩,rfl⟩:=e;have b3:=kk.next;have fh:=kk.blk hf fun y E V=>by simp at E;omega
    have gh:=kk.blk hg fun y E V=>by simp at E;omega
    by_cases ag:bO (j:Int) (N:Int)=true
    ·rw[if_pos ag];have ap:j < N:=by rw[aC]at ag;omega
     intro h2 e2;rw[CU]at e2;rw[if_pos (show aD false=true from rfl)];obtain⟨b2,k2,b5,aj⟩:=aB aa e2;have aq:Bd h2 1 (fun y=>h'.next<=y/\(T y/\y < O.next)) a2 l2 l2 (((U.drop 1).map fun k=>str k.1).flatMap strc):=((an.bound aa).keep k2 fF).mono fun y E=>⟨E.1.1,E.1.2,E.2⟩;have ar:Bd h2 33 (fun y=>h'.next<=y/\¬T y/\y < O.next) a j j (U.flatMap rX):=((al.bound aa).keep k2 fF).mono fun y E=>⟨E.1.1,E.1.2,E.2⟩;rw[show N - j=N - (j+1)+1 by omega]at W;refine TN (n0:=h'.next) (idx:=j) (T:=fun y=>T y/\y < O.next) (rQ.keep k2 id) (Kept.blk k2 ij) (Kept.blk k2 nj) (Kept.blk k2 fh) (Kept.blk k2 gh) ⟨d1,d2,d3,d4,d5,d6,d7,d8,d9⟩ ⟨a9,ba,bb,bf,bg⟩ (by omega) aq (by omega) (by omega) hm hw ?_;intro ae D a3 l3 au h3 bi hD E r3 i3 n3 av b6 k3 ax;have b7:=k3.next;refine⟨(ae:Int),cV D,by rw[aH hD],rfl,?_⟩;have bj:=k3.blk b2 fun y E V=>by simp at E;omega
     obtain⟨h4,e4,b4,k4,b9,af⟩:=bj.store (o:=0) (vs:=[Value.int .u32 (ae:Int)]++bc D) (by rw[Ug,Ug,aJ,aJ,hD,bI];exact Uf _) (by rw[Vt,aZ];rfl);have es:splice ([Value.int .u32 0]++bc bH) 0 ([Value.int .u32 (ae:Int)]++bc D)=[Value.int .u32 (ae:Int)]++bc D:=by
      unfold splice;rw[Vn,VH,VV (by rw[Ug,Ug,aJ,aJ,hD,bI];exact Uf _),VJ]
     rw[es]at b4;have af:=af ax;have r4:=r3.keep k4 (by omega);have i4:=k4.blk i3 fun y E V=>by simp at E;omega
     have n4:=k4.blk n3 fun y E V=>by simp at E;omega
     refine⟨h4,by rw[aH hD];exact e4,(pE r4).mono fun v h5 ⟨e,eh⟩=>⟨_,e,?_⟩⟩;subst eh;have bk:Keep (fun y=>(y=b\/y=i\/y=n\/h'.next<=y/\T y/\y < O.next)\/y=O.next) O h5:=((k2.mono aa (S':=fun y=>(y=b\/y=i\/y=n\/h'.next<=y/\T y/\y < O.next)\/y=O.next) fun _ _ h=>h.elim).trans aa (k3.mono aj (S':=fun y=>(y=b\/y=i\/y=n\/h'.next<=y/\T y/\y < O.next)\/y=O.next) fun _ _ h=>.inl h) fF).trans aa (k4.mono ax (S':=fun y=>(y=b\/y=i\/y=n\/h'.next<=y/\T y/\y < O.next)\/y=O.next) fun _ _ h=>.inr h) fF;have ay:Keep (fun y=>y=b\/y=i\/y=n) h' h5:=kk.trans wf bk fun y E hs=>by omega
     cases hq:gT pg w (m / 16) j Q with
     | none =>
      simp only[Ul,hq]at r4 ⊢;rw[if_pos (show(left (none:Option (jL×LU))).isNone=true from rfl)];rw[Gl hq]at W;refine hK _ a3 l3 h5 ?_ ?_ n4 ay af
      ·rw[W];rfl
      ·rw[W];exact r4
     | some z =>
      obtain⟨⟨zs,zp,zd⟩,Q'⟩:=z;obtain⟨hz,bl⟩:=E (zs,zp,zd) Q' (by simp[hq]);obtain⟨rfl,rfl⟩:zp=ae/\zd=D:=by simpa using hz
      simp only[Ul,hq]at r4 ⊢;rw[if_neg (by simp)];refine⟨(zp:Int),cV zd,⟨rfl,tT b4 hD⟩,?_⟩;intro h6 e6;rw[aH hD]at e6;have az:Bd h5 33 (fun y=>h'.next<=y/\(¬T y/\y < O.next\/h5.next<=y)) a j j (U.flatMap rX):=((ar.keep k3 fun y E V=>by rcases V with h | h | h | h <;> first | omega | exact E.2.1 h.2.1).keep k4 fun y E V=>by omega).mono fun y E=>⟨E.1,.inl ⟨E.2.1,E.2.2⟩⟩;have a4:Bd h5 1 (fun y=>h'.next<=y/\(T y/\y < O.next\/h2.next<=y)/\y < h5.next) a3 l3 l3 (au.flatMap strc):=((av.keep k4 fun y E V=>by omega).bound af).mono fun y E=>⟨E.1.1,by rcases E.1.2 with h | h;exact .inl h.1;exact .inr h,E.2⟩;obtain⟨a7,h7,e7,bm,k7,bn⟩:=Bd.append1 af zX (S:=fun y=>h'.next<=y/\(¬T y/\y < O.next\/h5.next<=y)) (fun y E=>⟨by omega,.inr E⟩) az (new:=[Value.int .u32 (zp:Int)]++bc zd) e6 (by rw[Ug,aJ,hD];rfl) (by rw[Vt,aZ];rfl) (bM (by omega));have ah:∀y,((T y/\y < O.next\/h2.next<=y)/\y < h5.next)->¬(¬T y/\y < O.next\/h5.next<=y):=by
       rintro y ⟨h1 | h1,ca⟩ (a5 | a5)
       ·exact a5.1 h1.1
       ·omega
       ·omega
       ·omega
      refine⟨a7,j+1,j+1,h7,e7,N - (j+1),by simp only[aI];omega,j+1,U++[(zs,zp,zd)],Q',a7,a3,l3,fun y=>(T y/\y < O.next\/h2.next<=y)/\y < h5.next,?_,rfl,by omega,by simp[ad],?_,?_,?_,?_,?_,?_,?_,by omega,?_,bn⟩
      ·rw[show aG .u64 (j:Int) 1=((j+1:Nat):Int) by
        unfold aG;have:(j:Int)+1=((j+1:Nat):Int):=by omega
        rw[this,Go.Cn.Sha.wrap_u64,Up (by omega)]]
      ·rw[W,<-tO]
       conv=>lhs;unfold kQ
       rw[hq]
       rfl
      ·exact r4.keep k7 (fun V=>by omega)
      ·rw[decide_eq_false (by omega)];exact k7.blk i4 fun y E V=>by simp at E;omega
      ·exact k7.blk n4 fun y E V=>by simp at E;omega
      ·rw[VX,show List.flatMap rX [(zs,zp,zd)]=[Value.int .u32 (zp:Int)]++bc zd by simp[rX]];exact bm.mono fun y E=>⟨E.1,fun V=>ah y V E.2⟩
      ·have bo:((U++[(zs,zp,zd)]).drop 1).map (fun k:jL=>str k.1)=au:=by
        rw[bl];by_cases a6:0 < j
        ·rw[if_pos a6,Vy (by omega),VY];rfl
        ·rw[if_neg a6];have:U=[]:=VS (by omega);subst this;rfl
       rw[bo];exact(a4.keep k7 fun y E V=>ah y E.2 V.2).mono fun y E=>⟨E.1,E.2⟩
      ·intro k hk;rcases VF.1 hk with hk | hk
       ·exact ao k hk
       ·simp at hk;subst hk;exact⟨bi,hD⟩
      ·exact ay.trans wf k7 fun y E hs=>by omega
    ·rw[if_neg ag];have ap:j=N:=by
      have:¬j < N:=fun V=>ag (by rw[aC];omega)
      omega
     subst ap;rw[Vu]at W;have:kQ (gT pg w (m / 16)) 0 j R=some (U,Q):=by rw[W];simp[kQ]
     refine hK _ a2 l2 O ?_ ?_ nj kk aa
     ·rw[this];refine⟨a,by rw[ad],⟨T,by rw[ad];exact al,an⟩,ao⟩
     ·rw[this];exact rQ
end Go.Proofs.YtmapagggnigfpaaGreat.pk
namespace Go.Cn.Pk
def cS(p w:Int)(N:NodeT):Prop :=
 if N.leaf=true then AF (eP .i64 p 16) (N.ps.map (·.1))/\¬∃q∈N.ps,(q.2.size:Int) > eP .i64 p 8
 else N.ps.length=0/\2<=N.ks.length/\N.K.length+1=N.ks.length/\(¬∃k∈N.ks,¬(fW w/\dX w.toNat k.sum=k.sum))/\AF (eP .i64 p 16) N.K
def kL(p w:Int)(N:NodeT)(e:Int):Prop:=(¬Fr p w/\e=2)\/(Fr p w/\cS p w N/\e=0)\/(Fr p w/\¬cS p w N/\e=70)
end Go.Cn.Pk
namespace Go.Proofs.YtmapagggnigfpaaGreat.pk
open Cn Cn.Pk vc
theorem Nq{h:Hp}{n:Nat}{nv:Value}{N:NodeT}(x:NodeAt h n nv N)(p w:Int)(au:N.ps.length<=1099511500000)(av:N.K.length<=1099511500000)(ax:N.ks.length<=1099511500000):
  C 128 [fr p w,nv] h fun r h'=>(∃e:Int,r = .int .i64 e/\kL p w N e)/\h'=h:=by
 refine SCalls.trim (K:=fun r h'=>(∃e:Int,r = .int .i64 e/\kL p w N e)/\Kept h h') (of_decide_eq_true (by kernel_rfl)) ?_ fun v h' ⟨⟨e,e1,e2⟩,k⟩=>⟨fS k,by rw[e1];rfl,e,e1,e2⟩;obtain⟨a1,l1,c1,a2,l2,c2,a3,l3,c3,rfl,q1,q2,q3⟩:=x;refine sv JQ fun wf=>?_;intro U e1 h2 e2;obtain⟨b1,k1,n1,ai⟩:=aB wf e1;obtain⟨b2,k2,n2,ay⟩:=aB ai e2;have ae:Kept h h2:=k1.trans wf k2 fF;have af:=Kept.blk k2 b1;have aj:N.K.length=l2:=by obtain⟨_,_,q⟩:=q2;exact q.len
 have ak:N.ks.length=l3:=by obtain⟨_,_,q⟩:=q3;exact q.len
 have az:N.ps.length=l1:=by obtain⟨_,_,q⟩:=q1;exact q.len
 refine⟨p,w,⟨rfl,by rw[af.cells (by simp)];rfl⟩,?_⟩;refine(zS p w h2).mono fun v al ⟨e,an⟩=>⟨_,e,?_⟩;subst an;by_cases hF:Fr p w
 ·rw[if_neg (by simp[aD,hF])];refine⟨a1,l1,c1,a2,l2,c2,a3,l3,c3,⟨rfl,by rw[b2.cells (by simp)];rfl⟩,?_⟩;refine(uC a1 a2 a3 l1 c1 l2 c2 l3 c3 al).wf fun v V a0 a4 ⟨e,k3⟩=>⟨_,e,?_⟩;rw[fG aj ak];have E:Kept h V:=ae.trans wf k3 fF;have W:=Kept.blk k3 af;have G:=Kept.blk k3 b2;by_cases hL:N.leaf=true
  ·rw[if_pos hL];obtain⟨g1,_,s1⟩:=cD E (fF) q1;refine⟨p,w,⟨rfl,by rw[W.cells (by simp)];rfl⟩,rfl,a1,l1,c1,⟨rfl,G.one rfl⟩,?_⟩;refine(Pl p w s1 (by omega)).wf fun v h4 a5 a6 ⟨⟨b,e,hb⟩,k4⟩=>?_;have ag:Kept h h4:=E.trans wf k4 fF;have ao:=Kept.blk k4 W;have ap:=Kept.blk k4 G;have s4:=s1.keep k4 fF;refine⟨b,e,fun _=>rfl,a1,l1,c1,fun _=>⟨rfl,ap.one rfl⟩,?_⟩;refine⟨fun v hh=>(∃b2:Bool,v = .bool b2/\(b=true->(b2=true↔∃q∈N.ps,(q.2.size:Int) > eP .i64 p 8)))/\hh=h4,?_,?_,?_⟩
   ·intro _;refine(TM ao s4 (by omega)).mono fun v h5 ⟨⟨b2,e,ac⟩,e5⟩=>⟨b2,e,⟨b2,rfl,fun _=>ac⟩,e5⟩
   ·intro hc;refine⟨false,⟨false,rfl,fun hb=>?_⟩,rfl⟩;subst hb;simp[aD]at hc
   ·rintro b2 h5 ⟨⟨b3,e3,O⟩,rfl⟩;injection e3 with e3
    subst e3;have hG:cS p w N↔(b=true/\¬b2=true):=by
     unfold cS;rw[if_pos hL,<-hb]
     constructor
     ·rintro⟨U,h2⟩;exact⟨U,fun V=>h2 ((O U).1 V)⟩
     ·rintro⟨U,h2⟩;exact⟨U,fun V=>h2 ((O U).2 V)⟩
    by_cases hs:aR (aD b) true b2=true
    ·rw[if_pos hs];rw[cG,gR]at hs;refine⟨⟨70,rfl,.inr (.inr ⟨hF,fun hg=>?_,rfl⟩)⟩,ag⟩;obtain⟨g1,g2⟩:=hG.1 hg;rcases hs with hs | hs
     ·rw[g1]at hs;simp at hs
     ·exact g2 hs
    ·rw[if_neg hs];rw[cG,gR]at hs;refine⟨⟨0,rfl,.inr (.inl ⟨hF,hG.2 ⟨?_,fun h=>hs (.inr h)⟩,rfl⟩)⟩,ag⟩
     cases b
     ·exact absurd (.inl rfl) hs
     ·rfl
  ·rw[if_neg hL];obtain⟨g3,_,s3⟩:=cD E (fF) q3;obtain⟨g2,_,s2⟩:=cD E (fF) q2;have r1:V.cellsAt U.next 0 1=some [.slice a1 l1 c1]:=G.one rfl;have r2:V.cellsAt U.next 1 1=some [.slice a2 l2 c2]:=G.one rfl;have r3:V.cellsAt U.next 2 1=some [.slice a3 l3 c3]:=G.one rfl;have ad:aR (aR (dB (aE l1) 0) true (bO (aE l3) 2)) true (cP (aE l2) (bB .i64 (aE l3) 1))=true↔¬(l1=0/\2<=l3/\l2+1=l3):=by
    rw[cG,cG,aS,aC,bA,aF,aF,aF,bY (by omega) (by omega)]
    omega
   refine⟨rfl,a1,l1,c1,⟨rfl,r1⟩,fun _=>rfl,a3,l3,c3,fun _=>⟨rfl,r3⟩,fun _=>rfl,a2,l2,c2,fun _=>⟨rfl,r2⟩,fun _=>rfl,a3,l3,c3,fun _=>⟨rfl,r3⟩,fun _=>rfl,a3,l3,c3,fun _=>⟨rfl,r3⟩,?_⟩;refine⟨fun v hh=>(∃b2:Bool,v = .bool b2/\((l1=0/\2<=l3/\l2+1=l3)->(b2=true↔∃k∈N.ks,¬(fW w/\dX w.toNat k.sum=k.sum))))/\hh=V,?_,?_,?_⟩
   ·intro _;refine(Nd W s3 (by omega)).mono fun v h5 ⟨⟨b2,e,ac⟩,e5⟩=>⟨b2,e,⟨b2,rfl,fun _=>ac⟩,e5⟩
   ·intro hc;refine⟨false,⟨false,rfl,fun hb=>?_⟩,rfl⟩;have:aR (aR (dB (aE l1) 0) true (bO (aE l3) 2)) true (cP (aE l2) (bB .i64 (aE l3) 1))=true:=by
     revert hc
     cases aR (aR (dB (aE l1) 0) true (bO (aE l3) 2)) true (cP (aE l2) (bB .i64 (aE l3) 1)) <;> simp[aD]
    exact absurd hb (ad.1 this)
   ·rintro b2 h5 ⟨⟨b3,e3,O⟩,rfl⟩;injection e3 with e3
    subst e3;by_cases hs:aR (aR (aR (dB (aE l1) 0) true (bO (aE l3) 2)) true (cP (aE l2) (bB .i64 (aE l3) 1))) true b2=true
    ·rw[if_pos hs];rw[cG,ad]at hs;refine⟨⟨70,rfl,.inr (.inr ⟨hF,fun hg=>?_,rfl⟩)⟩,E⟩;unfold cS at hg;rw[if_neg hL]at hg;obtain⟨g1,g2,g3,g4,g5⟩:=hg;rcases hs with hs | hs
     ·exact hs ⟨by omega,by omega,by omega⟩
     ·exact g4 ((O ⟨by omega,by omega,by omega⟩).1 hs)
    ·rw[if_neg hs];rw[cG,ad]at hs;have aq:l1=0/\2<=l3/\l2+1=l3:=Classical.byContradiction fun h=>hs (.inl h);have ar:¬∃k∈N.ks,¬(fW w/\dX w.toNat k.sum=k.sum):=fun h=>hs (.inr ((O aq).2 h));refine⟨p,w,⟨rfl,by rw[W.cells (by simp)];rfl⟩,rfl,a2,l2,c2,⟨rfl,r2⟩,?_⟩;refine(Pj p w s2 (by omega)).wf fun v h6 a7 a8 ⟨⟨b,e,hb⟩,k6⟩=>⟨b,e,?_⟩;have ah:Kept h h6:=E.trans wf k6 fF;have hG:cS p w N↔b=true:=by
      unfold cS;rw[if_neg hL,hb]
      constructor
      ·rintro⟨_,_,_,_,g⟩;exact g
      ·intro g;exact⟨by omega,by omega,by omega,ar,g⟩
     by_cases aa:b=true
     ·rw[if_neg (by rw[gR,aa];simp)];exact⟨⟨0,rfl,.inr (.inl ⟨hF,hG.2 aa,rfl⟩)⟩,ah⟩
     ·rw[if_pos (by rw[gR];simpa using aa)];exact⟨⟨70,rfl,.inr (.inr ⟨hF,fun hg=>aa (hG.1 hg),rfl⟩)⟩,ah⟩
 ·rw[if_pos (by simp[aD,hF])];exact⟨⟨2,rfl,.inl ⟨hF,rfl⟩⟩,ae⟩
end Go.Proofs.YtmapagggnigfpaaGreat.pk
namespace Go.Cn.Pk
def fA(s:BA):Nat:=iX s.size+s.size
def mC(q:PairT):Nat:=fA q.1+fA q.2
def gK(w:Int)(N:NodeT):Nat :=
 if N.leaf=true then 1+iX N.ps.length+(N.ps.map mC).sum
 else 1+iX N.ks.length+N.ks.length * (4+w.toNat)+(N.K.map fA).sum
theorem NQ(n:Nat):1<=iX n:=by
 by_cases h:n < 128
 ·rw[Cg h];omega
 ·rw[IK h];omega
theorem oY{n:Nat}(h:n < 18446744073709551616):iX n<=10:=eN h
theorem pS{α:Type}(f:α->Nat){L:List α}{i:Nat}{x:α}(E:L[i]? = some x):((L.take (i+1)).map f).sum=((L.take i).map f).sum+f x:=by
 rw[VG,E];simp
theorem Lo{α:Type}(f:α->Nat)(m:Nat):∀(L:List α),(∀x∈L,f x<=m)->(L.map f).sum<=L.length * m
 | [],_=>by simp
 | x::L,h=>by
  have G:=Lo f m L fun y E=>h y (WL _ E);have O:=h x (Wr ..);rw[VO,List.sum_cons,Ux,Nat.succ_mul]
  omega
theorem mT{α:Type}(f:α->Nat)(m:Nat)(L:List α)(i:Nat)(hi:i<=L.length)(h:∀x∈L,f x<=m):((L.take i).map f).sum<=i * m:=by
 have:=Lo f m (L.take i) fun x E=>h x (WM E);rw[Uq,Vc hi]at this;exact this
end Go.Cn.Pk
namespace Go.Proofs.YtmapagggnigfpaaGreat.pk
open Cn Cn.Pk vc
theorem HU(n:Nat)(V:n < 9223372036854775808)(h:Hp):C 158 [.int .i64 (n:Int)] h fun v h'=>v = .int .i64 (iX n:Int)/\h'=h:=by
 refine sv LP fun wf=>?_;have hle:=oY (n:=n) (by omega);refine⟨fun vals m O=>∃x k:Nat,[.int .i64 (x:Int),.int .i64 (k:Int)]=vals/\m=x/\x<=n/\k+iX x=iX n+1/\O=h,⟨n,n,1,rfl,rfl,Uf _,by omega,rfl⟩,?_⟩;rintro n1 W m O ⟨x,k,e,hm,hx,U,rfl⟩;simp only[Ur,Value.int.injEq,true_and,and_true]at e;obtain⟨rfl,rfl⟩:=e;have hp:=NQ x;by_cases E:iE (x:Int) 128=true
 ·rw[if_pos E];rw[cK]at E;have G:¬x < 128:=by omega
  have:=IK G;refine⟨by simp[bW],x / 128,by simp only[aI];omega,x / 128,k+1,?_,rfl,by omega,by omega,rfl⟩;rw[show aG .i64 (k:Int) 1=_ from cN 1 k (by omega)];have:eP .i64 (x:Int) 128=((x / 128:Nat):Int):=by
   unfold eP IntKind.wrap;have e:(x:Int).tdiv 128=((x / 128:Nat):Int):=by rw[Wo (by omega)];rfl
   rw[e];simp[IntKind.bits,IntKind.signed]
   omega
  rw[this]
 ·rw[if_neg E];rw[cK]at E;rw[Cg (by omega)]at U;refine⟨?_,rfl⟩;rw[show k=iX n by omega]
theorem HM(s:BA)(hs:s.size<=1099511600000)(h:Hp):C 159 [.string s] h fun v h'=>v = .int .i64 (fA s:Int)/\h'=h:=by
 refine sv OK fun wf=>?_;have E:aE (aU s)=((s.size:Nat):Int):=rfl;have hle:=oY (n:=s.size) (by omega);rw[E];refine(HU s.size (by omega) h).mono fun v G ⟨e,e1⟩=>⟨_,e,?_,e1⟩;unfold fA;rw[cF (by omega) (by omega)];congr 1
theorem addNat(a b:Nat)(h:a+b < 9223372036854775808):aG .i64 (a:Int) (b:Int)=((a+b:Nat):Int):=by rw[cF (by omega) (by omega)];omega
theorem nR(s:BA):s.size<=fA s:=by unfold fA;omega
theorem TF{h:Hp}{n:Nat}{nv:Value}{N:NodeT}(x:NodeAt h n nv N)(p:Int)(w:Nat)(hw:w<=32)(ax:N.ps.length<=1099511500000)(ay:N.K.length<=1099511500000)(az:N.ks.length<=1099511500000)(hP:∀q∈N.ps,mC q<=100000)(hK:∀s∈N.K,fA s<=100000):
  C 129 [fr p (w:Int),nv] h fun r h'=>r = .int .i64 (gK w N:Int)/\h'=h:=by
 refine uP ?_;obtain⟨a1,l1,c1,a2,l2,c2,a3,l3,c3,rfl,q1,q2,q3⟩:=x;refine sv LH fun wf=>?_;intro h1 e1 h2 e2;obtain⟨b1,k1,n1,ah⟩:=aB wf e1;obtain⟨b2,k2,n2,a0⟩:=aB ah e2;have ai:Kept h h2:=k1.trans wf k2 fF;have aj:=Kept.blk k2 b1;have ak:N.K.length=l2:=by obtain⟨_,_,q⟩:=q2;exact q.len
 have ad:N.ks.length=l3:=by obtain⟨_,_,q⟩:=q3;exact q.len
 have al:N.ps.length=l1:=by obtain⟨_,_,q⟩:=q1;exact q.len
 refine⟨a1,l1,c1,a2,l2,c2,a3,l3,c3,⟨rfl,by rw[b2.cells (by simp)];rfl⟩,?_⟩;refine(uC a1 a2 a3 l1 c1 l2 c2 l3 c3 h2).wf fun v h3 ae a4 ⟨e,k3⟩=>⟨_,e,?_⟩;rw[fG ak ad];have O:Kept h h3:=ai.trans wf k3 fF;have an:=Kept.blk k3 aj;have U:=Kept.blk k3 b2;have PO:=oY (n:=l1) (by omega);have a5:=oY (n:=l3) (by omega);by_cases hL:N.leaf=true
 ·rw[if_pos hL];obtain⟨g1,_,s1⟩:=cD O (fF) q1;refine⟨rfl,a1,l1,c1,⟨rfl,U.one rfl⟩,?_⟩;rw[aF];refine(HU l1 (by omega) h3).mono fun v aa ⟨e,e3⟩=>⟨_,e,rfl,a1,l1,c1,?_,?_⟩
  ·subst e3;exact⟨rfl,U.one rfl⟩
  subst e3;refine⟨fun vals m hh=>∃i:Nat,[.int .i64 ((1+iX l1+((N.ps.take i).map mC).sum:Nat):Int),.int .i64 (i:Int)]=vals/\m=l1 - i/\i<=l1/\Kept aa hh/\Wf hh,⟨l1,0,?_,rfl,Uk _,Keep.refl _ _,ae⟩,?_⟩
  ·rw[show(1:Int)=((1:Nat):Int) from rfl,addNat _ _ (by omega)];simp
  rintro n2 n3 m hh ⟨i,e,rfl,hi,k,af⟩;simp only[Ur,Value.int.injEq,true_and,and_true]at e;obtain⟨rfl,rfl⟩:=e;by_cases V:bO (i:Int) (aE l1)=true
  ·rw[if_pos V];have G:i < l1:=by rw[aC,aF]at V;omega
   obtain⟨q,eb⟩:∃q,N.ps[i]? = some q:=⟨_,Uh (by omega)⟩;have hq:=hP q (Uy eb);obtain⟨t1,t2⟩:=q;have ao:=nR t1;have a6:=nR t2;have ap:mC (t1,t2)=fA t1+fA t2:=rfl;have aq:=s1.keep k fF;obtain⟨ha,E⟩:=aq.get gZ eb (j:=0) (m:=2) (by omega);have ac:aA (off a1) (i:Int) 2=off a1+i * 2+0:=by unfold aA;rw[Uo];omega
   refine⟨⟨ha,Ui _,by omega⟩,t1,t2,⟨rfl,by rw[ac];exact E⟩,?_⟩;intro h4 e4;obtain⟨b4,k4,n4,ar⟩:=aB af e4;obtain⟨h5,e5,b5,k5,_,n5,au⟩:=bP ar (vs:=[.string t1,.string t2]) b4 k4 af (Uf _) rfl rfl;refine⟨rfl,h5,e5,rfl,t1,⟨rfl,b5.one rfl⟩,rfl,t2,⟨rfl,b5.one rfl⟩,?_⟩;refine(HM t1 (by omega) h5).mono fun v h6 ⟨e,e6⟩=>⟨_,e,?_,?_⟩
   ·subst e6;exact⟨rfl,b5.one rfl⟩
   subst e6;refine(HM t2 (by omega) h6).mono fun v h7 ⟨e,e7⟩=>⟨_,e,l1 - (i+1),by simp only[aI];omega,i+1,?_,rfl,by omega,?_,?_⟩
   ·have av:=mT mC 100000 N.ps i (by omega) hP;rw[addNat _ _ (by omega),addNat _ _ (by omega),pS mC eb,ap,show aG .i64 (i:Int) 1=_ from cN 1 i (by omega)];simp only[Vw]
   ·subst e7;exact k.trans ae k5 fF
   ·subst e7;exact au
  ·rw[if_neg V];have G:i=l1:=by
    by_cases hq:i=l1
    ·exact hq
    ·exact absurd (aC.2 (by rw[aF];omega)) V
   subst G;refine⟨?_,O.trans wf k fF⟩;unfold gK;rw[if_pos hL,al,Uj (by omega)]
 ·rw[if_neg hL];obtain⟨g2,_,s2⟩:=cD O (fF) q2;have r3:h3.cellsAt h1.next 2 1=some [.slice a3 l3 c3]:=U.one rfl;have r2:h3.cellsAt h1.next 1 1=some [.slice a2 l2 c2]:=U.one rfl;have ag:h3.cellsAt h.next 1 1=some [.int .i64 (w:Int)]:=an.one rfl;refine⟨rfl,a3,l3,c3,⟨rfl,r3⟩,rfl,a3,l3,c3,⟨rfl,r3⟩,rfl,(w:Int),⟨rfl,ag⟩,?_⟩;rw[aF];refine(HU l3 (by omega) h3).mono fun v aa ⟨e,e3⟩=>?_;subst e3;refine⟨_,e,⟨rfl,ag⟩,⟨rfl,r3⟩,rfl,a2,l2,c2,⟨rfl,r2⟩,?_⟩;have hmul:l3 * (4+w)<=1099511500000 * 36:=WB (by omega) (by omega);have W:aG .i64 (aG .i64 1 (iX l3:Int)) (cY .i64 (l3:Int) (aG .i64 4 (w:Int)))=((1+iX l3+l3 * (4+w):Nat):Int):=by
   rw[show(1:Int)=((1:Nat):Int) from rfl,show(4:Int)=((4:Nat):Int) from rfl,addNat _ _ (by omega),addNat 4 w (by omega)];have:cY .i64 (l3:Int) ((4+w:Nat):Int)=((l3 * (4+w):Nat):Int):=by
    unfold cY IntKind.wrap;rw[<-Int.natCast_mul];generalize l3 * (4+w)=z at *;simp[IntKind.bits,IntKind.signed]
    omega
   rw[this,addNat _ _ (by omega)]
  refine⟨fun vals m hh=>∃i:Nat,[.int .i64 ((1+iX l3+l3 * (4+w)+((N.K.take i).map fA).sum:Nat):Int),.int .i64 (i:Int)]=vals/\m=l2 - i/\i<=l2/\hh=aa,⟨l2,0,?_,rfl,Uk _,rfl⟩,?_⟩
  ·rw[W];simp
  rintro n2 n3 m hh ⟨i,e,hm,hi,rfl⟩;simp only[Ur,Value.int.injEq,true_and,and_true]at e;obtain⟨rfl,rfl⟩:=e;by_cases V:bO (i:Int) (aE l2)=true
  ·rw[if_pos V];have G:i < l2:=by rw[aC,aF]at V;omega
   obtain⟨q,eb⟩:∃q,N.K[i]? = some q:=⟨_,Uh (by omega)⟩;have hq:=hK q (Uy eb);have ao:=nR q;obtain⟨ha,E⟩:=s2.get dV eb (j:=0) (m:=1) (by omega);have ac:aA (off a2) (i:Int) 1=off a2+i * 1+0:=by unfold aA;rw[Uo];omega
   refine⟨⟨ha,Ui _,by omega⟩,q,⟨rfl,by rw[ac];exact E⟩,?_⟩;refine(HM q (by omega) hh).mono fun v h7 ⟨e,e7⟩=>⟨_,e,l2 - (i+1),by simp only[aI];omega,i+1,?_,rfl,by omega,e7⟩;have av:=mT fA 100000 N.K i (by omega) hK;rw[addNat _ _ (by omega),pS fA eb,show aG .i64 (i:Int) 1=_ from cN 1 i (by omega)];simp only[Vw]
  ·rw[if_neg V];have G:i=l2:=by
    by_cases hq:i=l2
    ·exact hq
    ·exact absurd (aC.2 (by rw[aF];omega)) V
   subst G;refine⟨?_,O⟩;unfold gK;rw[if_neg hL,ad,Uj (by omega)]
   rfl
end Go.Proofs.YtmapagggnigfpaaGreat.pk
namespace Go.Cn.Pk
theorem QN{p:Int}(h:0<=p/\p<=8192):eP .i64 p 16=p / 16:=by
 unfold eP IntKind.wrap;rw[Wo h.1];simp[IntKind.bits,IntKind.signed]
 omega
theorem Tn{p:Int}(h:0<=p/\p<=8192):eP .i64 p 8=p / 8:=by
 unfold eP IntKind.wrap;rw[Wo h.1];simp[IntKind.bits,IntKind.signed]
 omega
theorem yC{m:Int}{L:List BA}(h:AF m L){s:BA}(hs:s∈L):1<=(s.size:Int)/\(s.size:Int)<=m:=by
 obtain⟨i,hi⟩:=Wl.1 hs;obtain⟨E,G,_⟩:=h i s hi;exact⟨E,G⟩
theorem qF{p w:Int}(h:Fr p w):1024<=p/\p<=8192/\1<=w/\w<=32:=by unfold Fr at h;omega
theorem xX{s:BA}{n:Nat}(h:s.size<=n)(E:n<=100000):fA s<=n+10:=by
 unfold fA;have:=oY (n:=s.size) (by omega)
 omega
theorem BJ{p w:Int}{N:NodeT}(U:Fr p w)(E:cS p w N)(V:N.leaf=true):∀q∈N.ps,mC q<=100000:=by
 intro q G;obtain⟨W,O,_,_⟩:=qF U;unfold cS at E;rw[if_pos V,QN ⟨by omega,O⟩,Tn ⟨by omega,O⟩]at E;have h1:=(yC E.1 (Uu.2 ⟨q,G,rfl⟩)).2;have h2:¬(q.2.size:Int) > p / 8:=fun h=>E.2 ⟨q,G,h⟩;have t1:=xX (s:=q.1) (n:=512) (by omega) (by omega);have t2:=xX (s:=q.2) (n:=1024) (by omega) (by omega);unfold mC
 omega
theorem EY{p w:Int}{N:NodeT}(G:Fr p w)(E:cS p w N)(O:¬N.leaf=true):∀s∈N.K,fA s<=100000:=by
 intro s hs;obtain⟨V,U,_,_⟩:=qF G;unfold cS at E;rw[if_neg O,QN ⟨by omega,U⟩]at E;have W:=(yC E.2.2.2.2 hs).2;have t1:=xX (s:=s) (n:=512) (by omega) (by omega)
 omega
theorem Re{N:NodeT}(E:N.leaf=true):N.K=[]/\N.ks=[]:=by
 unfold NodeT.leaf at E;simpa using E
theorem sF(s:BA):(gI s).length=fA s:=by
 unfold gI fA iX;rw[Ug,VE];rfl
theorem Jv(q:PairT):(dT q).length=mC q:=by unfold dT mC;rw[Ug,sF,sF]
theorem Ar:∀L:List PairT,(L.flatMap dT).length=(L.map mC).sum
 | []=>rfl
 | q::L=>by rw[Vg,Ug,Jv,Ar L,VO,List.sum_cons]
open Go.Proofs.YtmapagggnigfpaaGreat.pk in
theorem PM(gb:Bool)(w:Nat)(K:List BA)(k:KidT)(i:Nat)(hw:w<=32):(kS gb w K k i).length<=(if 0 < i then fA (K.getD (i - 1) .empty) else 0)+(4+w):=by
 unfold kS;rw[Ug,Ug,Uq];have E:(if gb=true then be 4 k.page else []).length<=4:=by cases gb <;> simp[cO]
 have G:inW (w:Int)<=w:=by unfold inW;omega
 by_cases hi:0 < i
 ·rw[if_pos hi,if_pos hi,sF];omega
 ·rw[if_neg hi,if_neg hi];simp only[Vl];omega
theorem Hz(gb:Bool)(w:Nat)(hw:w<=32)(K:List BA)(ks:List KidT)(E:ks.length<=K.length+1):∀i,i<=ks.length->(gB gb w K (ks.take i)).length<=i * (4+w)+((K.take (i - 1)).map fA).sum
 | 0,_=>by simp[gB]
 | i+1,hi=>by
  have O:=Hz gb w hw K ks E i (by omega);obtain⟨k,G⟩:∃k,ks[i]? = some k:=⟨_,Uh (by omega)⟩;rw[oS G,Ug,Nat.succ_mul];have hb:=PM gb w K k i hw;by_cases h0:0 < i
  ·rw[if_pos h0]at hb;obtain⟨s,es⟩:∃s,K[i - 1]? = some s:=⟨_,Uh (by omega)⟩;have e1:K.getD (i - 1) .empty=s:=by rw[Uz,es];rfl
   rw[e1]at hb;have:=pS fA es;rw[show i - 1+1=i by omega]at this;rw[show i+1 - 1=i by omega,this]
   omega
  ·rw[if_neg h0]at hb;have:i=0:=by omega
   subst this;have z:(gB gb w K (ks.take 0)).length=0:=by simp[gB]
   rw[z]
   omega
theorem mX{p:Int}{w:Nat}{N:NodeT}(hw:w<=32)(gb:Bool)(G:N.leaf=true\/N.ks.length<=N.K.length+1)(O:N.leaf=true\/N.K.length+1=N.ks.length):(cJ gb w N).length<=gK w N:=by
 unfold cJ gK;by_cases E:N.leaf=true
 ·rw[if_pos E,if_pos E];unfold BB;rw[Ug,Ug,cO,Ar];show 1+(iX N.ps.length+_)<=_
  omega
 ·rw[if_neg E,if_neg E];have G:=G.resolve_left E;have O:=O.resolve_left E;unfold pG;rw[Ug,Ug,cO];have:=Hz gb w hw N.K N.ks G N.ks.length (Uf _);rw[Uj (Uf _),Uj (l:=N.K) (by omega)]at this;show 1+(iX N.ks.length+_)<=_;rw[Uo]
  omega
def MayIs(p w:Int)(N:NodeT)(e:Int):Prop :=
 (kL p w N e/\e≠0)\/(Fr p w/\cS p w N/\(gK w N:Int) > p - 32/\e=71)\/(Fr p w/\cS p w N/\(gK w N:Int)<=p - 32/\e=0)
end Go.Cn.Pk
namespace Go.Proofs.YtmapagggnigfpaaGreat.pk
open Cn Cn.Pk vc
theorem Qb{h:Hp}{n:Nat}{nv:Value}{N:NodeT}(x:NodeAt h n nv N)(p w:Int)(O:N.ps.length<=1099511500000)(U:N.K.length<=1099511500000)(V:N.ks.length<=1099511500000):
  C 107 [fr p w,nv] h fun r h'=>(∃e:Int,r = .int .i64 e/\MayIs p w N e)/\h'=h:=by
 refine SCalls.trim (K:=fun r h'=>(∃e:Int,r = .int .i64 e/\MayIs p w N e)/\Kept h h') (of_decide_eq_true (by kernel_rfl)) ?_ fun v h' ⟨⟨e,e1,e2⟩,k⟩=>⟨fS k,by rw[e1];rfl,e,e1,e2⟩;have x0:=x;obtain⟨a1,l1,c1,a2,l2,c2,a3,l3,c3,rfl,q1,q2,q3⟩:=x;refine sv Qu fun wf=>?_;intro h1 e1 W e2;obtain⟨b1,k1,n1,aa⟩:=aB wf e1;obtain⟨b2,k2,n2,ae⟩:=aB aa e2;have E:Kept h W:=k1.trans wf k2 fF;have ac:=Kept.blk k2 b1;have rp:W.cellsAt h.next 0 2=some [.int .i64 p,.int .i64 w]:=by rw[ac.cells (by simp)];rfl
 have rs:W.cellsAt h1.next 0 3=some [.slice a1 l1 c1,.slice a2 l2 c2,.slice a3 l3 c3]:=by rw[b2.cells (by simp)];rfl
 refine⟨p,w,⟨rfl,rp⟩,a1,l1,c1,a2,l2,c2,a3,l3,c3,⟨rfl,rs⟩,?_⟩;have x2:=x0.keep E fF;refine(Nq x2 p w O U V).mono fun v h3 ⟨⟨e,e3,hc⟩,e4⟩=>⟨e,e3,?_⟩;subst e4;by_cases he:cP e 0=true
 ·rw[if_pos he];exact⟨⟨e,rfl,.inl ⟨hc,by rw[bA]at he;exact he⟩⟩,E⟩
 ·rw[if_neg he];have af:e=0:=by rw[bA]at he;omega
  obtain⟨hF,G⟩:Fr p w/\cS p w N:=by rcases hc with ⟨_,h⟩ | ⟨h1,W,_⟩ | ⟨_,_,h⟩ <;> first | omega | exact⟨h1,W⟩
  obtain⟨f1,f2,f3,f4⟩:=qF hF;obtain⟨wn,rfl⟩:∃wn:Nat,w=(wn:Int):=⟨w.toNat,by omega⟩;refine⟨p,(wn:Int),⟨rfl,rp⟩,a1,l1,c1,a2,l2,c2,a3,l3,c3,⟨rfl,rs⟩,p,(wn:Int),⟨rfl,rp⟩,?_⟩;have ad:C 129 [fr p (wn:Int),.agg #[.slice a1 l1 c1,.slice a2 l2 c2,.slice a3 l3 c3]] h3 fun r h'=>r = .int .i64 (gK wn N:Int)/\h'=h3:=by
   refine TF x2 p wn (by omega) O U V ?_ ?_
   ·by_cases hL:N.leaf=true
    ·exact BJ hF G hL
    ·intro q hq;unfold cS at G;rw[if_neg hL]at G;rw[VS G.1]at hq;simp at hq
   ·by_cases hL:N.leaf=true
    ·rw[(Re hL).1];intro s hs;simp at hs
    ·exact EY hF G hL
  refine ad.mono fun v h4 ⟨e5,e6⟩=>⟨_,e5,?_⟩;subst e6;refine⟨⟨rfl,rp⟩,(QY p (wn:Int) h4).mono fun v h5 ⟨e7,e8⟩=>⟨_,e7,?_⟩⟩;subst e8;rw[bY (by omega) (by omega)];by_cases hg:dB (gK wn N:Int) (p - 32)=true
  ·rw[if_pos hg];exact⟨⟨71,rfl,.inr (.inl ⟨hF,G,by rw[aS]at hg;exact hg,rfl⟩)⟩,E⟩
  ·rw[if_neg hg];exact⟨⟨0,rfl,.inr (.inr ⟨hF,G,by rw[aS]at hg;omega,rfl⟩)⟩,E⟩
end Go.Proofs.YtmapagggnigfpaaGreat.pk
namespace Go.Cn.Pk
theorem kB{p w:Int}{N:NodeT}(E:cS p w N):N.leaf=true\/N.K.length+1=N.ks.length:=by
 by_cases G:N.leaf=true
 ·exact .inl G
 ·unfold cS at E;rw[if_neg G]at E;exact .inr E.2.2.1
end Go.Cn.Pk
namespace Go.Proofs.YtmapagggnigfpaaGreat.pk
open Cn Cn.Pk vc
theorem Rv{h:Hp}{n:Nat}{nv:Value}{N:NodeT}(x:NodeAt h n nv N)(ae:n<=h.next)(p w:Int)(O:N.ps.length<=1099511500000)(aa:N.K.length<=1099511500000)(U:N.ks.length<=1099511500000):
  C 85 [fr p w,nv] h fun r h'=>(∃(e:Int) (s:BA),r = .tuple #[.string s,.int .i64 e]/\MayIs p w N e/\(e=0->s=str (cJ false w N))/\(e≠0->s=ByteArray.mk #[]))/\h'=h:=by
 refine SCalls.trim (K:=fun r h'=>(∃(e:Int) (s:BA),r = .tuple #[.string s,.int .i64 e]/\MayIs p w N e/\(e=0->s=str (cJ false w N))/\(e≠0->s=ByteArray.mk #[]))/\Kept h h') (of_decide_eq_true (by kernel_rfl)) ?_ fun v h' ⟨⟨e,s,e1,e2⟩,k⟩=>⟨fS k,by rw[e1];rfl,e,s,e1,e2⟩;have x0:=x;obtain⟨a1,l1,c1,a2,l2,c2,a3,l3,c3,rfl,q1,q2,q3⟩:=x;refine sv JP fun wf=>?_;intro h1 e1 V e2;obtain⟨b1,k1,n1,ac⟩:=aB wf e1;obtain⟨b2,k2,n2,af⟩:=aB ac e2;have E:Kept h V:=k1.trans wf k2 fF;have ad:=Kept.blk k2 b1;have rp:V.cellsAt h.next 0 2=some [.int .i64 p,.int .i64 w]:=by rw[ad.cells (by simp)];rfl
 have rs:V.cellsAt h1.next 0 3=some [.slice a1 l1 c1,.slice a2 l2 c2,.slice a3 l3 c3]:=by rw[b2.cells (by simp)];rfl
 have x2:=x0.keep E fF;refine⟨p,w,⟨rfl,rp⟩,a1,l1,c1,a2,l2,c2,a3,l3,c3,⟨rfl,rs⟩,?_⟩;refine(Qb x2 p w O aa U).mono fun v h3 ⟨⟨e,e3,hc⟩,e4⟩=>⟨e,e3,?_⟩;subst e4;by_cases he:cP e 0=true
 ·rw[if_pos he];rw[bA]at he;exact⟨⟨e,_,rfl,hc,fun h=>absurd h he,fun _=>rfl⟩,E⟩
 ·rw[if_neg he];have W:e=0:=by rw[bA]at he;omega
  obtain⟨hF,hG,hS⟩:Fr p w/\cS p w N/\(gK w N:Int)<=p - 32:=by
   rcases hc with ⟨_,h⟩ | ⟨_,_,_,h⟩ | ⟨h1,V,h3,_⟩
   ·exact absurd W h
   ·omega
   ·exact⟨h1,V,h3⟩
  obtain⟨f1,f2,f3,f4⟩:=qF hF;obtain⟨wn,rfl⟩:∃wn:Nat,w=(wn:Int):=⟨w.toNat,by omega⟩;have G:=kB hG;have hle:=mX (p:=p) (w:=wn) (N:=N) (by omega) false (G.imp id fun h=>by omega) G;refine⟨p,(wn:Int),⟨rfl,rp⟩,a1,l1,c1,a2,l2,c2,a3,l3,c3,⟨rfl,rs⟩,?_⟩;refine(Qf x2 (by have:=E.next;omega) p (wn:Int) false (fun hL=>by rcases G with G | G;rw[G]at hL;simp at hL;omega) (by omega) O U).mono fun v h4 ⟨e5,k4⟩=>⟨_,e5,⟨0,_,rfl,by rw[<-W];exact hc,fun _=>rfl,fun h=>absurd rfl h⟩,E.trans wf k4 fF⟩
end Go.Proofs.YtmapagggnigfpaaGreat.pk
namespace Go.Cn.Pk
def jF(u:BA):LU:=be 4 u.size++u.data.toList
def oC(s:BA):LU:=UInt8.ofNat s.size::s.data.toList
def gH(s:BA)(T:List BA):LU:=oC s++T.flatMap jF
theorem SI(x:Nat)(E:x<=4294967295):[Value.int .u8 (cC .u8 (gL .u32 (cC .u32 (x:Int)) 24)),Value.int .u8 (cC .u8 (gL .u32 (cC .u32 (x:Int)) 16)),Value.int .u8 (cC .u8 (gL .u32 (cC .u32 (x:Int)) 8)),Value.int .u8 (cC .u8 (cC .u32 (x:Int)))]=bc (be 4 x):=by
 have e0:cC .u32 (x:Int)=((x:Nat):Int):=by rw[nP,Up (by omega)]
 rw[e0,show(24:Int)=((24:Nat):Int) from rfl,show(16:Int)=((16:Nat):Int) from rfl,show(8:Int)=((8:Nat):Int) from rfl,Sha.shrW_nat .u32 x 24 (by decide),Sha.shrW_nat .u32 x 16 (by decide),Sha.shrW_nat .u32 x 8 (by decide),eF,eF,eF,eF,byteOf,byteOf,byteOf,byteOf]
 rfl
end Go.Cn.Pk
namespace Go.Proofs.YtmapagggnigfpaaGreat.pk
open Cn Cn.Pk vc
theorem Hu{h:Hp}{g:ON}{a:OA}{l c:Nat}{M:LU}(s:Ow h 1 g a l c (bc M))(hl:M.length=l)(h0:0 < l):fU a l h (str M):=by
 have:=s.sl.cells (i:=0) (m:=l) (by omega) h0
 right
 refine⟨this.1,bc M,?_,by rw[pF,jC]⟩;have E:=this.2;rw[VC,Uj (by rw[aJ];omega)]at E;exact E
theorem Rt{h:Hp}(s:BA)(ag:1<=s.size)(a7:s.size<=64){a:OA}{l c:Nat}{gr:ON}{T:List BA}(sl:SlT strc 1 h gr a l c T)(hg:∀x,gr=some x->x < h.next)(hT:∀u∈T,u.size<=1000000)(hl:l<=1000):
  C 110 [.string s,.slice a l c] h fun r h'=>r = .tuple #[.string (str (gH s T)),.int .i64 0]/\Kept h h':=by
 refine sv LX fun wf=>?_;have hz:aE (aU s)=((s.size:Nat):Int):=rfl;rw[if_neg (by
  rw[cG,aS,hz,eq_iff];rintro(h | h)
  ·subst h;simp[ByteArray.size]at ag
  ·omega)]
 intro h1 e1;have ev:cC .u8 (aE (aU s))=((UInt8.ofNat s.size).toNat:Int):=by rw[hz,eF,Go.Cn.Pk.byteOf]
 rw[ev]at e1;obtain⟨b1,k1,n1,ah⟩:=aB wf e1;have o1:Ow h1 1 (some h.next) (some ⟨h.next,0,none⟩) 1 1 (bc [UInt8.ofNat s.size]):=.inr ⟨h.next,none,h.next,_,rfl,rfl,.inl rfl,Uf _,by omega,b1,rfl,rfl⟩;have a8:s.data.toList.length=s.size:=VE;obtain⟨a2,c2,g2,h2,e2,o2,ai,k2,aj⟩:=Ow.append ah FF o1 (x:=.string s) (n:=s.size) (new:=bc s.data.toList) (by simp only[dC,if_true];rw[lS]) (by rw[aJ];omega) (aZ _) (bM (by omega));have ac:∀x,g2=some x->h.next<=x:=by
  intro x V;rcases ai with E | ⟨y,G,E⟩
  ·rw[V]at E;injection E with E;omega
  ·rw[V]at G;injection G with G;omega
 have ak:Kept h h2:=k1.trans wf (S:=fun _=>False) k2 fun g hg O=>by injection O with O;omega
 have hM:bc [UInt8.ofNat s.size]++bc s.data.toList=bc (oC s):=by rw[<-fM];rfl
 rw[hM]at o2;have a9:=sl.len;have hb:∀L:List BA,(∀u∈L,u.size<=1000000)->(L.flatMap jF).length<=L.length * 1000004:=by
  intro L
  induction L with
  | nil=>intro _;simp
  | cons u L ih =>
   intro hu;have h1:=ih fun v hv=>hu v (WL _ hv);have h2:=hu u (Wr ..);rw[Vg,Ug,Ux,Nat.succ_mul];have:(jF u).length=4+u.size:=by unfold jF;rw[Ug,cO,VE];rfl
   omega
 have al:(oC s).length=1+s.size:=by unfold oC;rw[Ux];omega
 refine⟨a2,1+s.size,c2,h2,e2,fun vals m hh=>∃(i:Nat) (a3:OA) (l3 c3:Nat) (g3:ON),[.slice a3 l3 c3,.int .i64 (i:Int)]=vals/\m=l - i/\i<=l/\Ow hh 1 g3 a3 l3 c3 (bc (oC s++(T.take i).flatMap jF))/\l3=(oC s++(T.take i).flatMap jF).length/\(∀x,g3=some x->h.next<=x)/\Kept h hh/\Wf hh,⟨l,0,a2,1+s.size,c2,g2,rfl,rfl,Uk _,by simpa using o2,by simp[al],ac,ak,aj⟩,?_⟩;rintro a3 l3 c3 n3 m hh ⟨i,a4,l4,c4,g4,e,hm,hi,o,U,ad,k,an⟩;simp only[Ur,Value.slice.injEq,Value.int.injEq,true_and,and_true]at e;obtain⟨⟨rfl,rfl,rfl⟩,rfl⟩:=e;by_cases O:bO (i:Int) (aE l)=true
 ·rw[if_pos O];have ae:i < l:=by rw[aC,aF]at O;omega
  obtain⟨u,eb⟩:∃q,T[i]? = some q:=⟨_,Uh (by omega)⟩;have hu:=hT u (Uy eb);have ao:=sl.keep k fF;obtain⟨ha,aa⟩:=ao.get dV eb (j:=0) (m:=1) (by omega);have ap:aA (off a) (i:Int) 1=off a+i * 1+0:=by unfold aA;rw[Uo];omega
  refine⟨⟨ha,Ui _,by omega⟩,u,⟨rfl,by rw[ap];exact aa⟩,by simp[bR],by simp[bR],by simp[bR],?_⟩;intro h3 e3;have aq:aE (aU u)=((u.size:Nat):Int):=rfl;rw[aq,SI u.size (by omega)]at e3;obtain⟨b3,k3,n3,ar⟩:=aB an e3;have au:=hb (T.take i) fun v hv=>hT v (WM hv);rw[Uq,Vc (by omega)]at au;have ba:i * 1000004<=1000 * 1000004:=WB (by omega) (Uf _);have bb:l4<=2000000000:=by rw[U,Ug];omega
  have av:u.data.toList.length=u.size:=VE;obtain⟨a5,c5,g5,h5,e5,o5,ax,k5,ay⟩:=Ow.append ar Cu (o.keep k3 fF) (x:=.slice (some ⟨hh.next,0,none⟩) 4 4) (n:=4) (new:=bc (be 4 u.size)) (by simp only[dC];rw[if_neg (by omega),b3.cells (by rw[aJ,cO];omega),VC,Uj (by rw[aJ,cO];omega)];rfl) (by rw[aJ,cO]) (aZ _) (bM (by omega));obtain⟨a6,c6,g6,h6,e6,o6,az,k6,a0⟩:=Ow.append ay FF o5 (x:=.string u) (n:=u.size) (new:=bc u.data.toList) (by simp only[dC,if_true];rw[lS]) (by rw[aJ];omega) (aZ _) (bM (by omega));have hn:=k.next;have W:∀x,g5=some x->h.next<=x:=by
   intro x V;rcases ax with E | ⟨y,G,E⟩
   ·exact ad x (by rw[<-E];exact V)
   ·rw[V]at G;injection G with G;omega
  have bf:=k5.next;have af:∀x,g6=some x->h.next<=x:=by
   intro x V;rcases az with E | ⟨y,G,E⟩
   ·exact W x (by rw[<-E];exact V)
   ·rw[V]at G;injection G with G;omega
  have heq:=oD jF eb;refine⟨a5,l4+4,c5,h5,e5,a6,l4+4+u.size,c6,h6,e6,l - (i+1),by simp only[aI];omega,i+1,a6,l4+4+u.size,c6,g6,?_,rfl,by omega,?_,?_,af,?_,a0⟩
  ·rw[show aG .i64 (i:Int) 1=_ from cN 1 i (by omega)]
  ·rw[heq,<-Ut];unfold jF at o6 ⊢;rw[<-Ut,fM,fM];exact o6
  ·rw[heq,<-Ut,Ug,<-U];unfold jF;rw[Ug,cO,av]
   omega
  ·exact((k.trans wf k3 fF).trans wf (S:=fun _=>False) k5 fun g hg O=>by have:=ad _ O;omega).trans wf k6 fun g hg O=>by have:=W _ O;omega
 ·rw[if_neg O];have ae:i=l:=by
   by_cases E:i=l
   ·exact E
   ·exact absurd (aC.2 (by rw[aF];omega)) O
  subst ae;rw[Uj (by omega)]at o U;exact⟨_,Hu o U.symm (by rw[U,Ug];omega),rfl,k⟩
end Go.Proofs.YtmapagggnigfpaaGreat.pk
set_option maxRecDepth 100000
set_option maxHeartbeats 4000000
namespace Go.Proofs.YtmapagggnigfpaaGreat.vc
open Cn
open Value (int bool string slice pointer agg tuple)
variable {C:CT} {h:Hp} {K:KT}
def pf:FuncId->Bool:=fun f=>false
theorem RF{x n:Int}:vX C Tryz.prog pf eE Tryz.f180 [int .u32 x,int .i64 n] h K=(bR (iD .u64 (cC .u64 n) 31)/\bR (bB .u64 32 (iD .u64 (cC .u64 n) 31))/\K (int .u32 (tL .u32 (jM .u32 x (iD .u64 (cC .u64 n) 31)) (gL .u32 x (bB .u64 32 (iD .u64 (cC .u64 n) 31))))) h):=by kernel_rfl
theorem RE:vX C Tryz.prog pf eE Tryz.f181 [] h K=(∀b,b=h.alloc Qm 291->pA h.next 0/\∃a,b.store h.next 0 [int .u32 1116352408,int .u32 1899447441,int .u32 3049323471,int .u32 3921009573,int .u32 961987163,int .u32 1508970993,int .u32 2453635748,int .u32 2870763221,int .u32 3624381080,int .u32 310598401,int .u32 607225278,int .u32 1426881987,int .u32 1925078388,int .u32 2162078206,int .u32 2614888103,int .u32 3248222580,int .u32 3835390401,int .u32 4022224774,int .u32 264347078,int .u32 604807628,int .u32 770255983,int .u32 1249150122,int .u32 1555081692,int .u32 1996064986,int .u32 2554220882,int .u32 2821834349,int .u32 2952996808,int .u32 3210313671,int .u32 3336571891,int .u32 3584528711,int .u32 113926993,int .u32 338241895,int .u32 666307205,int .u32 773529912,int .u32 1294757372,int .u32 1396182291,int .u32 1695183700,int .u32 1986661051,int .u32 2177026350,int .u32 2456956037,int .u32 2730485921,int .u32 2820302411,int .u32 3259730800,int .u32 3345764771,int .u32 3516065817,int .u32 3600352804,int .u32 4094571909,int .u32 275423344,int .u32 430227734,int .u32 506948616,int .u32 659060556,int .u32 883997877,int .u32 958139571,int .u32 1322822218,int .u32 1537002063,int .u32 1747873779,int .u32 1955562222,int .u32 2024104815,int .u32 2227730452,int .u32 2361852424,int .u32 2428436474,int .u32 2756734187,int .u32 3204031479,int .u32 3329325298]=some a/\∃D,(rD a h.next 0 64 ((aK .u32 64 D)))/\K (agg (Array.mk ((aK .u32 64 D)))) a):=by kernel_rfl
theorem RJ:vX C Tryz.prog pf eE Tryz.f175 [] h K=(∀b,b=h.alloc [aW,aW,aW,aW,aW,aW,aW,aW] 282->pA h.next 0/\∃a,b.store h.next 0 [int .u32 1779033703,int .u32 3144134277,int .u32 1013904242,int .u32 2773480762,int .u32 1359893119,int .u32 2600822924,int .u32 528734635,int .u32 1541459225]=some a/\∃n c d e f g i j,(rD a h.next 0 8 [int .u32 n,int .u32 c,int .u32 d,int .u32 e,int .u32 f,int .u32 g,int .u32 i,int .u32 j])/\K (agg #[int .u32 n,int .u32 c,int .u32 d,int .u32 e,int .u32 f,int .u32 g,int .u32 i,int .u32 j]) a):=by kernel_rfl
def Oj:SH:=fun i=>if i=3 then [(18,3)] else if i=8 then [(6,3)] else if i=17 then [(106,3)] else if i=29 then [(192,3)] else []
theorem RH{b n:Nat}{O:AV}:vX C Tryz.prog pf Oj Tryz.f177 [pointer (some ⟨b,n,none⟩),agg O] h K=(∀(a:Hp),a=h.alloc O.1 287->∀(N:Hp),N=a.alloc Qm 291->∃(I:IT),(∃(m:Nat),I [int .i64 0] m N)/\∀(f:Int) (m:Nat) (l:Hp),I [int .i64 f] m l->if bO f 16 then(pA h.next 0/\bS (cY .i64 4 f) 64)/\∃(n:Int),(rD l h.next (aA 0 (cY .i64 4 f) 1) 1 [int .u8 n])/\bR 24/\(pA h.next 0/\bS (aG .i64 (cY .i64 4 f) 1) 64)/\∃(d:Int),(rD l h.next (aA 0 (aG .i64 (cY .i64 4 f) 1) 1) 1 [int .u8 d])/\bR 16/\(pA h.next 0/\bS (aG .i64 (cY .i64 4 f) 2) 64)/\∃(j:Int),(rD l h.next (aA 0 (aG .i64 (cY .i64 4 f) 2) 1) 1 [int .u8 j])/\bR 8/\(pA h.next 0/\bS (aG .i64 (cY .i64 4 f) 3) 64)/\∃(k:Int),(rD l h.next (aA 0 (aG .i64 (cY .i64 4 f) 3) 1) 1 [int .u8 k])/\(pA a.next 0/\bS f 64)/\pA a.next (aA 0 f 1)/\∃(g:Hp),l.store a.next (aA 0 f 1) [int .u32 (tL .u32 (tL .u32 (tL .u32 (jM .u32 (cC .u32 n) 24) (jM .u32 (cC .u32 d) 16)) (jM .u32 (cC .u32 j) 8)) (cC .u32 k))]=some g/\∃(i:Nat),aI i m/\I [int .i64 (aG .i64 f 1)] i g else ∃(I:IT),(∃(m:Nat),I [int .i64 16] m l)/\∀(d:Int) (m:Nat) (h:Hp),I [int .i64 d] m h->if bO d 64 then(pA a.next 0/\bS (bB .i64 d 15) 64)/\∃(n:Int),(rD h a.next (aA 0 (bB .i64 d 15) 1) 1 [int .u32 n])/\(pA a.next 0/\bS (bB .i64 d 2) 64)/\∃(j:Int),(rD h a.next (aA 0 (bB .i64 d 2) 1) 1 [int .u32 j])/\(pA a.next 0/\bS (bB .i64 d 16) 64)/\∃(k:Int),(rD h a.next (aA 0 (bB .i64 d 16) 1) 1 [int .u32 k])/\(pA a.next 0/\bS (bB .i64 d 7) 64)/\∃(u:Int),(rD h a.next (aA 0 (bB .i64 d 7) 1) 1 [int .u32 u])/\(pA a.next 0/\bS d 64)/\pA a.next (aA 0 d 1)/\∃(g:Hp),h.store a.next (aA 0 d 1) [int .u32 (aG .u32 k u)]=some g/\(pA a.next 0/\bS d 64)/\∃(o:Int),(rD g a.next (aA 0 d 1) 1 [int .u32 o])/\bR 3/\C 180 [int .u32 n,int .i64 (-7)] g fun v w=>∃(x:Int),v=int .u32 x/\(rD w a.next (aA 0 d 1) 1 [int .u32 o])/\C 180 [int .u32 n,int .i64 (-18)] w fun v c=>∃(y:Int),v=int .u32 y/\(rD c a.next (aA 0 d 1) 1 [int .u32 o])/\(pA a.next 0/\bS d 64)/\pA a.next (aA 0 d 1)/\∃(q:Hp),c.store a.next (aA 0 d 1) [int .u32 (aG .u32 o (fO .u32 (fO .u32 x y) (gL .u32 n 3)))]=some q/\(pA a.next 0/\bS d 64)/\∃(n:Int),(rD q a.next (aA 0 d 1) 1 [int .u32 n])/\bR 10/\C 180 [int .u32 j,int .i64 (-17)] q fun v z=>∃(A:Int),v=int .u32 A/\(rD z a.next (aA 0 d 1) 1 [int .u32 n])/\C 180 [int .u32 j,int .i64 (-19)] z fun v B=>∃(E:Int),v=int .u32 E/\(rD B a.next (aA 0 d 1) 1 [int .u32 n])/\(pA a.next 0/\bS d 64)/\pA a.next (aA 0 d 1)/\∃(P:Hp),B.store a.next (aA 0 d 1) [int .u32 (aG .u32 n (fO .u32 (fO .u32 A E) (gL .u32 j 10)))]=some P/\∃(i:Nat),aI i m/\I [int .i64 (aG .i64 d 1)] i P else C 181 [] h fun v g=>∃(D:Nat->Int),v=agg (Array.mk ((aK .u32 64 D)))/\∀(w:Hp),w=g.alloc Qm 291->pA g.next 0/\∃(c:Hp),w.store g.next 0 ((aK .u32 64 D))=some c/\sA b n/\∃(j k u o x y A E:Int),(rD c b n 8 [int .u32 j,int .u32 k,int .u32 u,int .u32 o,int .u32 x,int .u32 y,int .u32 A,int .u32 E])/\∀(q:Hp),q=c.alloc [aW,aW,aW,aW,aW,aW,aW,aW] 282->pA c.next 0/\∃(z:Hp),q.store c.next 0 [int .u32 j,int .u32 k,int .u32 u,int .u32 o,int .u32 x,int .u32 y,int .u32 A,int .u32 E]=some z/\∃(I:IT),(∃(m:Nat),I [int .i64 0] m z)/\∀(p:Int) (m:Nat) (h:Hp),I [int .i64 p] m h->if bO p 64 then sA g.next 0/\(pA g.next 0/\bS p 64)/\∃(n:Int),(rD h g.next (aA 0 p 1) 1 [int .u32 n])/\(pA c.next 0/\bS 4 8)/\∃(e:Int),(rD h c.next (aA 0 4 1) 1 [int .u32 e])/\(pA c.next 0/\bS 7 8)/\∃(r:Int),(rD h c.next (aA 0 7 1) 1 [int .u32 r])/\(pA a.next 0/\bS p 64)/\∃(s:Int),(rD h a.next (aA 0 p 1) 1 [int .u32 s])/\C 180 [int .u32 e,int .i64 (-6)] h fun v a=>∃(F:Int),v=int .u32 F/\C 180 [int .u32 e,int .i64 (-11)] a fun v a=>∃(G:Int),v=int .u32 G/\C 180 [int .u32 e,int .i64 (-25)] a fun v a=>∃(H:Int),v=int .u32 H/\(pA c.next 0/\bS 5 8)/\∃(L:Int),(rD a c.next (aA 0 5 1) 1 [int .u32 L])/\(pA c.next 0/\bS 6 8)/\∃(M:Int),(rD a c.next (aA 0 6 1) 1 [int .u32 M])/\(pA c.next 0/\bS 0 8)/\∃(t:Int),(rD a c.next (aA 0 0 1) 1 [int .u32 t])/\C 180 [int .u32 t,int .i64 (-2)] a fun v a=>∃(Q:Int),v=int .u32 Q/\C 180 [int .u32 t,int .i64 (-13)] a fun v a=>∃(R:Int),v=int .u32 R/\C 180 [int .u32 t,int .i64 (-22)] a fun v a=>∃(S:Int),v=int .u32 S/\(pA c.next 0/\bS 1 8)/\∃(T:Int),(rD a c.next (aA 0 1 1) 1 [int .u32 T])/\(pA c.next 0/\bS 2 8)/\∃(U:Int),(rD a c.next (aA 0 2 1) 1 [int .u32 U])/\(pA c.next 0/\bS 1 8)/\∃(V:Int),(rD a c.next (aA 0 1 1) 1 [int .u32 V])/\(pA c.next 0/\bS 2 8)/\∃(W:Int),(rD a c.next (aA 0 2 1) 1 [int .u32 W])/\(pA c.next 0/\bS 0 8)/\∃(X:Int),(rD a c.next (aA 0 0 1) 1 [int .u32 X])/\(pA c.next 0/\bS 1 8)/\∃(Y:Int),(rD a c.next (aA 0 1 1) 1 [int .u32 Y])/\(pA c.next 0/\bS 2 8)/\∃(Z:Int),(rD a c.next (aA 0 2 1) 1 [int .u32 Z])/\(pA c.next 0/\bS 3 8)/\∃(aa:Int),(rD a c.next (aA 0 3 1) 1 [int .u32 aa])/\(pA c.next 0/\bS 4 8)/\∃(ab:Int),(rD a c.next (aA 0 4 1) 1 [int .u32 ab])/\(pA c.next 0/\bS 5 8)/\∃(ac:Int),(rD a c.next (aA 0 5 1) 1 [int .u32 ac])/\(pA c.next 0/\bS 6 8)/\∃(ad:Int),(rD a c.next (aA 0 6 1) 1 [int .u32 ad])/\pA c.next 0/\∃(B:Hp),a.store c.next 0 [int .u32 (aG .u32 (aG .u32 (aG .u32 (aG .u32 (aG .u32 r n) s) (fO .u32 (fO .u32 F G) H)) (fO .u32 (iD .u32 e L) (iD .u32 (Em IntKind.u32 e) M))) (aG .u32 (fO .u32 (fO .u32 Q R) S) (fO .u32 (fO .u32 (iD .u32 t T) (iD .u32 t U)) (iD .u32 V W)))),int .u32 X,int .u32 Y,int .u32 Z,int .u32 (aG .u32 aa (aG .u32 (aG .u32 (aG .u32 (aG .u32 r n) s) (fO .u32 (fO .u32 F G) H)) (fO .u32 (iD .u32 e L) (iD .u32 (Em IntKind.u32 e) M)))),int .u32 ab,int .u32 ac,int .u32 ad]=some B/\∃(i:Nat),aI i m/\I [int .i64 (aG .i64 p 1)] i B else ∃(I:IT),(∃(m:Nat),I [int .i64 0] m h)/\∀(e:Int) (m:Nat) (h:Hp),I [int .i64 e] m h->if bO e 8 then sA b n/\(pA b n/\bS e 8)/\∃(r:Int),(rD h b (aA n e 1) 1 [int .u32 r])/\(pA c.next 0/\bS e 8)/\∃(s:Int),(rD h c.next (aA 0 e 1) 1 [int .u32 s])/\sA b n/\(pA b n/\bS e 8)/\pA b (aA n e 1)/\∃(a:Hp),h.store b (aA n e 1) [int .u32 (aG .u32 r s)]=some a/\∃(i:Nat),aI i m/\I [int .i64 (aG .i64 e 1)] i a else K (tuple #[]) h):=by kernel_rfl
theorem RI{b:Nat}:vX C Tryz.prog pf eE Tryz.f176 [pointer (some ⟨b,0,none⟩)] h K=((aD (isN (sB b))->sA b 0)/\(aD (isN (sB b))->pA b 0)/\∃a,(aD (isN (sB b))->rD h b 0 1 [bool a])/\K (bool (aR (isN (sB b)) true (aD a))) h):=by kernel_rfl
theorem RO:vX C Tryz.prog pf eE Tryz.f165 [] h K=(C 175 [] h fun v a=>∃n b c d e f g i,v=agg #[int .u32 n,int .u32 b,int .u32 c,int .u32 d,int .u32 e,int .u32 f,int .u32 g,int .u32 i]/\∀j,j=a.alloc [bool true,int .u32 n,int .u32 b,int .u32 c,int .u32 d,int .u32 e,int .u32 f,int .u32 g,int .u32 i,nS,lV] 285->K (pointer (sB a.next)) j):=by kernel_rfl
def On:SH:=fun i=>if i=2 then [(11,3)] else if i=5 then [(5,9)] else []
theorem RN{b:Nat}{a:OA}{l c:Nat}:vX C Tryz.prog pf On Tryz.f166 [pointer (some ⟨b,0,none⟩),slice a l c] h K=(C 176 [pointer (sB b)] h fun v d=>∃j,v=bool j/\if j then K (tuple #[]) d else ∃(I:IT),(∃m,I [int .i64 0] m d)/\∀n m h,I [int .i64 n] m h->if bO n (aE l) then(a.isSome/\bS n l)/\∃s,(rD h (blk a) (aA (off a) n 1) 1 [string s])/\sA b 0/\pA b 0/\∃k,(rD h b 10 1 [int .i64 k])/\sA b 0/\pA b 0/\pA b 10/\∃d,h.store b 10 [int .i64 (aG .i64 k (aE (aU s)))]=some d/\∃(g:IT),(∃m,g [string s] m d)/\∀s i h,g [string s] i h->if dB (aE (aU s)) 0 then sA b 0/\pA b 0/\∃a l c,(rD h b 9 1 [slice a l c])/\sA b 0/\pA b 0/\∃a o c,(rD h b 9 1 [slice a o c])/\yA s 0 (wU (bB .i64 64 (aE l)) (aE (aU s)))/\∃p m n d,aQ Tryz.prog 144 9 (slice a o c) (string (dQ s 0 (wU (bB .i64 64 (aE l)) (aE (aU s))))) h=some (slice p m n,d)/\sA b 0/\pA b 0/\pA b 9/\∃f,d.store b 9 [slice p m n]=some f/\yA s (wU (bB .i64 64 (aE l)) (aE (aU s))) (aE (aU s))/\sA b 0/\pA b 0/\∃a q c,(rD f b 9 1 [slice a q c])/\if bX (aE q) 64 then sA b 0/\pA b 0/\sA b 0/\pA b 0/\∃a r c,(rD f b 9 1 [slice a r c])/\(a.isSome/\SO 64 r)/\∃D,(rD f (blk a) (off a) 64 ((aK .u8 64 D)))/\C 177 [pointer (some ⟨b,1,none⟩),agg (Array.mk ((aK .u8 64 D)))] f fun v d=>v=tuple #[]/\sA b 0/\pA b 0/\∃a u c,(rD d b 9 1 [slice a u c])/\(jO 0 0 (aE c) (aE c)/\nK 1 a)/\sA b 0/\pA b 0/\pA b 9/\∃t,d.store b 9 [slice (vO 0 1 a) (dO 0 0) (dO (aE c) 0)]=some t/\∃e,aI e i/\g [string (dQ s (wU (bB .i64 64 (aE l)) (aE (aU s))) (aE (aU s)))] e t else ∃e,aI e i/\g [string (dQ s (wU (bB .i64 64 (aE l)) (aE (aU s))) (aE (aU s)))] e f else ∃e,aI e m/\I [int .i64 (aG .i64 n 1)] e h else K (tuple #[]) h):=by kernel_rfl
def Om:SH:=fun i=>if i=7 then [(5,144)] else if i=11 then [(5,144),(7,3)] else if i=14 then [(5,144)] else if i=18 then [(61,3)] else if i=21 then [(65,3)] else []
theorem RM{b:Nat}:vX C Tryz.prog pf Om Tryz.f167 [pointer (some ⟨b,0,none⟩)] h K=(∀(d:Hp),d=h.alloc fH 41->∀(G:Hp),G=d.alloc fH 41->C 176 [pointer (sB b)] G fun v g=>∃(H:Bool),v=bool H/\if H then ∃(D:Nat->Int),(rD g d.next 0 32 ((aK .u8 32 D)))/\pA h.next 0/\∃(d:Hp),g.store h.next 0 ((aK .u8 32 D))=some d/\∃(D:Nat->Int),(rD d h.next 0 32 ((aK .u8 32 D)))/\K (agg (Array.mk ((aK .u8 32 D)))) d else sA b 0/\pA b 0/\∃(n L M N P Q R S:Int),(rD g b 1 8 [int .u32 n,int .u32 L,int .u32 M,int .u32 N,int .u32 P,int .u32 Q,int .u32 R,int .u32 S])/\∀(T:Hp),T=g.alloc [aW,aW,aW,aW,aW,aW,aW,aW] 282->pA g.next 0/\∃(t:Hp),T.store g.next 0 [int .u32 n,int .u32 L,int .u32 M,int .u32 N,int .u32 P,int .u32 Q,int .u32 R,int .u32 S]=some t/\sA b 0/\pA b 0/\∃(a:OA) (l c:Nat),(rD t b 9 1 [slice a l c])/\∃(U:OA) (m n:Nat) (u:Hp),aQ Tryz.prog 144 144 nS (slice a l c) t=some (slice U m n,u)/\∀(V:Hp),V=u.alloc [int .u8 128] 5->∃(a:OA) (W X:Nat) (Y:Hp),aQ Tryz.prog 144 144 (slice U m n) (slice (sB u.next) 1 1) V=some (slice a W X,Y)/\∃(I:IT),(∃(m:Nat),I [slice a W X] m Y)/\∀(a:OA) (l c m:Nat) (o:Hp),I [slice a l c] m o->bW 64/\if cP (iO (aE l) 64) 56 then ∀(d:Hp),d=o.alloc [int .u8 0] 5->∃(Z:OA) (i n:Nat) (j:Hp),aQ Tryz.prog 144 144 (slice a l c) (slice (sB o.next) 1 1) d=some (slice Z i n,j)/\∃(e:Nat),aI e m/\I [slice Z i n] e j else sA b 0/\pA b 0/\∃(n:Int),(rD o b 10 1 [int .i64 n])/\∃(I:IT),(∃(m:Nat),I [slice a l c,int .i64 56] m o)/\∀(a:OA) (l c:Nat) (p:Int) (m:Nat) (r:Hp),I [slice a l c,int .i64 p] m r->if iE p 0 then bR p/\∀(d:Hp),d=r.alloc [int .u8 (cC .u8 (gL .u64 (cY .u64 (cC .u64 n) 8) p))] 5->∃(O:OA) (i n:Nat) (j:Hp),aQ Tryz.prog 144 144 (slice a l c) (slice (sB r.next) 1 1) d=some (slice O i n,j)/\∃(e:Nat),aI e m/\I [slice O i n,int .i64 (bB .i64 p 8)] e j else ∃(I:IT),(∃(m:Nat),I [slice a l c] m r)/\∀(a:OA) (l c m:Nat) (q:Hp),I [slice a l c] m q->if dB (aE l) 0 then(jO 0 64 (aE c) (aE c)/\nK 1 a)/\((vO 0 1 a).isSome/\SO 64 (dO 64 0))/\∃(D:Nat->Int),(rD q (blk (vO 0 1 a)) (off (vO 0 1 a)) 64 ((aK .u8 64 D)))/\C 177 [pointer (sB g.next),agg (Array.mk ((aK .u8 64 D)))] q fun v d=>v=tuple #[]/\(jO 64 (aE l) (aE c) (aE c)/\nK 1 a)/\∃(e:Nat),aI e m/\I [slice (vO 64 1 a) (dO (aE l) 64) (dO (aE c) 64)] e d else ∃(n w x y z A B E:Int),(rD q g.next 0 8 [int .u32 n,int .u32 w,int .u32 x,int .u32 y,int .u32 z,int .u32 A,int .u32 B,int .u32 E])/\∃(I:IT),(∃(m:Nat),I [int .i64 0] m q)/\∀(f:Int) (m:Nat) (s:Hp),I [int .i64 f] m s->if bO f 8 then(bS f 8/\IC IntKind.u32 #[int .u32 n,int .u32 w,int .u32 x,int .u32 y,int .u32 z,int .u32 A,int .u32 B,int .u32 E] f)/\∃(F:IT),(∃(m:Nat),F [int .i64 0] m s)/\∀(k:Int) (i:Nat) (h:Hp),F [int .i64 k] i h->if bO k 4 then bR (bB .i64 24 (cY .i64 8 k))/\(pA d.next 0/\bS (aG .i64 (cY .i64 4 f) k) 32)/\pA d.next (aA 0 (aG .i64 (cY .i64 4 f) k) 1)/\∃(j:Hp),h.store d.next (aA 0 (aG .i64 (cY .i64 4 f) k) 1) [int .u8 (cC .u8 (gL .u32 (Jy #[int .u32 n,int .u32 w,int .u32 x,int .u32 y,int .u32 z,int .u32 A,int .u32 B,int .u32 E] f) (bB .i64 24 (cY .i64 8 k))))]=some j/\∃(e:Nat),aI e i/\F [int .i64 (aG .i64 k 1)] e j else ∃(e:Nat),aI e m/\I [int .i64 (aG .i64 f 1)] e h else ∃(D:Nat->Int),(rD s d.next 0 32 ((aK .u8 32 D)))/\pA h.next 0/\∃(d:Hp),s.store h.next 0 ((aK .u8 32 D))=some d/\∃(D:Nat->Int),(rD d h.next 0 32 ((aK .u8 32 D)))/\K (agg (Array.mk ((aK .u8 32 D)))) d):=by kernel_rfl
theorem RR{s:BA}:vX C Tryz.prog pf eE Tryz.f141 [string s] h K=(∀b,b=h.alloc fH 41->C 165 [] b fun v b=>∃a,v=pointer a/\∀d,d=b.alloc [string s] 9->C 166 [pointer a,slice (sB b.next) 1 1] d fun v b=>v=tuple #[]/\C 167 [pointer a] b fun v b=>∃D,v=agg (Array.mk ((aK .u8 32 D)))/\pA h.next 0/\∃c,b.store h.next 0 ((aK .u8 32 D))=some c/\∃D,(rD c h.next 0 32 ((aK .u8 32 D)))/\K (agg (Array.mk ((aK .u8 32 D)))) c):=by kernel_rfl
end Go.Proofs.YtmapagggnigfpaaGreat.vc
namespace Go.Proofs.YtmapagggnigfpaaGreat.sb
open Go Go.Cn Go.Cn.Sha Go.Proofs Go.Proofs.YtmapagggnigfpaaGreat.vc
abbrev C:=SCalls Tryz.prog
theorem Sf:Tryz.prog.follows .mixedOrders=true:=by kernel_rfl
def u8(n:Nat):Value:=.int .u8 n
def u32(n:Nat):Value:=.int .u32 n
def bytes8(s:BA):LN:=s.data.toList.map UInt8.toNat
theorem uE(s:BA):oJ s=(bytes8 s).map u8:=by
 unfold oJ bytes8;simp[u8,List.map_map,Function.comp]
theorem sR:AppT Tryz.prog 144 144 5 1 1:=AppT.of _ (by kernel_rfl)
theorem CY{h W:Hp}(wf:Wf h){t xt elem e:TI}{w bytes l b g:Nat}(ht:AppT Tryz.prog t xt elem w bytes){S:NP}(hS:∀g,h.next<=g->S g){cs:LV}(hb:Blk h b (some g) cs)(hl:cs.length=l * w)(G:S g)
  {new:LV} (he:W=h.alloc new e) (E:new.length=w) (hv:new.all isCell=true) (hr:roomy (l+1) bytes=true) :
  ∃a' h',aQ Tryz.prog t xt (.slice (some ⟨b,0,some w⟩) l l) (.slice (some ⟨h.next,0,none⟩) 1 1) W=some (.slice a' (l+1) (l+1),h')/\Bd h' w S a' (l+1) (l+1) (cs++new)/\Keep S h h'/\Wf h':=by
 by_cases h0:0 < l
 ·exact Bd.append1 wf ht hS (.inr ⟨b,g,rfl,G,rfl,h0,hl,hb⟩) he E hv hr
 ·have:l=0:=by omega
  subst this;subst he;have hd:=MR wf E e;have k:=jY wf new e;have O:=oK wf new e;have U:=Kept.blk k hb;rw[HH ht (Uf _) hd (by omega) hr];simp only[Nat.zero_mul]at hl;obtain⟨h',x1,x2,x3,x4,x5,x6⟩:=U.extend O (o:=0) (e:=0) (new:=new) (Uf _) (Uk _) hv;have V:cs=[]:=VS hl;subst V;refine⟨some ⟨(h.alloc new e).next,0,some w⟩,h',?_,.inr ⟨_,g,rfl,G,rfl,by omega,by simp[E],by simpa using x2⟩,?_,x6⟩
  ·simp only[Nat.zero_mul,Nat.zero_add,if_true];rw[if_neg (by omega),if_neg (by omega)];rw[x1]
   rfl
  ·exact(k.mono wf (S':=S) fun _ _ hf=>hf.elim).trans wf x4 fun x _ hx=>by rw[hx];exact G
theorem rA(l:LN):(l.map u8).all isCell=true:=by simp[u8,isCell]
theorem sP(l:LN):(l.map u32).all isCell=true:=by simp[u32,isCell]
theorem rV(n j:Nat)(E:j < 8):(fE n).take (j+1)=(fE n).take j++[((n * 8) % 18446744073709551616) >>> (56 - 8 * j) % 256]:=by
 match j,E with
 | 0,_ | 1,_ | 2,_ | 3,_ | 4,_ | 5,_ | 6,_ | 7,_=>rfl
theorem QM(l:Nat):iO (aE l) 64=((l % 64:Nat):Int):=by
 unfold iO aE;rw[Int.tmod_eq_emod_of_nonneg (Ui _)]
 omega
theorem SY(n:Nat):cY .u64 (cC .u64 (n:Int)) 8=((n * 8 % 18446744073709551616:Nat):Int):=by
 unfold cY cC;rw[wrap_u64];have:(((n % 18446744073709551616:Nat):Int) * 8)=((n % 18446744073709551616 * 8:Nat):Int):=(Int.natCast_mul _ 8).symm;rw[this,wrap_u64,Nat.mod_mul_mod]
theorem iJ{f:Nat->Value}:∀L:LN,L.map f=L.flatMap fun n=>[f n]
 | []=>rfl
 | x::L=>by simp[iJ L]
theorem uL{f:Nat->Value}{h:Hp}{g:ON}{a:OA}{l c:Nat}{L:LN}(s:SlT (fun n=>[f n]) 1 h g a l c L){i x:Nat}(E:L[i]? = some x):
  (a.isSome=true/\bS (i:Int) l)/\(aN (some (Addr.mk (blk a) (aA (off a) (i:Int) 1) none))=true/\h.cellsAt (blk a) (aA (off a) (i:Int) 1) 1=some [f x]):=by
 have hr:=SlT.get (enc:=fun n=>[f n]) (w:=1) (fun _=>rfl) s E (j:=0) (m:=1) (Uf 1);have hi:i < l:=by rw[<-s.len];exact(Us.1 E).1
 exact⟨⟨hr.1,Ui _,Int.ofNat_lt.2 hi⟩,rfl,hr.2.trans rfl⟩
abbrev UX(h:Hp)(g:ON)(a:OA)(l c:Nat)(L:LN):Prop:=SlT (fun n=>[u8 n]) 1 h g a l c L
abbrev AE(h:Hp)(g:ON)(a:OA)(l c:Nat)(L:LN):Prop:=SlT (fun n=>[u32 n]) 1 h g a l c L
theorem Ia{f:Nat->Value}{h:Hp}{S:NP}{a:OA}{l c:Nat}{L:LN}(s:Bd h 1 S a l c (L.map f))(hl:L.length=l):∃g:ON,SlT (fun n=>[f n]) 1 h g a l c L:=by
 rw[iJ]at s;obtain⟨g,_,s⟩:=s.slT hl;exact⟨g,s⟩
theorem uN:∀(i:Nat) (bs:LN) {b0 b1 b2 U:Nat},bs[4 * i]? = some b0->bs[4 * i+1]? = some b1->bs[4 * i+2]? = some b2->bs[4 * i+3]? = some U->(words bs)[i]? = some (word b0 b1 b2 U)
 | i,[],b0,b1,b2,U,h0,G,O,E=>by simp at E
 | i,[a],b0,b1,b2,U,h0,G,O,E=>by simp at E
 | i,[a,b],b0,b1,b2,U,h0,G,O,E=>by simp at E
 | i,[a,b,c],b0,b1,b2,U,h0,G,O,E=>by simp at E
 | 0,a::b::c::d::r,b0,b1,b2,U,h0,G,O,E=>by
  simp at h0 G O E;subst h0 G O E
  rfl
 | i+1,a::b::c::d::r,b0,b1,b2,U,h0,G,O,E=>by
  simp only[words,Vd];refine uN i r ?_ ?_ ?_ ?_
  ·rw[show 4 * (i+1)=4 * i+4 by omega]at h0;simpa using h0
  ·rw[show 4 * (i+1)+1=4 * i+1+4 by omega]at G;simpa using G
  ·rw[show 4 * (i+1)+2=4 * i+2+4 by omega]at O;simpa using O
  ·rw[show 4 * (i+1)+3=4 * i+3+4 by omega]at E;simpa using E
theorem uM:∀(n:Nat) (bs:LN),bs.length=4 * n->(words bs).length=n
 | 0,bs,h=>by
  have:bs=[]:=VS (by omega);subst this;rfl
 | n+1,a::b::c::d::r,h=>by simp only[words,Ux]at h ⊢;rw[uM n r (by omega)]
 | n+1,[],h=>by simp at h
 | n+1,[a],h=>by simp only[Ux,Vl]at h;omega
 | n+1,[a,b],h=>by simp only[Ux,Vl]at h;omega
 | n+1,[a,b,c],h=>by simp only[Ux,Vl]at h;omega
theorem Kq{a:Nat}(h:a < 256):gF a:=by unfold gF;omega
theorem Qn{a b c d:Nat}(h:d < 256):gF (word a b c d):=(((gF.mod _).or (.mod _)).or (.mod _)).or (Kq h)
theorem xQ:∀(n:Nat) (bs:LN),bs.length=4 * n->(∀b∈bs,b < 256)->∀w∈words bs,gF w
 | 0,bs,h,hb,w,hw=>by
  have:bs=[]:=VS (by omega);subst this;simp[words]at hw
 | n+1,a::b::c::d::r,h,hb,w,hw=>by
  simp only[words,VM]at hw;rcases hw with rfl | hw
  ·exact Qn (hb d (by simp))
  ·exact xQ n r (by simp only[Ux]at h;omega) (fun x E=>hb x (by simp[E])) w hw
 | n+1,[],h,hb,w,hw=>by simp at h
 | n+1,[a],h,hb,w,hw=>by simp[words]at hw
 | n+1,[a,b],h,hb,w,hw=>by simp[words]at hw
 | n+1,[a,b,c],h,hb,w,hw=>by simp[words]at hw
theorem Hf{a b c d:Nat}(G:a < 256)(hb:b < 256)(O:c < 256)(E:d < 256):tL .u32 (tL .u32 (tL .u32 (jM .u32 (cC .u32 (a:Int)) 24) (jM .u32 (cC .u32 (b:Int)) 16)) (jM .u32 (cC .u32 (c:Int)) 8)) (cC .u32 (d:Int))=((word a b c d:Nat):Int):=by
 have e:∀{x:Nat},x < 256->cC .u32 (x:Int)=(x:Int):=fun U=>by unfold cC;rw[wrap_u32,Up (by omega)]
 rw[e G,e hb,e O,e E];have s1:=pT a 24 (by omega);have s2:=pT b 16 (by omega);have s3:=pT c 8 (by omega);simp only[Int.cast_ofNat_Int]at s1 s2 s3;rw[s1,s2,s3,tK (.mod _) (.mod _),tK ((gF.mod _).or (.mod _)) (.mod _),tK (((gF.mod _).or (.mod _)).or (.mod _)) (Kq E)]
 rfl
theorem tE{r:LN}{k:Nat}(E:k < r.length):r.reverse[r.length - 1 - k]? = some (r.getD k 0):=by
 rw[List.getElem?_reverse (by omega),show r.length - 1 - (r.length - 1 - k)=k by omega,Uz,Uh E]
 rfl
theorem xH{r:LN}(h:∀w∈r,gF w)(k:Nat):gF (r.getD k 0):=by
 rw[Uz]
 cases E:r[k]? with
 | none=>exact(by unfold gF;simp)
 | some x=>exact h x (Uy E)
theorem QL{x:Nat}(E:gF x):fO .u32 (fO .u32 ((rot 7 x:Nat):Int) ((rot 18 x:Nat):Int)) (gL .u32 (x:Int) 3)=((s0 x:Nat):Int):=by
 have:=shrW_nat .u32 x 3 (by decide);simp only[Int.cast_ofNat_Int]at this;rw[this,iZ (E.rot _) (E.rot _),iZ ((E.rot _).xor (E.rot _)) (E.shr _)]
 rfl
theorem QK{x:Nat}(E:gF x):fO .u32 (fO .u32 ((rot 17 x:Nat):Int) ((rot 19 x:Nat):Int)) (gL .u32 (x:Int) 10)=((s1 x:Nat):Int):=by
 have:=shrW_nat .u32 x 10 (by decide);simp only[Int.cast_ofNat_Int]at this;rw[this,iZ (E.rot _) (E.rot _),iZ ((E.rot _).xor (E.rot _)) (E.shr _)]
 rfl
theorem He{a b c x:Nat}(E:gF x):fO .u32 (fO .u32 ((rot a x:Nat):Int) ((rot b x:Nat):Int)) ((rot c x:Nat):Int)=(((rot a x ^^^ rot b x) ^^^ rot c x:Nat):Int):=by
 rw[iZ (E.rot _) (E.rot _),iZ ((E.rot _).xor (E.rot _)) (E.rot _)]
theorem QV{e f g:Nat}(he:gF e)(E:gF f)(G:gF g):fO .u32 (iD .u32 (e:Int) (f:Int)) (iD .u32 (Em .u32 (e:Int)) (g:Int))=((ch e f g:Nat):Int):=by
 rw[NM he,qP he E,qP he.com G,iZ (.and E) (.and G)]
 rfl
theorem MZ{a b c:Nat}(G:gF a)(hb:gF b)(E:gF c):fO .u32 (fO .u32 (iD .u32 (a:Int) (b:Int)) (iD .u32 (a:Int) (c:Int))) (iD .u32 (b:Int) (c:Int))=((Ts a b c:Nat):Int):=by
 rw[qP G hb,qP G E,qP hb E,iZ (.and hb) (.and E),iZ ((gF.and hb).xor (.and E)) (.and E)]
 rfl
theorem Rb{i:Nat}(hi:i < 16):cY .i64 4 (i:Int)=((4 * i:Nat):Int):=by
 unfold cY;have:=cF (a:=((4 * i:Nat):Int)) (b:=0) (by omega) (by omega);unfold aG at this;rw[show(4 * (i:Int))=((4 * i:Nat):Int) by omega];simpa using this
theorem cN{a:Nat}(b:Nat)(h:a+b < 4294967296):aG .i64 (a:Int) (b:Int)=((a+b:Nat):Int):=by
 rw[cF (by omega) (by omega)];omega
theorem AL{a b:Nat}(h:b<=a)(E:a < 4294967296):bB .i64 (a:Int) (b:Int)=((a - b:Nat):Int):=by
 rw[bY (by omega) (by omega)];omega
def W8(s:St):Prop:=gF s.a/\gF s.b/\gF s.c/\gF s.d/\gF s.e/\gF s.f/\gF s.g/\gF s.h
theorem W8.round{s:St}(h:W8 s)(k w:Nat):W8 (round s k w):=⟨.add _ _,h.1,h.2.1,h.2.2.1,.add _ _,h.2.2.2.2.1,h.2.2.2.2.2.1,h.2.2.2.2.2.2.1⟩
theorem QO{hs:LN}(h:hs.length=8):nW (wP hs)=hs:=by
 match hs,h with
 | [a,b,c,d,e,f,g,x],_=>rfl
theorem QH{hs:LN}(h:hs.length=8)(hw:∀w∈hs,gF w):W8 (wP hs):=by
 match hs,h with
 | [a,b,c,d,e,f,g,x],_=>exact⟨hw a (by simp),hw b (by simp),hw c (by simp),hw d (by simp),hw e (by simp),hw f (by simp),hw g (by simp),hw x (by simp)⟩
theorem DA{xs ys:LN}{i a b:Nat}(E:xs[i]? = some a)(hb:ys[i]? = some b):(List.zipWith add xs ys).take (i+1)=(List.zipWith add xs ys).take i++[add a b]:=by
 rw[VG,List.getElem?_zipWith,E,hb]
 rfl
theorem qL{L:LN}{t k:Nat}(h:L[t]? = some k):L.drop t=k::L.drop (t+1):=by
 obtain⟨hi,E⟩:=Us.1 h;rw[WI hi,E]
theorem AG:K.length=64:=rfl
def iT(bs:LN):LN:=(Ga 48 (words bs).reverse).reverse
theorem MX{f:Nat->Value}{h E:Hp}(wf:Wf h){L:LN}{e:TI}(he:E=h.alloc (L.map f) e){l:Nat}(hl:L.length=l):SlT (fun n=>[f n]) 1 E (some h.next) (some ⟨h.next,0,none⟩) l l L:=by
 obtain⟨b1,O,n1,G⟩:=aB wf he;refine⟨⟨Uf _,by rw[<-iJ];simp[hl],.inl rfl,fun _=>⟨_,b1,by simp[hl],?_⟩⟩,hl⟩;rw[VC,Uj (by simp[hl]),iJ]
theorem NJ{f:Nat->Value}{h:Hp}{g:ON}{a:OA}{l c:Nat}{L:LN}(s:SlT (fun n=>[f n]) 1 h g a l c L){i k:Nat}(hi:i+k<=l):SlT (fun n=>[f n]) 1 h g (vO (i:Int) 1 a) k (c - i) ((L.drop i).take k):=by
 have hl:=s.len;have G:=s.sl.le;have hm:=s.sl.mem;have E:((L.drop i).take k).length=k:=by rw[Uq,Vf];omega
 refine⟨⟨by omega,by rw[<-iJ,VP,E,Ve],?_⟩,E⟩;rw[<-iJ]at hm ⊢
 cases a with
 | none=>simp only[vO,Option.map_none]at hm ⊢;omega
 | some q =>
  obtain⟨b,o,sp⟩:=q;simp only[vO,Uv,Uo,Ve]at hm ⊢;refine⟨hm.1,fun h0=>?_⟩;obtain⟨CS,hb,U,O⟩:=hm.2 (by omega);refine⟨CS,hb,by omega,?_⟩;rw[rS O hi,List.map_take,List.map_drop]
theorem EN(n:Nat):∀b∈fE n,b < 256:=by
 intro b hb;simp only[fE,Uu]at hb;obtain⟨s,_,rfl⟩:=hb;exact Nat.mod_lt _ (by decide)
theorem MQ{bs:LN}(h:∀b∈bs,b < 256):∀b∈pad bs,b < 256:=by
 intro b hb;simp only[pad,VF,VM,List.mem_replicate]at hb;rcases hb with hb | rfl | hb | hb
 ·exact h b hb
 ·decide
 ·omega
 ·exact EN _ b hb
theorem Ht(bs:LN):∃n,(pad bs).length=64 * n:=by
 have E:(fE bs.length).length=8:=rfl;refine⟨(bs.length+1+dD bs.length+8) / 64,?_⟩;unfold pad;simp only[Ug,Ux,WQ,E];unfold dD
 omega
theorem oH(s:BA):∀b∈bytes8 s,b < 256:=by
 intro b hb;simp only[bytes8,Uu]at hb;obtain⟨x,_,rfl⟩:=hb;exact x.toNat_lt
theorem zW(hs bs:LN):∀w∈block hs bs,gF w:=by
 intro w hw;unfold block at hw;obtain⟨i,hi,rfl⟩:=List.getElem_of_mem hw;rw[List.getElem_zipWith];exact .add _ _
theorem lT{hs bs:LN}(h:hs.length=8):(block hs bs).length=8:=by
 unfold block;rw[List.length_zipWith,h]
 rfl
theorem Ic:∀w∈H0,gF w:=by
 intro w hw;simp only[H0,VM,List.not_mem_nil,or_false]at hw;unfold gF
 omega
theorem CJ{H:LN}:∀{i w:Nat} {H:LN},H[i / 4]? = some w->((H.map outBytes).flatten)[i]? = some ((w >>> (24 - 8 * (i % 4))) % 256)
 | i,w,[],h=>by simp at h
 | i,w,x::H,h=>by
  by_cases hi:i < 4
  ·have:i / 4=0:=by omega
   rw[this]at h;simp at h;subst h
   match i,hi with
   | 0,_ | 1,_ | 2,_ | 3,_=>rfl
  ·rw[show i / 4=(i - 4) / 4+1 by omega,Vd]at h;have E:=CJ (H:=[]) h;rw[show i % 4=(i - 4) % 4 by omega,<-E];simp only[VO,List.flatten_cons];rw[VN (by show 4<=i;omega)]
   rfl
theorem rJ:∀(n:Nat) {hs bs:LN},hs.length=8->(∀w∈hs,gF w)->(blocks n hs bs).length=8/\∀w∈blocks n hs bs,gF w
 | 0,hs,bs,h,hw=>⟨h,hw⟩
 | n+1,hs,bs,h,hw=>rJ n (lT h) (zW hs _)
theorem BP{L:LN}{i x:Nat}(E:L[i]? = some x)(n:Nat)(O:L.length=n):((L.take i++List.replicate (n - i) 0).map u8).set i (u8 x)=(L.take (i+1)++List.replicate (n - (i+1)) 0).map u8:=by
 have hi:i < L.length:=(Us.1 E).1;have G:=(Us.1 E).2;rw[show n - i=(n - (i+1))+1 by omega,List.replicate_succ];have hl:((L.take i).map u8).length=i:=by simp;omega
 rw[VY,Wb _ _ (by omega),hl,Vu,VG,E];simp[VY]
theorem To{i:Nat}(hi:i < 32):eP .i64 (i:Int) 4=((i / 4:Nat):Int):=by
 unfold eP;rw[Wo (Ui _)];have:=cF (a:=((i / 4:Nat):Int)) (b:=0) (by omega) (by omega);unfold aG at this;rw[show((i:Int) / 4)=((i / 4:Nat):Int) by omega];simpa using this
theorem UZ{i:Nat}(hi:i < 32):cC .u64 (bB .i64 24 (cY .i64 8 (iO (i:Int) 4)))=((24 - 8 * (i % 4):Nat):Int):=by
 have e1:iO (i:Int) 4=((i % 4:Nat):Int):=by unfold iO;rw[Int.tmod_eq_emod_of_nonneg (Ui _)];omega
 have e2:cY .i64 8 ((i % 4:Nat):Int)=((8 * (i % 4):Nat):Int):=by
  unfold cY;have:=cF (a:=((8 * (i % 4):Nat):Int)) (b:=0) (by omega) (by omega);unfold aG at this;rw[show(8 * ((i % 4:Nat):Int))=((8 * (i % 4):Nat):Int) by omega];simpa using this
 have E:bB .i64 24 ((8 * (i % 4):Nat):Int)=((24 - 8 * (i % 4):Nat):Int):=AL (a:=24) (by omega) (by omega);rw[e1,e2,E];unfold cC;rw[wrap_u64,Up (by omega)]
theorem fS{h h':Hp}(k:Kept h h'):Stay h h':=by
 refine⟨fun b cs t g hb hl=>?_,fun b o E G=>k.oth b o E G id⟩
 cases g with
 | none=>exact⟨k.ro _ _ _ hb,rfl⟩
 | some g =>
  obtain⟨E,G⟩:=k.rw _ _ _ _ hb id;refine⟨E,?_⟩;simpa[Hp.live,G]using hl
theorem sum_len(bs:LN):(sum bs).length=32:=by
 have hl:=(rJ ((pad bs).length / 64) (bs:=pad bs) (hs:=H0) rfl Ic).1;unfold sum;generalize blocks ((pad bs).length / 64) H0 (pad bs)=cur at hl
 match cur,hl with
 | [a,b,c,d,e,f,g,x],_=>rfl
theorem Jt:∀(l:LV),(∀v∈l,plainV 99 v=true)->plainV 100 (.agg l.toArray)=true:=by
 intro l h;show l.toArray.toList.all (plainV 99)=true;simpa using h
def sumV(s:BA):Value:=.agg ((sum (bytes8 s)).map u8).toArray
theorem xY(s:BA):plainV 100 (sumV s)=true:=by
 refine Jt _ fun v E=>?_;simp only[Uu]at E;obtain⟨x,_,rfl⟩:=E
 rfl
theorem Rc:∀k:Fin 31,iD .u64 (cC .u64 (-((k.val+1:Nat):Int))) 31=((31 - k.val:Nat):Int):=by decide +kernel
theorem Ab{x k:Nat}(E:gF x)(h0:0 < k)(G:k < 32)(h:Hp):C 180 [.int .u32 x,.int .i64 (-(k:Int))] h fun v h'=>v = .int .u32 (rot k x:Nat)/\h'=h:=by
 refine pk.sv RF fun wf=>?_;have e1:iD .u64 (cC .u64 (-(k:Int))) 31=((32 - k:Nat):Int):=by
  have:=Rc ⟨k - 1,by omega⟩;simp only at this;rw[show k - 1+1=k by omega,show 31 - (k - 1)=32 - k by omega]at this;exact this
 have e2:bB .u64 32 ((32 - k:Nat):Int)=(k:Int):=by
  unfold bB;rw[show(32 - ((32 - k:Nat):Int))=(k:Int) by omega,wrap_u64,Up (by omega)]
 rw[e1,e2,pT _ _ (by omega),shrW_nat _ _ _ (show k<=32 by omega),tK (.mod _) (E.shr k),Nat.or_comm];exact⟨Ui _,Ui _,rfl,rfl⟩
theorem add_assoc(a b c:Nat):add (add a b) c=add a (add b c):=by unfold add;omega
theorem add_comm(a b:Nat):add a b=add b a:=by unfold add;omega
theorem UD(h:Hp):C 181 [] h fun v h'=>v = .agg (K.map u32).toArray/\Kept h h':=by
 refine pk.sv RE fun wf=>?_;intro h1 e1;obtain⟨b1,G,n1,E⟩:=aB wf e1;obtain⟨O,U,V,W,y4,y5,y6⟩:=bP E b1 G wf (Uf _) (vs:=K.map u32) rfl rfl;exact⟨rfl,O,U,(fun i=>((Sha.K.getD i 0:Nat):Int)),⟨rfl,(V.cells (Vo rfl)).trans rfl⟩,rfl,W⟩
theorem Kp(r:LN):add (add (add (r.getD 15 0) (r.getD 6 0)) (s0 (r.getD 14 0))) (s1 (r.getD 1 0))=Ae r:=by
 unfold Ae;congr 1;rw[add_assoc,add_comm (r.getD 6 0),<-add_assoc]
theorem MB(s:St)(k w:Nat):(⟨add (add (add (add (add s.h k) w) (S1 s.e)) (ch s.e s.f s.g)) (add (S0 s.a) (Ts s.a s.b s.c)),s.a,s.b,s.c,add s.d (add (add (add (add s.h k) w) (S1 s.e)) (ch s.e s.f s.g)),s.e,s.f,s.g⟩:St)=round s k w:=by
 have e:add (add (add (add s.h k) w) (S1 s.e)) (ch s.e s.f s.g)=t1 s k w:=by
  unfold t1;unfold add
  omega
 rw[e];unfold round;congr 1;rw[add_assoc]
theorem UE(h:Hp):C 175 [] h fun v h'=>v = .agg (H0.map u32).toArray/\Kept h h':=by
 refine pk.sv RJ fun wf=>?_;intro h1 e1;obtain⟨b1,G,n1,E⟩:=aB wf e1;obtain⟨O,U,V,W,y4,y5,y6⟩:=bP E b1 G wf (Uf _) (vs:=H0.map u32) rfl rfl;exact⟨rfl,O,U,_,_,_,_,_,_,_,_,⟨rfl,(V.cells (Vo rfl)).trans rfl⟩,rfl,W⟩
theorem AR{f:Nat->Value}{h:Hp}{b:Nat}{g:ON}{L:LN}(hb:Blk h b g (L.map f)){i x:Nat}(E:L[i]? = some x){l:Nat}(hl:L.length=l):
  (aN (some (Addr.mk b 0 none))=true/\bS (i:Int) l)/\(aN (some (Addr.mk b (aA 0 (i:Int) 1) none))=true/\h.cellsAt b (aA 0 (i:Int) 1) 1=some [f x]):=by
 have hi:i < l:=by rw[<-hl];exact(Us.1 E).1
 have hp:aA 0 (i:Int) 1=i:=by simp[aA]
 refine⟨⟨rfl,Ui _,Int.ofNat_lt.2 hi⟩,rfl,?_⟩;rw[hp];exact hb.one (by rw[VB,E];rfl)
theorem Tg{f:Nat->Value}{h:Hp}{b g:Nat}{L:LN}(hb:Blk h b (some g) (L.map f)){i:Nat}(hi:i < L.length){x:Nat}(E:isCell (f x)=true):
  ∃h',h.store b (aA 0 (i:Int) 1) [f x]=some h'/\Blk h' b (some g) ((L.set i x).map f)/\Keep (· = g) h h'/\h'.next=h.next/\(Wf h->Wf h'):=by
 have hp:aA 0 (i:Int) 1=i:=by simp[aA]
 rw[hp,List.map_set];exact hb.set (by simpa using hi) E
def dI(hs:LN)(a:OA)(l c n:Nat):LV:=.bool true::(hs.map u32++[.slice a l c,.int .i64 (n:Int)])
theorem TT{h:Hp}{b:Nat}{g:ON}{CS:LV}(hb:Blk h b g (.bool true::CS)):C 176 [.pointer (some ⟨b,0,none⟩)] h fun v h'=>v = .bool false/\h'=h:=by
 refine pk.sv RI fun wf=>?_;refine⟨fun _=>rfl,fun _=>rfl,true,fun _=>⟨rfl,hb.one rfl⟩,rfl,rfl⟩
theorem UJ(h:Hp):C 165 [] h fun v h'=>∃b,v = .pointer (some ⟨b,0,none⟩)/\h.next<=b/\Blk h' b (some b) (dI H0 none 0 0 0)/\Kept h h':=by
 refine pk.sv RO fun wf=>?_;refine(UE h).wf fun v G E O ⟨e,U⟩=>?_;refine⟨_,_,_,_,_,_,_,_,e.trans rfl,?_⟩;intro h2 e2;obtain⟨b1,V,n1,W⟩:=aB E e2;exact⟨G.next,rfl,O,b1,U.trans wf V fF⟩
theorem CN{A Z:LN}{x y:Nat}:(A++x::Z).set A.length y=A++y::Z:=by
 rw[Wb _ _ (Uf _),Vu]
 rfl
theorem PG{A Z:LN}{x:Nat}:(A++x::Z)[A.length]? = some x:=by
 rw[VN (Uf _),Vu]
 rfl
theorem xN{n i:Nat}(h:i < n):List.replicate (n - i) 0=0::List.replicate (n - (i+1)) 0:=by
 rw[show n - i=(n - (i+1))+1 by omega,List.replicate_succ]
theorem Ig{bs:LN}{i w:Nat}(hw:(words bs)[i]? = some w)(hl:(words bs).length=16):(((words bs).take i++List.replicate (64 - i) 0).set i w)=(words bs).take (i+1)++List.replicate (64 - (i+1)) 0:=by
 have hi:i < 16:=by rw[<-hl];exact(Us.1 hw).1
 have E:((words bs).take i).length=i:=by rw[Uq];omega
 rw[xN (by omega)];have:=CN (A:=(words bs).take i) (Z:=List.replicate (64 - (i+1)) 0) (x:=0) (y:=w);rw[E]at this;rw[this,VG,hw];simp
end Go.Proofs.YtmapagggnigfpaaGreat.sb
