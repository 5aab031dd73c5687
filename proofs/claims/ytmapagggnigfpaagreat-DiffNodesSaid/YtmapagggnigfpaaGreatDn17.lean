/- Joined: RefE, RefF, RefG, PlnA, RefH, RefI. -/
import Derived.Test.YtmapagggnigfpaaGreatDn16
set_option linter.unusedVariables false
set_option linter.unusedSectionVars false
namespace Go.Cn.Pk
theorem Nv(x:Nat):[Value.int .u8 (cC .u8 (gL .i64 (x:Int) 24)),Value.int .u8 (cC .u8 (gL .i64 (x:Int) 16)),Value.int .u8 (cC .u8 (gL .i64 (x:Int) 8)),Value.int .u8 (cC .u8 (x:Int))]=bc (be 4 x):=by
 rw[show(24:Int)=((24:Nat):Int) from rfl,show(16:Int)=((16:Nat):Int) from rfl,show(8:Int)=((8:Nat):Int) from rfl,Sha.shrW_nat .i64 x 24 (by decide),Sha.shrW_nat .i64 x 16 (by decide),Sha.shrW_nat .i64 x 8 (by decide),eF,eF,eF,eF,byteOf,byteOf,byteOf,byteOf]
 rfl
theorem Mv(D:LU)(e:Int):plainV 100 (.tuple #[.agg (bc D).toArray,.int .i64 e])=true:=by
 have h:(bc D).all (plainV 98)=true:=by
  rw[eU,List.all_map,VK];intro x _
  rfl
 show(!(2==1)&&([Value.agg (bc D).toArray,.int .i64 e].all (plainV 99)))=true;simp only[List.all_cons,List.all_nil,Bool.and_true];show(!(2==1)&&((bc D).toArray.toList.all (plainV 98)&&true))=true;rw[h]
 rfl
theorem Nw(L:LU)(i:Nat)(u:UInt8):(bc L).set i (.int .u8 (u.toNat:Int))=bc (L.set i u):=by
 rw[eU,eU,List.map_set]
end Go.Cn.Pk
namespace Go.Proofs.YtmapagggnigfpaaGreat.pk
open Cn Cn.Pk vc
theorem Sr(w:Int)(h:Hp):C 102 [.int .i64 w] h fun v h'=>v = .bool (decide (fW w))/\h'=h:=by
 refine sv LC fun wf=>?_;refine⟨?_,rfl⟩;congr 1;rw[Va,bN,cK,eV,decide_eq_true_eq];unfold fW
 omega
theorem Ri{h:Hp}(s:BA)(a0:1<=s.size)(a7:s.size<=64){a:OA}{l c:Nat}{gr:ON}{T:List BA}(sl:SlT strc 1 h gr a l c T)(hg:∀x,gr=some x->x < h.next)(hT:∀u∈T,u.size<=1000000)(hl:l<=1000):
  C 103 [.string s,.slice a l c] h fun r h'=>r = .tuple #[.string (str (gH s T)),.int .i64 0]/\Kept h h':=by
 refine sv Iv fun wf=>?_;have hz:aE (aU s)=((s.size:Nat):Int):=rfl;rw[if_neg (by
  rw[cG,aC,aS,hz]
  omega)]
 intro h1 e1;have ev:cC .u8 (aE (aU s))=((UInt8.ofNat s.size).toNat:Int):=by rw[hz,eF,Go.Cn.Pk.byteOf]
 rw[ev]at e1;obtain⟨b1,k1,n1,ai⟩:=aB wf e1;have o1:Ow h1 1 (some h.next) (some ⟨h.next,0,none⟩) 1 1 (bc [UInt8.ofNat s.size]):=.inr ⟨h.next,none,h.next,_,rfl,rfl,.inl rfl,Uf _,by omega,b1,rfl,rfl⟩;have a8:s.data.toList.length=s.size:=VE;obtain⟨a2,c2,g2,h2,e2,o2,aj,k2,ak⟩:=Ow.append ai FF o1 (x:=.string s) (n:=s.size) (new:=bc s.data.toList) (by simp only[dC,if_true];rw[lS]) (by rw[aJ];omega) (aZ _) (bM (by omega));have ad:∀x,g2=some x->h.next<=x:=by
  intro x V;rcases aj with G | ⟨y,O,G⟩
  ·rw[V]at G;injection G with G;omega
  ·rw[V]at O;injection O with O;omega
 have al:Kept h h2:=k1.trans wf (S:=fun _=>False) k2 fun g hg E=>by injection E with E;omega
 have hM:bc [UInt8.ofNat s.size]++bc s.data.toList=bc (oC s):=by rw[<-fM];rfl
 rw[hM]at o2;have a9:=sl.len;have hb:∀L:List BA,(∀u∈L,u.size<=1000000)->(L.flatMap jF).length<=L.length * 1000004:=by
  intro L
  induction L with
  | nil=>intro _;simp
  | cons u L ih =>
   intro hu;have h1:=ih fun v hv=>hu v (WL _ hv);have h2:=hu u (Wr ..);rw[Vg,Ug,Ux,Nat.succ_mul];have:(jF u).length=4+u.size:=by unfold jF;rw[Ug,cO,VE];rfl
   omega
 have an:(oC s).length=1+s.size:=by unfold oC;rw[Ux];omega
 refine⟨a2,1+s.size,c2,h2,e2,fun vals m hh=>∃(i:Nat) (a3:OA) (l3 c3:Nat) (g3:ON),[.slice a3 l3 c3,.int .i64 (i:Int)]=vals/\m=l - i/\i<=l/\Ow hh 1 g3 a3 l3 c3 (bc (oC s++(T.take i).flatMap jF))/\l3=(oC s++(T.take i).flatMap jF).length/\(∀x,g3=some x->h.next<=x)/\Kept h hh/\Wf hh,⟨l,0,a2,1+s.size,c2,g2,rfl,rfl,Uk _,by simpa using o2,by simp[an],ad,al,ak⟩,?_⟩;rintro a3 l3 c3 n3 m hh ⟨i,a4,l4,c4,g4,e,hm,hi,o,U,aa,k,ao⟩;simp only[Ur,Value.slice.injEq,Value.int.injEq,true_and,and_true]at e;obtain⟨⟨rfl,rfl,rfl⟩,rfl⟩:=e;by_cases E:bO (i:Int) (aE l)=true
 ·rw[if_pos E];have ae:i < l:=by rw[aC,aF]at E;omega
  obtain⟨u,eb⟩:∃q,T[i]? = some q:=⟨_,Uh (by omega)⟩;have hu:=hT u (Uy eb);have af:=sl.keep k fF;obtain⟨ha,ac⟩:=af.get dV eb (j:=0) (m:=1) (by omega);have ag:aA (off a) (i:Int) 1=off a+i * 1+0:=by unfold aA;rw[Uo];omega
  refine⟨⟨ha,Ui _,by omega⟩,u,⟨rfl,by rw[ag];exact ac⟩,by simp[bR],by simp[bR],by simp[bR],?_⟩;intro h3 e3;have ap:aE (aU u)=((u.size:Nat):Int):=rfl;rw[ap,Nv u.size]at e3;obtain⟨b3,k3,n3,aq⟩:=aB ao e3;have ar:=hb (T.take i) fun v hv=>hT v (WM hv);rw[Uq,Vc (by omega)]at ar;have ba:i * 1000004<=1000 * 1000004:=WB (by omega) (Uf _);have bb:l4<=2000000000:=by rw[U,Ug];omega
  have au:u.data.toList.length=u.size:=VE;obtain⟨a5,c5,g5,h5,e5,o5,av,k5,ax⟩:=Ow.append aq Cu (o.keep k3 fF) (x:=.slice (some ⟨hh.next,0,none⟩) 4 4) (n:=4) (new:=bc (be 4 u.size)) (by simp only[dC];rw[if_neg (by omega),b3.cells (by rw[aJ,cO];omega),VC,Uj (by rw[aJ,cO];omega)];rfl) (by rw[aJ,cO]) (aZ _) (bM (by omega));obtain⟨a6,c6,g6,h6,e6,o6,ay,k6,az⟩:=Ow.append ax FF o5 (x:=.string u) (n:=u.size) (new:=bc u.data.toList) (by simp only[dC,if_true];rw[lS]) (by rw[aJ];omega) (aZ _) (bM (by omega));have hn:=k.next;have W:∀x,g5=some x->h.next<=x:=by
   intro x V;rcases av with G | ⟨y,O,G⟩
   ·exact aa x (by rw[<-G];exact V)
   ·rw[V]at O;injection O with O;omega
  have bf:=k5.next;have ah:∀x,g6=some x->h.next<=x:=by
   intro x V;rcases ay with G | ⟨y,O,G⟩
   ·exact W x (by rw[<-G];exact V)
   ·rw[V]at O;injection O with O;omega
  have heq:=oD jF eb;refine⟨a5,l4+4,c5,h5,e5,⟨ha,Ui _,by omega⟩,u,⟨rfl,by rw[ag];exact((af.keep k3 fF).keep k5 (fun x V E=>by have:=hg x V;have:=aa _ E;omega)).get dV eb (j:=0) (m:=1) (by omega) |>.2⟩,a6,l4+4+u.size,c6,h6,e6,l - (i+1),by simp only[aI];omega,i+1,a6,l4+4+u.size,c6,g6,?_,rfl,by omega,?_,?_,ah,?_,az⟩
  ·rw[show aG .i64 (i:Int) 1=_ from cN 1 i (by omega)]
  ·rw[heq,<-Ut];unfold jF at o6 ⊢;rw[<-Ut,fM,fM];exact o6
  ·rw[heq,<-Ut,Ug,<-U];unfold jF;rw[Ug,cO,au]
   omega
  ·exact((k.trans wf k3 fF).trans wf (S:=fun _=>False) k5 fun g hg E=>by have:=aa _ E;omega).trans wf k6 fun g hg E=>by have:=W _ E;omega
 ·rw[if_neg E];have ae:i=l:=by
   by_cases G:i=l
   ·exact G
   ·exact absurd (aC.2 (by rw[aF];omega)) E
  subst ae;rw[Uj (by omega)]at o U;exact⟨_,Hu o U.symm (by rw[U,Ug];omega),rfl,k⟩
theorem Tz(w:Nat)(hw:fW (w:Int))(d:LU)(hd:d.length=32)(h:Hp):
  C 122 [.int .i64 (w:Int),.agg (bc d).toArray] h fun v h'=>v = .tuple #[.agg (bc (dX w d)).toArray,.int .i64 0]/\Kept h h':=by
 rw[<-aH hd];refine sv LD fun wf=>?_;intro h1 e1 h2 e2;rw[aH hd]at e1;rw[dU]at e2;obtain⟨b1,k1,n1,aa⟩:=aB wf e1;obtain⟨b2,k2,n2,ac⟩:=aB aa e2;refine(Sr (w:Int) h2).mono fun v h3 ⟨e,e3⟩=>⟨_,e,?_⟩;subst e3;have ad:=k1.trans wf k2 fF;have G:w<=32:=by unfold fW at hw;omega
 have E:=iK hd G;rw[if_neg (by simp[aD,hw])];refine⟨fun vals m V=>∃(i:Nat) (L:LU),[.int .i64 (i:Int)]=vals/\m=32 - i/\w<=i/\i<=32/\L.length=32/\(∀j,j < 32->L[j]? = if w<=j/\j < i then some 0 else d[j]?)/\Blk V h.next (some h.next) (bc L)/\Blk V h1.next (some h1.next) (bc bH)/\Kept h V/\Wf V,⟨32 - w,w,d,rfl,rfl,Uf _,G,hd,fun j hj=>by rw[if_neg (by omega)],Kept.blk k2 b1,b2,ad,ac⟩,?_⟩;rintro n m V ⟨i,L,e,rfl,aj,hi,hL,hj,bL,bz,k,ae⟩;simp only[Ur,Value.int.injEq,true_and,and_true]at e;subst e;by_cases O:bO (i:Int) 32=true
 ·rw[if_pos O];have W:i < 32:=by rw[aC]at O;omega
  have af:aA 0 (i:Int) 1=i:=by unfold aA;rw[Uo];omega
  obtain⟨h4,e4,b4,k4,n4,w4⟩:=bL.set (o:=i) (v:=.int .u8 ((0:UInt8).toNat:Int)) (by rw[aJ];omega) rfl;rw[Nw]at b4;refine⟨⟨rfl,Ui _,by omega⟩,rfl,h4,by rw[af];exact e4,32 - (i+1),by simp only[aI];omega,i+1,L.set i 0,?_,rfl,by omega,by omega,by rw[List.length_set];exact hL,?_,b4,k4.blk bz fun x hx O=>by simp at hx;omega,k.trans wf k4 fun g hg O=>by omega,w4 ae⟩
  ·rw[show aG .i64 (i:Int) 1=_ from cN 1 i (by omega)]
  ·intro j U;by_cases ag:j=i
   ·subst ag;rw[List.getElem?_set_self (by omega),if_pos (by omega)]
   ·rw[Wq (by omega),hj j U];by_cases hq:w<=j/\j < i
    ·rw[if_pos hq,if_pos (by omega)]
    ·rw[if_neg hq,if_neg (by omega)]
 ·rw[if_neg O];have W:i=32:=by
   by_cases hq:i=32
   ·exact hq
   ·exact absurd (aC.2 (by omega)) O
  subst W;have ah:L=dX w d:=by
   apply Vi;intro j;by_cases U:j < 32
   ·rw[hj j U];unfold dX;by_cases ai:j < w
    ·rw[if_neg (by omega),VQ (by rw[Uq];omega),VZ,if_pos ai]
    ·rw[if_pos (by omega),VN (by rw[Uq];omega),Wm,if_pos (by rw[Uq];omega)]
   ·rw[VI (by omega),VI (by omega)]
  subst ah;obtain⟨h6,e6,b6,k6,n6,ak⟩:=bz.store (o:=0) (vs:=bc (dX w d)) (by rw[aJ,aJ,E];simp[bH]) (aZ _);have es:splice (bc bH) 0 (bc (dX w d))=bc (dX w d):=by simp[splice,aJ,E,bH]
  rw[es]at b6;refine⟨cV (dX w d),⟨rfl,cH bL E⟩,rfl,h6,by rw[aH E];exact e6,cV (dX w d),⟨rfl,cH b6 E⟩,?_,?_⟩
  ·rw[aH E]
  ·exact k.trans wf k6 fun g hg O=>by omega
theorem So(L:LU)(h:Hp)(hs:L.length<=1073741824):C 123 [.string (str L)] h fun v h'=>v = .agg (bc (Mw L)).toArray/\h'=h :=
 (Go.Proofs.YtmapagggnigfpaaGreat.sb.c242 (str L) h (by rw[eQ];exact hs)).mono fun v h' ⟨e,e2⟩=>⟨by rw[e,Hi],e2⟩
theorem Uc(w:Int)(hw:fW w)(L:LU)(h:Hp)(hs:L.length<=1073741824):
  C 104 [.int .i64 w,.string (str L)] h fun v h'=>v = .tuple #[.agg (bc (xB w L)).toArray,.int .i64 0]/\Kept h h':=by
 refine sv OL fun wf=>?_;intro O e1;rw[dU]at e1;obtain⟨b1,U,n1,V⟩:=aB wf e1;refine(So L O hs).mono fun v W ⟨e,e2⟩=>⟨cV (Mw L),by rw[aH (iC L)];exact e,?_⟩;subst e2;rw[aH (iC L)];obtain⟨wn,rfl⟩:∃wn:Nat,w=(wn:Int):=⟨w.toNat,by unfold fW at hw;omega⟩;have hl:(xB (wn:Int) L).length=32:=iK (iC L) (by unfold fW at hw;omega);refine(Tz wn hw (Mw L) (iC L) W).wf fun v h3 E aa ⟨e,G⟩=>?_;have b3:=Kept.blk G b1;obtain⟨h4,e4,b4,k4,_,n4,ac⟩:=bP E (vs:=bc (xB (wn:Int) L)) b3 (U.trans wf G fF) wf (Uf _) (by rw[aJ,aJ,hl];rfl) (aZ _);refine⟨cV (xB (wn:Int) L),0,by rw[aH hl];exact e,rfl,h4,by rw[aH hl];exact e4,cV (xB (wn:Int) L),⟨rfl,cH b4 hl⟩,?_,k4⟩;rw[aH hl]
theorem Mz{h:Hp}(w:Int)(hw:fW w)(s:BA)(G:1<=s.size)(O:s.size<=64){a:OA}{l c:Nat}{gr:ON}{T:List BA}(sl:SlT strc 1 h gr a l c T)(hg:∀x,gr=some x->x < h.next)(hT:∀u∈T,u.size<=1000000)(hl:l<=1000)(ht:(gH s T).length<=1073741824):
  C 78 [.int .i64 w,.string s,.slice a l c] h fun v h'=>v = .tuple #[.agg (bc (xB w (gH s T))).toArray,.int .i64 0]/\Kept h h':=by
 refine sv DM fun wf=>?_;intro h1 e1;rw[dU]at e1;obtain⟨b1,k1,n1,U⟩:=aB wf e1;refine(Sr w h1).mono fun v aa ⟨e,V⟩=>⟨_,e,?_⟩;subst V;rw[if_neg (by simp[aD,hw])];refine(Ri s G O (sl.keep k1 fF) (fun x hx=>by have:=hg x hx;omega) hT hl).wf fun v h2 ac ad ⟨e,k2⟩=>⟨_,_,e,?_⟩;rw[if_neg (by simp[cP])];have hl:(xB w (gH s T)).length=32:=iK (iC _) (by unfold fW at hw;omega);refine(Uc w hw (gH s T) h2 ht).wf fun v h3 W ae ⟨e,k3⟩=>?_;have E:=k2.trans U k3 fF;have b3:=Kept.blk E b1;obtain⟨h4,e4,b4,k4,_,n4,af⟩:=bP W (vs:=bc (xB w (gH s T))) b3 (k1.trans wf E fF) wf (Uf _) (by rw[aJ,aJ,hl];rfl) (aZ _);refine⟨cV (xB w (gH s T)),0,by rw[aH hl];exact e,rfl,h4,by rw[aH hl];exact e4,cV (xB w (gH s T)),⟨rfl,cH b4 hl⟩,?_,k4⟩;rw[aH hl]
theorem Ei{h:Hp}{n:Nat}{nv:Value}{N:NodeT}(x:NodeAt h n nv N)(p w:Int)(ac:N.ps.length<=1099511500000)(ad:N.K.length<=1099511500000)(ae:N.ks.length<=1099511500000):
  C 50 [fr p w,nv] h fun r h'=>(∃(e:Int) (D:LU),r = .tuple #[.agg (bc D).toArray,.int .i64 e]/\MayIs p w N e/\(e=0->D=sumN w N)/\(e≠0->D=bH))/\h'=h:=by
 refine SCalls.trim (K:=fun r h'=>(∃(e:Int) (D:LU),r = .tuple #[.agg (bc D).toArray,.int .i64 e]/\MayIs p w N e/\(e=0->D=sumN w N)/\(e≠0->D=bH))/\Kept h h') (of_decide_eq_true (by kernel_rfl)) ?_ fun v h' ⟨⟨e,D,e1,e2⟩,k⟩=>⟨fS k,by rw[e1];exact Mv D e,e,D,e1,e2⟩;have x0:=x;obtain⟨a1,l1,c1,a2,l2,c2,a3,l3,c3,rfl,q1,q2,q3⟩:=x;refine sv LB fun wf=>?_;intro h1 e1 h2 e2 h3 e3;rw[dU]at e3;obtain⟨b1,k1,n1,af⟩:=aB wf e1;obtain⟨b2,k2,n2,ag⟩:=aB af e2;obtain⟨b3,k3,n3,G⟩:=aB ag e3;have aa:Kept h h3:=(k1.trans wf k2 fF).trans wf k3 fF;have U:=Kept.blk k3 (Kept.blk k2 b1);have ah:=Kept.blk k3 b2;have rp:h3.cellsAt h.next 0 2=some [.int .i64 p,.int .i64 w]:=by rw[U.cells (by simp)];rfl
 have rs:h3.cellsAt h1.next 0 3=some [.slice a1 l1 c1,.slice a2 l2 c2,.slice a3 l3 c3]:=by rw[ah.cells (by simp)];rfl
 have ai:N.K.length=l2:=by obtain⟨_,_,q⟩:=q2;exact q.len
 have aj:N.ks.length=l3:=by obtain⟨_,_,q⟩:=q3;exact q.len
 have x3:=x0.keep aa fF;refine⟨p,w,⟨rfl,rp⟩,a1,l1,c1,a2,l2,c2,a3,l3,c3,⟨rfl,rs⟩,?_⟩;refine(NC x3 p w ac ad ae).mono fun v h4 ⟨⟨e,s,e4,hc,ak,au⟩,e5⟩=>⟨s,e,e4,?_⟩;subst e5;have fin:∀(h5:Hp) (D:LU),Wf h5->D.length=32->Kept h4 h5->∃O,h5.store h2.next 0 (bc D)=some O/\Blk O h2.next (some h2.next) (bc D)/\Kept h O:=by
  intro h5 D al V k5;have b5:=Kept.blk k5 b3;have an:=aa.trans wf k5 fF;have hn:h.next<=h2.next:=by omega
  obtain⟨O,e6,b6,k6,_,n6,ao⟩:=bP al (vs:=bc D) b5 an wf hn (by rw[aJ,aJ,V];rfl) (aZ _);exact⟨O,e6,b6,k6⟩
 by_cases he:cP e 0=true
 ·rw[if_pos he];rw[bA]at he;obtain⟨O,e6,b6,k6⟩:=fin h4 bH G rfl (Keep.refl _ _);refine⟨rfl,O,by rw[dU];exact e6,cV bH,⟨rfl,cH b6 rfl⟩,⟨e,bH,?_,hc,fun h=>absurd h he,fun _=>rfl⟩,k6⟩;rw[aH bI]
 ·rw[if_neg he];have W:e=0:=by rw[bA]at he;omega
  obtain⟨hF,hG,hS⟩:Fr p w/\cS p w N/\(gK w N:Int)<=p - 32:=by
   rcases hc with ⟨_,h⟩ | ⟨_,_,_,h⟩ | ⟨h1,h2,h3,_⟩
   ·exact absurd W h
   ·omega
   ·exact⟨h1,h2,h3⟩
  obtain⟨f1,f2,f3,f4⟩:=qF hF;have hw:fW w:=⟨f3,f4⟩;have hk:=kB hG;have hle:(cJ false w N).length<=8192:=by
   obtain⟨wn,rfl⟩:∃wn:Nat,w=(wn:Int):=⟨w.toNat,by omega⟩;have:=mX (p:=p) (w:=wn) (N:=N) (by omega) false (hk.imp id fun h=>by omega) hk
   omega
  have es:=ak W;subst es;have ap:h4.cellsAt h.next 1 1=some [.int .i64 w]:=U.one rfl;refine⟨rfl,w,⟨rfl,ap⟩,a1,l1,c1,a2,l2,c2,a3,l3,c3,⟨rfl,rs⟩,?_⟩;intro O e6;obtain⟨b6,k6,n6,ao⟩:=aB G e6;refine(Ty a1 a2 a3 l1 c1 l2 c2 l3 c3 ai aj O).mono fun v h7 ⟨e,e7⟩=>?_;subst e7;refine⟨_,e,⟨rfl,(Kept.blk k6 U).one rfl⟩,?_⟩;have hT:∀u∈[str (cJ false w N)],u.size<=1000000:=by intro u hu;simp at hu;subst hu;rw[eQ];omega
  have aq:∀s:BA,s.size<=64->(gH s [str (cJ false w N)]).length<=1073741824:=by
   intro s hs;unfold gH oC jF;have:s.data.toList.length=s.size:=VE;simp[cO,eQ,jC]
   omega
  have V:(sumN w N).length=32:=iK (iC _) (by omega);have E:1<=(AK N).size/\(AK N).size<=64:=by unfold AK;split <;> decide
  refine(Mz w hw (AK N) E.1 E.2 (Gd G e6) (fun x hx=>by injection hx with hx;omega) hT (by omega) (aq _ E.2)).wf fun v h8 ar av ⟨e8,k8⟩=>?_
  have hd:xB w (gH (AK N) [str (cJ false w N)])=sumN w N:=rfl;rw[hd]at e8;obtain⟨h9,e9,b9,k9⟩:=fin h8 (sumN w N) ar V (k6.trans G k8 fF);exact⟨cV (sumN w N),0,by rw[aH V];exact e8,rfl,h9,by rw[aH V];exact e9,cV (sumN w N),⟨rfl,cH b9 V⟩,⟨0,sumN w N,by rw[aH V],by rw[<-W];exact hc,fun _=>rfl,fun h=>absurd rfl h⟩,k9⟩
end Go.Proofs.YtmapagggnigfpaaGreat.pk
set_option linter.unusedSimpArgs false
namespace Go.Cn.Pk
def Ql(h:Hp)(b:Nat)(s:BA)(p:Nat)(f:Int):Prop:=Blk h b (some b) [.string s,.int .i64 (p:Int),.int .i64 f]
def DS(h:Hp)(b:Nat)(s:BA):Option LU->Prop
 | none=>∃(p:Nat) (f:Int),p<=s.size/\f≠0/\Ql h b s p f
 | some L=>∃p:Nat,p<=s.size/\L=s.data.toList.drop p/\Ql h b s p 0
theorem DS.glt{h:Hp}(wf:Wf h){b:Nat}{s:BA}{x:Option LU}(r:DS h b s x):b < h.next:=by
 cases x with
 | none=>obtain⟨p,f,_,_,r⟩:=r;exact Blk.glt wf r
 | some L=>obtain⟨p,_,_,r⟩:=r;exact Blk.glt wf r
theorem DS.keep{S:NP}{h h':Hp}{b:Nat}{s:BA}{x:Option LU}(r:DS h b s x)(k:Keep S h h')(hb:¬S b):DS h' b s x:=by
 have O:∀x,some b=some x->¬S x:=by intro x U;simp at U;subst U;exact hb
 cases x with
 | none=>obtain⟨p,f,E,G,r⟩:=r;exact⟨p,f,E,G,k.blk r O⟩
 | some L=>obtain⟨p,E,G,r⟩:=r;exact⟨p,E,G,k.blk r O⟩
theorem DS.at{h:Hp}{b:Nat}{s:BA}{x:Option LU}(r:DS h b s x):∃(p:Nat) (f:Int),p<=s.size/\Ql h b s p f/\(cP f 0=x.isNone)/\(∀L,x=some L->L=s.data.toList.drop p/\f=0):=by
 cases x with
 | none=>obtain⟨p,f,E,G,r⟩:=r;exact⟨p,f,E,r,by rw[Va,bA];simpa using G,by simp⟩
 | some L=>obtain⟨p,E,G,r⟩:=r;exact⟨p,0,E,r,rfl,fun O e=>by injection e with e;subst e;exact⟨G,rfl⟩⟩
theorem DS.rest{h:Hp}{b:Nat}{s:BA}{L:LU}(r:DS h b s (some L)):L.length<=s.size:=by
 obtain⟨p,hp,rfl,_⟩:=r;rw[Go.Cn.Pk.rest_len hp];omega
def countP(m:Nat)(L:LU):Option (Nat×LU):=(dK m L).bind fun(n,r)=>if r.length < n then none else some (n,r)
end Go.Cn.Pk
namespace Go.Proofs.YtmapagggnigfpaaGreat.pk
open Cn Cn.Pk vc
theorem II{b:Nat}{s:BA}{p:Nat}{f:Int}{h:Hp}(r:Ql h b s p f)(hp:p<=s.size)(hs:s.size<=1099511627776):C 186 [pt b] h fun v h'=>v = .int .i64 ((s.size - p:Nat):Int)/\h'=h:=by
 refine sv JA fun wf=>?_;refine⟨rfl,rfl,s,⟨rfl,Blk.one r rfl⟩,rfl,rfl,(p:Int),⟨rfl,Blk.one r rfl⟩,?_,rfl⟩;rw[show aE (aU s)=((s.size:Nat):Int) from rfl,bY (by omega) (by omega)];congr 1
 omega
theorem Ej{b:Nat}{s:BA}{p:Nat}{f:Int}{h:Hp}(r:Ql h b s p f)(code:Int)(E:code≠0)(q:Nat)(G:q<=s.size):C 187 [pt b,.int .i64 code,.int .i64 (q:Int)] h fun v h'=>v = .tuple #[]/\DS h' b s none/\Keep (· = b) h h':=by
 refine sv JC fun wf=>?_;obtain⟨O,e1,b1,U,_,w1⟩:=Blk.set r (o:=2) (v:=.int .i64 code) (by simp) rfl;obtain⟨V,e2,b2,W,_,w2⟩:=b1.set (o:=1) (v:=.int .i64 (q:Int)) (by simp) rfl;exact⟨rfl,rfl,rfl,O,e1,rfl,rfl,rfl,V,e2,rfl,⟨q,code,G,E,b2⟩,U.trans wf W fun _ _ hg=>hg⟩
theorem NI(n:Nat)(E:n<=1099511627776)(h:Hp):C 189 [.int .i64 (n:Int)] h fun v h'=>v = .int .u64 (n:Int)/\h'=h:=by
 refine sv Fk fun wf=>?_;rw[if_neg (by rw[aC];omega),cQ,Up (by omega)];exact⟨rfl,rfl⟩
theorem TY(a b:Nat)(h:a+b < 18446744073709551616):aG .u64 (a:Int) (b:Int)=((a+b:Nat):Int):=by
 unfold aG;rw[<-Int.natCast_add,Go.Cn.Sha.wrap_u64,Up h]
theorem Ra(a b:Nat):cY .u64 (a:Int) (b:Int)=((a * b % 18446744073709551616:Nat):Int):=by
 unfold cY;rw[<-Int.natCast_mul,Go.Cn.Sha.wrap_u64]
set_option maxRecDepth 100000 in
theorem NA{b:Nat}{s:BA}{x:Option LU}{h:Hp}(r:DS h b s x)(hs:s.size<=1099511627776)(E:Nat):
  C 188 [pt b,.int .u64 (E:Int)] h fun v h'=>v = .int .u64 ((got (x.bind (dK E)) 0:Nat):Int)/\DS h' b s (left (x.bind (dK E)))/\Keep (· = b) h h':=by
 refine sv Fh fun wf=>?_
 cases x with
 | none =>
  have r0:=r;obtain⟨p,f,hp,hf,r⟩:=r;refine⟨rfl,rfl,f,⟨rfl,Blk.one r rfl⟩,?_⟩;rw[if_pos (by rw[bA];exact hf)];exact⟨rfl,r0,Keep.refl _ _⟩
 | some L =>
  obtain⟨p,hp,rfl,r⟩:=r;have hL:=rest_len hp;refine⟨rfl,rfl,(0:Int),⟨rfl,Blk.one r rfl⟩,?_⟩;rw[if_neg (by simp[cP])];refine⟨rfl,rfl,(p:Int),⟨rfl,Blk.one r rfl⟩,?_⟩;refine⟨fun vals m hh=>∃(k n:Nat),[.int .u64 0,.int .u64 (n:Int),.int .u64 ((2 ^ (7 * k):Nat):Int),.int .i64 (k:Int)]=vals/\m=s.size - (p+k)/\p+k<=s.size/\k<=9/\n < 2 ^ (7 * k)/\eT (s.data.toList.drop p) 0 0=eT (s.data.toList.drop (p+k)) k n/\Ql hh b s (p+k) 0/\Keep (· = b) h hh/\Wf hh,⟨_,0,0,rfl,rfl,by omega,by omega,by decide,rfl,r,Keep.refl _ _,wf⟩,?_⟩;rintro n1 n2 n3 n4 m hh ⟨k,n,e,rfl,hk,ak,hn,U,r,kk,ag⟩;simp only[Ur,Value.int.injEq,true_and,and_true]at e;obtain⟨rfl,rfl,rfl,rfl⟩:=e;have fail:∀(hx:Hp) (q:Nat),Ql hx b s q 0->Keep (· = b) h hx->∀(code:Int),code≠0->dK E (s.data.toList.drop p)=none->C 187 [Value.pointer (some (Addr.mk b 0 none)),Value.int IntKind.i64 code,Value.int IntKind.i64 (p:Int)] hx fun(v:Value) (h':Hp)=>v=Value.tuple (Array.mk [])/\
     ((Value.int IntKind.u64 0 = .int .u64 ((got ((some (s.data.toList.drop p)).bind (dK E)) 0:Nat):Int))/\DS h' b s (left ((some (s.data.toList.drop p)).bind (dK E)))/\Keep (· = b) h h'):=by
   intro hx q rx kx code hc hf;refine(Ej rx code hc p hp).mono fun v h' ⟨e,r',k'⟩=>?_;simp only[Ul,hf];exact⟨e,rfl,r',kx.trans wf k' fun _ _ U=>U⟩
  refine⟨rfl,rfl,_,⟨rfl,Blk.one r rfl⟩,rfl,rfl,s,⟨rfl,Blk.one r rfl⟩,?_⟩;by_cases h1:bX ((p+k:Nat):Int) (aE (aU s))=true
  ·rw[if_pos h1];have:p+k=s.size:=by rw[aV,aF]at h1;unfold aU at h1;omega
   refine fail hh _ r kk 10 (by decide) ?_;unfold dK;rw[U,VV (by rw[VE];show s.size<=_;omega)]
   rfl
  ·rw[if_neg h1];have ah:p+k < s.size:=by
    have:¬(p+k=s.size):=fun hc=>h1 (by rw[aV,aF];unfold aU;omega)
    omega
   obtain⟨u,hu,hb⟩:=jW (s:=s) (i:=p+k) ah;have al:=u.toNat_lt;have G:s.data.toList.drop (p+k)=u::s.data.toList.drop (p+(k+1)):=by
    obtain⟨hl,rfl⟩:=Us.1 hu;rw[WI hl];rfl
   refine⟨rfl,rfl,s,⟨rfl,Blk.one r rfl⟩,rfl,rfl,_,⟨rfl,Blk.one r rfl⟩,by unfold bS aU;omega,?_⟩;have ai:cC .u64 (fK s ((p+k:Nat):Int))=(u.toNat:Int):=by rw[hb,cQ,Up (by omega)]
   rw[ai];by_cases h2:aR (bX (k:Int) 9) (dB (u.toNat:Int) 1) false=true
   ·rw[if_pos h2];refine fail hh _ r kk 11 (by decide) ?_;rw[bN,aV,aS]at h2;unfold dK;rw[U,G];unfold eT;rw[if_pos (.inl (by omega))]
   ·rw[if_neg h2];rw[bN,aV,aS]at h2;have hm:u.toNat % 128 < 128:=Nat.mod_lt _ (by omega);have hx:u.toNat % 128 * 2 ^ (7 * k) < 18446744073709551616:=by
     by_cases aa:k=9
     ·subst aa;have:u.toNat % 128<=1:=by omega
      exact WO (VU _ this) (by decide)
     ·have:(2:Nat) ^ (7 * k)<=2 ^ 56:=Nat.pow_le_pow_right (by omega) (by omega);exact WO (WB (Nat.le_of_lt_succ (Nat.lt_succ_of_lt hm)) this) (by decide)
    have aj:n+u.toNat % 128 * 2 ^ (7 * k) < 18446744073709551616:=by
     by_cases aa:k=9
     ·subst aa;have O:u.toNat % 128<=1:=by omega
      have:=VU (2 ^ (7 * 9)) O;have e:(2:Nat) ^ (7 * 9)=9223372036854775808:=by decide
      omega
     ·have O:(2:Nat) ^ (7 * k)<=2 ^ 56:=Nat.pow_le_pow_right (by omega) (by omega);have an:=WB (Nat.le_of_lt_succ (Nat.lt_succ_of_lt hm)) O;have e:(2:Nat) ^ 56=72057594037927936:=by decide
      omega
    have ad:aG .u64 (n:Int) (cY .u64 (iO (u.toNat:Int) 128) ((2 ^ (7 * k):Nat):Int))=((n+u.toNat % 128 * 2 ^ (7 * k):Nat):Int):=by
     rw[MD,Ra,Up hx,TY _ _ aj]
    rw[ad];have ea:aG .i64 ((p+k:Nat):Int) 1=((p+(k+1):Nat):Int):=by rw[cF (by omega) (by omega)];omega
    obtain⟨h3,e3,b3,k3,_,w3⟩:=Blk.set r (o:=1) (v:=.int .i64 ((p+(k+1):Nat):Int)) (by simp) rfl;have r3:Ql h3 b s (p+(k+1)) 0:=b3;have V:Keep (· = b) h h3:=kk.trans wf k3 fun _ _ U=>U;refine⟨rfl,rfl,_,⟨rfl,Blk.one r rfl⟩,rfl,rfl,rfl,h3,by rw[ea];exact e3,by simp[bW],?_⟩;by_cases W:bO (u.toNat:Int) 128=true
    ·rw[if_pos W];have ac:u.toNat < 128:=by rw[aC]at W;omega
     by_cases h4:aR (bX (u.toNat:Int) 0) (dB (k:Int) 0) false=true
     ·rw[if_pos h4];rw[bN,aV,aS]at h4;refine fail h3 _ r3 V 11 (by decide) ?_;unfold dK;rw[U,G];unfold eT;rw[if_pos (.inr (by omega))]
     ·rw[if_neg h4];rw[bN,aV,aS]at h4;have ae:eT (s.data.toList.drop p) 0 0=some (n+u.toNat % 128 * 2 ^ (7 * k),s.data.toList.drop (p+(k+1))):=by
       rw[U,G];unfold eT;rw[if_neg (by omega),if_pos ac]
      by_cases h5:dB ((n+u.toNat % 128 * 2 ^ (7 * k):Nat):Int) (E:Int)=true
      ·rw[if_pos h5];refine fail h3 _ r3 V 12 (by decide) ?_;unfold dK;rw[ae];simp only;rw[if_pos (by rw[aS]at h5;omega)]
      ·rw[if_neg h5];have hf:dK E (s.data.toList.drop p)=some (n+u.toNat % 128 * 2 ^ (7 * k),s.data.toList.drop (p+(k+1))):=by
        unfold dK;rw[ae];simp only;rw[if_neg (fun hc=>h5 (by rw[aS];omega))]
       refine⟨by simp only[Ul,hf],?_,V⟩;simp only[Ul,hf];exact⟨p+(k+1),by omega,rfl,r3⟩
    ·rw[if_neg W];have ac:¬u.toNat < 128:=fun hc=>W (by rw[aC];omega);have ao:k≠9:=by rintro rfl;omega
     have e7:(2:Nat) ^ (7 * (k+1))=128 * 2 ^ (7 * k):=by
      rw[show 7 * (k+1)=7+7 * k by omega,Nat.pow_add]
     refine⟨s.size - (p+(k+1)),by simp only[aI];omega,k+1,n+u.toNat % 128 * 2 ^ (7 * k),?_,rfl,by omega,by omega,?_,?_,r3,V,w3 ag⟩
     ·have O:(2:Nat) ^ (7 * (k+1))<=2 ^ 63:=Nat.pow_le_pow_right (by omega) (by omega);have af:(2:Nat) ^ (7 * (k+1)) < 18446744073709551616:=WO O (by decide);rw[show(128:Int)=((128:Nat):Int) from rfl,Ra,WN (2 ^ (7 * k)) 128,<-e7,Up af,show aG .i64 (k:Int) 1=_ from cN 1 k (by omega)]
     ·rw[e7];have:u.toNat % 128 * 2 ^ (7 * k)<=127 * 2 ^ (7 * k):=VU _ (by omega)
      omega
     ·rw[U,G]
      conv=>lhs;unfold eT
      rw[if_neg (by omega),if_neg ac]
theorem QQ{b:Nat}{s:BA}{x:Option LU}{h:Hp}(r:DS h b s x)(hs:s.size<=1099511627776)(n:Nat)(hn:n<=7):
  C 182 [pt b,.int .i64 (n:Int)] h fun v h'=>v = .int .u64 ((got (x.bind (bV n)) 0:Nat):Int)/\DS h' b s (left (x.bind (bV n)))/\Keep (· = b) h h':=by
 refine sv Iy fun wf=>?_
 cases x with
 | none =>
  have r0:=r;obtain⟨p,f,hp,hf,r⟩:=r;refine⟨rfl,rfl,f,⟨rfl,Blk.one r rfl⟩,?_⟩;rw[if_pos (by rw[bA];exact hf)];exact⟨rfl,r0,Keep.refl _ _⟩
 | some L =>
  obtain⟨p,hp,rfl,r⟩:=r;have hL:=rest_len hp;refine⟨rfl,rfl,(0:Int),⟨rfl,Blk.one r rfl⟩,?_⟩;rw[if_neg (by simp[cP])];refine(II r hp hs).mono fun v h1 ⟨e,e1⟩=>⟨_,e,?_⟩;subst e1;simp only[Ul,bV,qX hp];by_cases E:bO ((s.size - p:Nat):Int) (n:Int)=true
  ·rw[if_pos E];rw[aC]at E;rw[if_pos (by omega)];refine⟨rfl,rfl,(p:Int),⟨rfl,Blk.one r rfl⟩,(Ej r 10 (by decide) p hp).mono fun v h2 ⟨e,r2,k2⟩=>⟨e,rfl,r2,k2⟩⟩
  ·rw[if_neg E];rw[aC]at E;rw[if_neg (by omega)];refine⟨fun vals m hh=>∃i:Nat,[.int .u64 ((num ((s.data.toList.drop p).take i):Nat):Int),.int .i64 (i:Int)]=vals/\m=n - i/\i<=n/\hh=h1,⟨n,0,rfl,rfl,Uk _,rfl⟩,?_⟩;rintro n3 n4 m hh ⟨i,e,rfl,hi,rfl⟩;simp only[Ur,Value.int.injEq,true_and,and_true]at e;obtain⟨rfl,rfl⟩:=e;by_cases O:bO (i:Int) (n:Int)=true
   ·rw[if_pos O];have G:i < n:=by rw[aC]at O;omega
    obtain⟨u,hu,hb⟩:=jW (s:=s) (i:=p+i) (by omega);have aa:=u.toNat_lt;have U:aG .i64 (p:Int) (i:Int)=((p+i:Nat):Int):=addNat _ _ (by omega);refine⟨rfl,rfl,s,⟨rfl,Blk.one r rfl⟩,rfl,rfl,(p:Int),⟨rfl,Blk.one r rfl⟩,by rw[U];unfold bS aU;omega,n - (i+1),by simp only[aI];omega,i+1,?_,rfl,by omega,rfl⟩;have V:=sJ ((s.data.toList.drop p).take i);rw[Uq,hL]at V;have ac:(256:Nat) ^ min i (s.size - p)<=256 ^ 6:=Nat.pow_le_pow_right (by omega) (by omega);have e6:(256:Nat) ^ 6=281474976710656:=by decide
    have W:(s.data.toList.drop p).take (i+1)=(s.data.toList.drop p).take i++[u]:=by
     rw[VG,Vp,hu];rfl
    rw[U,hb,cQ,Up (by omega),show(256:Int)=((256:Nat):Int) from rfl,Ra,Up (by omega),TY _ _ (by omega),W,sK,show aG .i64 (i:Int) 1=_ from cN 1 i (by omega)]
   ·rw[if_neg O];have G:i=n:=by
     by_cases hq:i=n
     ·exact hq
     ·exact absurd (aC.2 (by omega)) O
    subst G;have U:aG .i64 (p:Int) (i:Int)=((p+i:Nat):Int):=addNat _ _ (by omega);obtain⟨h3,e3,b3,k3,_,w3⟩:=Blk.set r (o:=1) (v:=.int .i64 ((p+i:Nat):Int)) (by simp) rfl;exact⟨rfl,rfl,(p:Int),⟨rfl,Blk.one r rfl⟩,rfl,rfl,rfl,h3,by rw[U];exact e3,rfl,⟨p+i,by omega,rfl,b3⟩,k3⟩
theorem Sp{b:Nat}{s:BA}{x:Option LU}{h:Hp}(r:DS h b s x)(hs:s.size<=1099511627776)(n:Nat)(hn:n<=1099511627776):
  C 190 [pt b,.int .i64 (n:Int)] h fun v h'=>v = .string (str (got (x.bind (fP n)) []))/\DS h' b s (left (x.bind (fP n)))/\Keep (· = b) h h':=by
 refine sv LF fun wf=>?_
 cases x with
 | none =>
  have r0:=r;obtain⟨p,f,hp,O,r⟩:=r;refine⟨rfl,rfl,f,⟨rfl,Blk.one r rfl⟩,?_⟩;rw[if_pos (by rw[cG,bA];exact .inl O)];exact⟨rfl,r0,Keep.refl _ _⟩
 | some L =>
  obtain⟨p,hp,rfl,r⟩:=r;have hL:=rest_len hp;refine⟨rfl,rfl,(0:Int),⟨rfl,Blk.one r rfl⟩,?_⟩;simp only[Ul,qX hp];by_cases h0:n=0
  ·subst h0;rw[if_pos (by rfl),if_neg (by omega)];exact⟨rfl,⟨p,hp,rfl,r⟩,Keep.refl _ _⟩
  ·rw[if_neg (by rw[cG,bA,eV];omega)];refine(II r hp hs).mono fun v h1 ⟨e,e1⟩=>⟨_,e,?_⟩;subst e1;by_cases E:bO ((s.size - p:Nat):Int) (n:Int)=true
   ·rw[if_pos E];rw[aC]at E;rw[if_pos (by omega)];refine⟨rfl,rfl,(p:Int),⟨rfl,Blk.one r rfl⟩,(Ej r 10 (by decide) p hp).mono fun v h2 ⟨e,U,V⟩=>⟨e,rfl,U,V⟩⟩
   ·rw[if_neg E];rw[aC]at E;rw[if_neg (by omega)];have G:aG .i64 (p:Int) (n:Int)=((p+n:Nat):Int):=addNat _ _ (by omega);obtain⟨W,e3,b3,k3,_,w3⟩:=Blk.set r (o:=1) (v:=.int .i64 ((p+n:Nat):Int)) (by simp) rfl;refine⟨rfl,rfl,s,⟨rfl,Blk.one r rfl⟩,rfl,rfl,(p:Int),⟨rfl,Blk.one r rfl⟩,rfl,rfl,(p:Int),⟨rfl,Blk.one r rfl⟩,?_,rfl,rfl,(p:Int),⟨rfl,Blk.one r rfl⟩,rfl,rfl,rfl,W,by rw[G];exact e3,?_,⟨p+n,by omega,rfl,b3⟩,k3⟩
    ·rw[G];unfold yA;have:aU s=s.size:=rfl;omega
    ·rw[G,yB,show p+n - p=n by omega]
theorem Gs{b:Nat}{s:BA}{x:Option LU}{h:Hp}(r:DS h b s x)(hs:s.size<=1099511627776)(m:Nat)(hm:m<=1099511627776):
  C 184 [pt b,.int .i64 (m:Int)] h fun v h'=>v = .string (str (got (x.bind (cX m)) []))/\DS h' b s (left (x.bind (cX m)))/\Keep (· = b) h h':=by
 refine sv Fg fun wf=>?_;obtain⟨p,f,hp,r0,ad,hx⟩:=r.at;refine⟨rfl,rfl,(p:Int),⟨rfl,Blk.one r0 rfl⟩,?_⟩;refine(NI m hm h).mono fun v h1 ⟨e,e1⟩=>⟨_,e,?_⟩;subst e1;refine(NA r hs m).wf fun v h2 ae af ⟨e,E,W⟩=>⟨_,e,?_⟩;obtain⟨p2,f2,U,O,aa,V⟩:=E.at;refine⟨rfl,rfl,f2,⟨rfl,Blk.one O rfl⟩,?_⟩;rw[aa]
 cases G:x.bind (dK m) with
 | none =>
  rw[G]at E;rw[if_pos (show(left (none:Option (Nat×LU))).isNone=true from rfl)];have:x.bind (cX m)=none:=by
   cases x with
   | none=>rfl
   | some L=>simp only[Ul]at G ⊢;unfold cX;rw[G];rfl
  rw[this];exact⟨rfl,E,W⟩
 | some y =>
  obtain⟨n,R⟩:=y;rw[G]at E V;obtain⟨L,rfl⟩:∃L,x=some L:=by cases x with
   | none=>simp at G
   | some L=>exact⟨L,rfl⟩
  simp only[Ul]at G;have ag:=freeP_le G;rw[if_neg (by simp)];have E:DS h2 b s (some R):=E;obtain⟨eR,e0⟩:=V R rfl;have ah:=DS.rest E;simp only[got];refine(II O U hs).mono fun v h3 ⟨e,e3⟩=>⟨_,e,?_⟩;subst e3;have ac:R.length=s.size - p2:=by rw[eR,rest_len U]
  rw[<-ac];have et:cC .u64 (R.length:Int)=(R.length:Int):=by rw[cQ,Up (by omega)]
  rw[et];have ht:cX m L=fP n R:=by unfold cX;rw[G];rfl
  simp only[Ul];rw[ht];by_cases hc:dB (n:Int) (R.length:Int)=true
  ·rw[if_pos hc];refine(Ej O 10 (by decide) p hp).mono fun v h4 ⟨e,r4,k4⟩=>?_;have:fP n R=none:=by unfold fP;rw[if_pos (by rw[aS]at hc;omega)]
   rw[this];exact⟨e,rfl,r4,W.trans wf k4 fun _ _ hg=>hg⟩
  ·rw[if_neg hc];rw[show cC .i64 (n:Int)=(n:Int) from sY (by omega) (by omega)];refine(Sp (x:=some R) E hs n (by omega)).mono fun v h4 ⟨e,r4,k4⟩=>?_;exact⟨_,e,rfl,r4,W.trans wf k4 fun _ _ hg=>hg⟩
theorem Rn{b:Nat}{s:BA}{x:Option LU}{h:Hp}(r:DS h b s x)(hs:s.size<=1099511627776)(m:Nat)(hm:m<=1099511627776):
  C 183 [pt b,.int .i64 (m:Int)] h fun v h'=>v = .int .i64 ((got (x.bind (countP m)) 0:Nat):Int)/\DS h' b s (left (x.bind (countP m)))/\Keep (· = b) h h':=by
 refine sv Fj fun wf=>?_;obtain⟨p,f,hp,r0,ad,hx⟩:=r.at;refine⟨rfl,rfl,(p:Int),⟨rfl,Blk.one r0 rfl⟩,?_⟩;refine(NI m hm h).mono fun v h1 ⟨e,e1⟩=>⟨_,e,?_⟩;subst e1;refine(NA r hs m).wf fun v h2 ae af ⟨e,E,k2⟩=>⟨_,e,?_⟩;obtain⟨p2,f2,U,O,aa,V⟩:=E.at;refine⟨rfl,rfl,f2,⟨rfl,Blk.one O rfl⟩,?_⟩;rw[aa]
 cases G:x.bind (dK m) with
 | none =>
  rw[G]at E;rw[if_pos (show(left (none:Option (Nat×LU))).isNone=true from rfl)];have:x.bind (countP m)=none:=by
   cases x with
   | none=>rfl
   | some L=>simp only[Ul]at G ⊢;unfold countP;rw[G];rfl
  rw[this];exact⟨rfl,E,k2⟩
 | some y =>
  obtain⟨n,R⟩:=y;rw[G]at E V;obtain⟨L,rfl⟩:∃L,x=some L:=by cases x with
   | none=>simp at G
   | some L=>exact⟨L,rfl⟩
  simp only[Ul]at G;have ag:=freeP_le G;rw[if_neg (by simp)];have E:DS h2 b s (some R):=E;obtain⟨eR,e0⟩:=V R rfl;have ah:=DS.rest E;simp only[got];refine(II O U hs).mono fun v h3 ⟨e,e3⟩=>⟨_,e,?_⟩;subst e3;have ac:R.length=s.size - p2:=by rw[eR,rest_len U]
  rw[<-ac];have et:cC .u64 (R.length:Int)=(R.length:Int):=by rw[cQ,Up (by omega)]
  rw[et];have ht:countP m L=if R.length < n then none else some (n,R):=by unfold countP;rw[G];rfl
  simp only[Ul];rw[ht];by_cases W:dB (n:Int) (R.length:Int)=true
  ·rw[if_pos W];refine(Ej O 12 (by decide) p hp).mono fun v h4 ⟨e,r4,k4⟩=>?_;rw[if_pos (by rw[aS]at W;omega)];exact⟨e,rfl,r4,k2.trans wf k4 fun _ _ hg=>hg⟩
  ·rw[if_neg W,if_neg (by rw[aS]at W;omega)];rw[show cC .i64 (n:Int)=(n:Int) from sY (by omega) (by omega)];exact⟨rfl,E,k2⟩
theorem NB{b:Nat}{s:BA}{x:Option LU}{h:Hp}(r:DS h b s x)(hs:s.size<=1099511627776)(w:Nat)(hw:w<=32):
  C 185 [pt b,.int .i64 (w:Int)] h fun v h'=>v = .agg (bc (got (x.bind (dR w)) bH)).toArray/\DS h' b s (left (x.bind (dR w)))/\Keep (· = b) h h':=by
 refine sv Iz fun wf=>?_;have an:=r.glt wf;intro h1 e1;rw[dU]at e1;obtain⟨b1,k1,n1,ao⟩:=aB wf e1;refine(Mx (w:Int) h1).mono fun v h2 ⟨e,e2⟩=>⟨_,e,?_⟩;subst e2;rw[CW hw];refine(Sp (r.keep k1 fun O=>O) hs w (by omega)).wf fun v h3 ac ap ⟨e,r3,k3⟩=>⟨_,e,?_⟩;intro h4 e4;rw[dU]at e4;obtain⟨b4,k4,n4,ad⟩:=aB ac e4;have ag:Keep (· = b) h h4:=((k1.mono wf (S':=(· = b)) fun _ _ O=>O.elim).trans wf k3 fun _ _ U=>U).trans wf (k4.mono ac (S':=(· = b)) fun _ _ O=>O.elim) fun _ _ U=>U;have ah:Blk h4 h.next (some h.next) (bc bH):=Kept.blk k4 (k3.blk b1 fun y hy G=>by simp at hy;omega);have r4:DS h4 b s (left (x.bind (fP w))):=r3.keep k4 fun O=>O;generalize hT:got (x.bind (fP w)) []=T at *;have aq:T.length<=w:=by
  subst hT
  cases V:x.bind (fP w) with
  | none=>simp[got]
  | some y =>
   obtain⟨a,q⟩:=y
   cases x with
   | none=>simp at V
   | some L=>simp only[Ul]at V;have:=rawP_len V;simp only[got];omega
 have ae:got (x.bind (dR w)) bH=iG T:=by
  subst hT
  cases x with
  | none=>rfl
  | some L =>
   simp only[Ul];unfold dR
   cases V:fP w L with
   | none=>rfl
   | some y=>rfl
 have W:left (x.bind (dR w))=left (x.bind (fP w)):=by
  cases x with
  | none=>rfl
  | some L =>
   simp only[Ul];unfold dR
   cases V:fP w L with
   | none=>rfl
   | some y=>rfl
 rw[ae,W];have E:(iG T).length=32:=by unfold iG;rw[Ug,WQ];omega
 refine⟨fun vals m hh=>∃i:Nat,[.int .i64 (i:Int)]=vals/\m=T.length - i/\i<=T.length/\Blk hh h3.next (some h3.next) (bc (iG (T.take i)))/\Keep (· = h3.next) h4 hh/\Wf hh,⟨T.length,0,rfl,rfl,Uk _,b4,Keep.refl _ _,ad⟩,?_⟩;rintro n m hh ⟨i,e,rfl,hi,bT,k,ai⟩;simp only[Ur,Value.int.injEq,true_and,and_true]at e;subst e;rw[show aE (aU (str T))=((T.length:Nat):Int) from rfl];by_cases G:bO (i:Int) (T.length:Int)=true
 ·rw[if_pos G];have aa:i < T.length:=by rw[aC]at G;omega
  obtain⟨u,hu,hb⟩:=jW (s:=str T) (i:=i) aa;rw[jC]at hu;have af:aA 0 (i:Int) 1=i:=by unfold aA;rw[Uo];omega
  obtain⟨h5,e5,b5,k5,n5,w5⟩:=bT.set (o:=i) (v:=.int .u8 (u.toNat:Int)) (by rw[aJ];unfold iG;rw[Ug,WQ,Uq];omega) rfl;rw[Nw]at b5;refine⟨⟨Ui _,by show(i:Int) < ((str T).size:Int);rw[eQ];omega⟩,⟨rfl,Ui _,by omega⟩,rfl,h5,by rw[af,hb];exact e5,T.length - (i+1),by simp only[aI];omega,i+1,?_,rfl,by omega,?_,k.trans ad k5 fun _ _ U=>U,w5 ai⟩
  ·rw[show aG .i64 (i:Int) 1=_ from cN 1 i (by omega)]
  ·have:(iG (T.take i)).set i u=iG (T.take (i+1)):=by
    unfold iG;rw[VG,hu,Uq,Ug,Uq,Vc (by omega)];rw[Wb _ _ (by rw[Uq];omega),Uq,Vc (by omega),Vu,show 32 - i=(32 - (i+1))+1 by omega,List.replicate_succ,List.set_cons_zero];simp
   rw[<-this];exact b5
 ·rw[if_neg G];have aa:i=T.length:=by
   by_cases V:i=T.length
   ·exact V
   ·exact absurd (aC.2 (by omega)) G
  subst aa;rw[Uj (Uf _)]at bT;have aj:=k.blk ah fun y hy G=>by simp at hy;omega
  have ak:Keep (· = b) h hh:=ag.trans wf (S:=(· = b)) k fun g U G=>by omega
  obtain⟨h6,e6,b6,k6,_,ar⟩:=aj.store (o:=0) (vs:=bc (iG T)) (by rw[aJ,aJ,E];simp[bH]) (aZ _);have es:splice (bc bH) 0 (bc (iG T))=bc (iG T):=aO (by rw[aJ,aJ,E];rfl);rw[es]at b6;have al:DS h6 b s (left (x.bind (fP w))):=(r4.keep k (by omega)).keep k6 (by omega);refine⟨cV (iG T),⟨rfl,cH bT E⟩,rfl,h6,by rw[aH E];exact e6,cV (iG T),⟨rfl,cH b6 E⟩,by rw[aH E],al,ak.trans wf k6 fun g U G=>by omega⟩
end Go.Proofs.YtmapagggnigfpaaGreat.pk
namespace Go.Cn.Pk
def lI(N:NodeT)(i:Nat):NodeT:=⟨N.ps.take i,N.K.take (i - 1),N.ks.take i⟩
def manyN(N:NodeT):Nat:=if N.leaf=true then N.ps.length else N.ks.length
def fB(w:Int)(N:NodeT)(i:Nat):LU:=if N.leaf=true then(N.ps.drop i).flatMap dT else((N.ks.zipIdx.drop i).map fun x=>kS true w N.K x.1 x.2).flatten
theorem KK(w:Int)(N:NodeT):cJ true w N=be 1 (if N.leaf=true then 1 else 2)++(cU (manyN N)++fB w N 0):=by
 unfold cJ manyN fB;by_cases E:N.leaf=true
 ·rw[if_pos E,if_pos E,if_pos E,if_pos E];rfl
 ·rw[if_neg E,if_neg E,if_neg E,if_neg E];rfl
theorem EO{N:NodeT}(h:N.leaf=true):N.K=[]/\N.ks=[]:=by
 unfold NodeT.leaf at h;simpa[Uw,List.isEmpty_iff]using h
theorem Jr{w:Int}{N:NodeT}(E:N.leaf=true){i:Nat}{q:PairT}(G:N.ps[i]? = some q):fB w N i=dT q++fB w N (i+1):=by
 unfold fB;rw[if_pos E,if_pos E];obtain⟨hi,O⟩:=Us.1 G;rw[WI hi,O]
 rfl
theorem MC{w:Int}{N:NodeT}(G:N.leaf≠true){i:Nat}{k:KidT}(O:N.ks[i]? = some k):fB w N i=kS true w N.K k i++fB w N (i+1):=by
 unfold fB;rw[if_neg G,if_neg G];obtain⟨hi,U⟩:=Us.1 O;have E:i < N.ks.zipIdx.length:=by rw[List.length_zipIdx];exact hi
 rw[WI E,List.getElem_zipIdx,U];simp
theorem NK{N:NodeT}(E:N.leaf=true){i:Nat}{q:PairT}(G:N.ps[i]? = some q):lI N (i+1)=⟨(lI N i).ps++[q],(lI N i).K,(lI N i).ks⟩:=by
 obtain⟨e1,e2⟩:=EO E;unfold lI;rw[e1,e2,VG,G];simp
theorem Pc{N:NodeT}(hp:N.ps.length=0){i:Nat}{k:KidT}(G:N.ks[i]? = some k)(O:N.K.length+1=N.ks.length):lI N (i+1)=⟨(lI N i).ps,(lI N i).K++(if 0 < i then [N.K.getD (i - 1) .empty] else []),(lI N i).ks++[k]⟩:=by
 have E:N.ps=[]:=VS hp;obtain⟨hi,_⟩:=Us.1 G;unfold lI;rw[E,VG (l:=N.ks),G];simp only[List.take_nil,Nat.add_sub_cancel,Option.toList_some,NodeT.mk.injEq,and_true,true_and];by_cases h0:0 < i
 ·obtain⟨j,rfl⟩:∃j,i=j+1:=⟨i - 1,by omega⟩;rw[if_pos h0,Nat.add_sub_cancel,VG,Uz,Uh (by omega)]
  rfl
 ·have:i=0:=by omega
  subst this;rw[if_neg h0];simp
theorem Pd(N:NodeT)(h:N.leaf=true\/N.ps.length=0/\N.K.length+1=N.ks.length):lI N (manyN N)=N:=by
 unfold lI manyN;by_cases E:N.leaf=true
 ·obtain⟨e1,e2⟩:=EO E;rw[if_pos E]
  cases N
  simp only at e1 e2;subst e1;subst e2;simp
 ·rcases h with h | ⟨G,O⟩
  ·exact absurd h E
  ·rw[if_neg E,Uj (by omega),Uj (by omega),Uj (Uf _)]
theorem Mh(w:Int)(K:List BA)(k:KidT)(i:Nat):1<=(kS true w K k i).length:=by
 unfold kS;simp only[if_true,Ug,cO]
 omega
theorem PH(w:Int)(N:NodeT):manyN N<=(fB w N 0).length:=by
 unfold manyN fB;by_cases E:N.leaf=true
 ·rw[if_pos E,if_pos E,VC];exact xI dT N.ps fun x _=>by
   unfold dT;have:=Go.Proofs.YtmapagggnigfpaaGreat.pk.textB_len x.1;have:=BK x.1.size;rw[Ug]
   omega
 ·rw[if_neg E,if_neg E,VC];have:=xI (fun x:KidT×Nat=>kS true w N.K x.1 x.2) N.ks.zipIdx fun x _=>Mh _ _ _ _;rw[List.length_zipIdx,List.flatMap_def]at this;exact this
theorem mS{p w:Int}{s:BA}{N:NodeT}(h:cR p w s N):Fr p w/\cS p w N/\cJ true w N=s.data.toList/\(N.leaf=true\/N.ps.length=0/\N.K.length+1=N.ks.length):=by
 obtain⟨O,U⟩:=h;obtain⟨V,E⟩:=O.may.good;refine⟨V,E,U,?_⟩;unfold cS at E;by_cases G:N.leaf=true
 ·exact .inl G
 ·rw[if_neg G]at E;exact .inr ⟨E.1,E.2.2.1⟩
theorem KF{w:Int}{N:NodeT}(G:N.leaf=true){i:Nat}(hi:i < manyN N){m:Nat}(hm:(fB w N i).length<=m)(E:m < 18446744073709551616):
  ∃(q:PairT) (U:LU),cX m (fB w N i)=some (q.1.data.toList,U)/\cX m U=some (q.2.data.toList,fB w N (i+1))/\lI N (i+1)=⟨(lI N i).ps++[q],(lI N i).K,(lI N i).ks⟩:=by
 unfold manyN at hi;rw[if_pos G]at hi;have O:N.ps[i]? = some (N.ps[i]'hi):=Uh _;generalize N.ps[i]'hi=q at O;have e:=Jr (w:=w) G O;rw[e]at hm ⊢;unfold dT at hm ⊢;rw[Ut]at hm ⊢;simp only[Ug,Go.Proofs.YtmapagggnigfpaaGreat.pk.textB_len]at hm;exact⟨q,_,nQ q.1 (by omega) E _,nQ q.2 (by omega) E _,NK G O⟩
theorem ET{p w:Int}{N:NodeT}(hF:Fr p w)(O:cS p w N)(U:N.leaf≠true){i:Nat}(hi:i < manyN N){m:Nat}(hm:(fB w N i).length<=m)(V:m < 18446744073709551616):
  ∃(k:KidT) (sp:List BA) (W L2:LU),(0 < i->∃t:BA,sp=[t]/\cX m (fB w N i)=some (t.data.toList,W))/\(i=0->sp=[]/\W=fB w N i)/\
   bV 4 W=some (k.page,L2)/\dR w.toNat L2=some (k.sum,fB w N (i+1))/\lI N (i+1)=⟨(lI N i).ps,(lI N i).K++sp,(lI N i).ks++[k]⟩:=by
 unfold manyN at hi;rw[if_neg U]at hi;have G:N.ks[i]? = some (N.ks[i]'hi):=Uh _;generalize N.ks[i]'hi=k at G;have E:=Uy G;unfold cS at O;rw[if_neg U]at O;obtain⟨hp,_,hK,hc,_⟩:=O;have aa:dX w.toNat k.sum=k.sum:=Classical.byContradiction fun hn=>hc ⟨k,E,fun h=>hn h.2⟩;obtain⟨e1,e2,e3,e4,e5⟩:=hF.nat;have e:=MC (w:=w) U G;rw[e]at hm ⊢;have ac:Go.Proofs.YtmapagggnigfpaaGreat.pk.inW w=w.toNat:=by rw[e2];exact CW e5
 have t4:∀R,bV 4 (be 4 k.page++(k.sum.take w.toNat++R))=some (k.page,k.sum.take w.toNat++R):=fun R=>DZ k.hp _;have d4:dR w.toNat (k.sum.take w.toNat++fB w N (i+1))=some (k.sum,fB w N (i+1)):=IG k.hs e5 aa _;unfold kS at hm ⊢;rw[ac]at hm ⊢;simp only[if_true,Ut]at hm ⊢;refine⟨k,if 0 < i then [N.K.getD (i - 1) .empty] else [],be 4 k.page++(k.sum.take w.toNat++fB w N (i+1)),_,?_,?_,t4 _,d4,Pc hp G hK⟩
 ·intro h0;rw[if_pos h0]at hm;rw[if_pos h0,if_pos h0];simp only[Ug,Go.Proofs.YtmapagggnigfpaaGreat.pk.textB_len]at hm;exact⟨_,rfl,nQ _ (by omega) V _⟩
 ·intro h0;rw[if_neg (by omega),if_neg (by omega)];exact⟨rfl,rfl⟩
end Go.Cn.Pk
namespace Go.Proofs.YtmapagggnigfpaaGreat.pk
open Cn Cn.Pk vc
def Tb(br bf bn:Nat)(i:Int)(I:LV->Nat->Hp->Prop)(m:Nat)(hA:Hp):Prop :=
 ∀(h':Hp),h'=hA.alloc ([Value.int .u32 (Int.ofNat 0)]++bc bH) 131->
 C 182 [Value.pointer (some (Addr.mk br 0 none)),Value.int IntKind.i64 4] h' fun(v:Value) (h'_9:Hp) =>
 ∃(n:Int),v=Value.int IntKind.u64 n/\
 aN (some (Addr.mk hA.next 0 none))=true/\aN (some (Addr.mk hA.next 0 none))=true/\
 ∃(h'_10:Hp),h'_9.store hA.next 0 [Value.int IntKind.u32 (cC IntKind.u32 n)]=some h'_10/\
 aN (some (Addr.mk bf 0 none))=true/\
 ∃(n:Int),(aN (some (Addr.mk bf 1 none))=true/\h'_10.cellsAt bf 1 1=some [Value.int IntKind.i64 n])/\
 C 185 [Value.pointer (some (Addr.mk br 0 none)),Value.int IntKind.i64 n] h'_10 fun(v:Value) (h'_11:Hp) =>
 ∃(D:Nat->Int),v=Value.agg (Array.mk (aK .u8 32 D))/\
 aN (some (Addr.mk hA.next 0 none))=true/\aN (some (Addr.mk hA.next 1 none))=true/\
 ∃(h'_12:Hp),h'_11.store hA.next 1 (aK .u8 32 D)=some h'_12/\
 aN (some (Addr.mk bn 0 none))=true/\
 ∃(a:OA) (l c:Nat),(aN (some (Addr.mk bn 2 none))=true/\h'_12.cellsAt bn 2 1=some [Value.slice a l c])/\
 ∃(n:Int) (D:Nat->Int),(aN (some (Addr.mk hA.next 0 none))=true/\h'_12.cellsAt hA.next 0 33=some ([Value.int IntKind.u32 n]++aK .u8 32 D))/\
 ∀(h':Hp),h'=h'_12.alloc ([Value.int IntKind.u32 n]++aK .u8 32 D) 131->
 ∃(a_4:OA) (m_2 n:Nat) (h'_13:Hp),aQ Tryz.prog 120 120 (Value.slice a l c) (Value.slice (some (Addr.mk h'_12.next 0 none)) 1 1) h'=some (Value.slice a_4 m_2 n,h'_13)/\
 aN (some (Addr.mk bn 0 none))=true/\
 aN (some (Addr.mk bn 2 none))=true/\∃(h':Hp),h'_13.store bn 2 [Value.slice a_4 m_2 n]=some h'/\∃(m':Nat),aI m' m/\I [Value.int IntKind.i64 (aG IntKind.i64 i 1)] m' h'
theorem KD{E bf W n0:Nat}{i:Int}{I:LV->Nat->Hp->Prop}{m:Nat}{G:Hp}{s:BA}{x:Option LU}{p:Int}{w:Nat}{a1 a2 a3:OA}{l1 l2 c1 c2 c3:Nat}{g3:ON}{ks:List KidT}
  (wf:Wf G) (r:DS G E s x) (hs:s.size<=1099511627776) (hw:w<=32) (hf:Blk G bf (some bf) [.int .i64 p,.int .i64 (w:Int)]) (hn:Blk G W (some W) [.slice a1 l1 c1,.slice a2 l2 c2,.slice a3 ks.length c3])
  (o:Ow G 33 g3 a3 ks.length c3 (ks.flatMap kidC)) (aa:∀y,g3=some y->n0<=y) (h1:E < n0) (h2:bf < n0) (h3:W < n0) (ax:bf≠E) (ay:W≠E) (az:W≠bf) (a0:n0<=G.next) (hl:ks.length<=1099511)
  (hK:∀(kd:KidT) (af:OA) (ag:Nat) (ad:ON) (h':Hp),(∀L pg L1 D L2,x=some L->bV 4 L=some (pg,L1)->dR w L1=some (D,L2)->kd.page=pg/\kd.sum=D/\left ((left (x.bind (bV 4))).bind (dR w))=some L2)->DS h' E s (left ((left (x.bind (bV 4))).bind (dR w)))->
   Blk h' W (some W) [.slice a1 l1 c1,.slice a2 l2 c2,.slice af (ks++[kd]).length ag]->Ow h' 33 ad af (ks++[kd]).length ag ((ks++[kd]).flatMap kidC)->(ad=g3\/∃y,ad=some y/\G.next<=y)->Keep (fun y=>y=E\/y=W\/g3=some y) G h'->Wf h'->∃(m':Nat),aI m' m/\I [Value.int IntKind.i64 (aG IntKind.i64 i 1)] m' h'):Tb E bf W i I m G:=by
 intro hB eB;obtain⟨b1,k1,n1,a4⟩:=aB wf eB;refine(QQ (r.keep k1 id) hs 4 (by omega)).wf fun v hC al a5 ⟨e,rC,kC⟩=>⟨_,e,rfl,rfl,?_⟩;have bC:=kC.blk b1 fun y U V=>by simp at U;omega
 have an:=wG x;have ao:cC .u32 ((got (x.bind (bV 4)) 0:Nat):Int)=((got (x.bind (bV 4)) 0:Nat):Int):=by rw[nP,Up (by omega)]
 obtain⟨hD,eD,bD,kD,nD,ah⟩:=bC.set (o:=0) (v:=.int .u32 (cC .u32 ((got (x.bind (bV 4)) 0:Nat):Int))) (by simp) rfl;have ah:=ah al;rw[ao]at bD;have bD:Blk hD G.next (some G.next) ([.int .u32 ((got (x.bind (bV 4)) 0:Nat):Int)]++bc bH):=bD;have ap:Keep (fun y=>y=E) G hC:=(k1.mono wf (S':=fun y=>y=E) fun _ _ h=>h.elim).trans wf kC fF;have ai:Keep (fun y=>y=E) G hD:=ap.trans wf kD fun g hg V=>by omega
 have fD:=ai.blk hf fun y U V=>by simp at U;omega
 refine⟨hD,eD,rfl,(w:Int),⟨rfl,fD.one rfl⟩,?_⟩;have rD:DS hD E s (left (x.bind (bV 4))):=rC.keep kD (by omega);refine(NB rD hs w hw).wf fun v hE aq a6 ⟨e,rE,kE⟩=>?_;have O:=qD hw (left (x.bind (bV 4)));refine⟨cV (got ((left (x.bind (bV 4))).bind (dR w)) bH),by rw[aH O];exact e,rfl,rfl,?_⟩;have bE:=kE.blk bD fun y U V=>by simp at U;omega
 obtain⟨hG,eG,bG,kG,nG,ae⟩:=bE.store (o:=1) (vs:=bc (got ((left (x.bind (bV 4))).bind (dR w)) bH)) (by rw[Ug,aJ,aJ,O,bI];exact Uf _) (aZ _);have ae:=ae aq;have es:splice ([Value.int .u32 ((got (x.bind (bV 4)) 0:Nat):Int)]++bc bH) 1 (bc (got ((left (x.bind (bV 4))).bind (dR w)) bH))=[Value.int .u32 ((got (x.bind (bV 4)) 0:Nat):Int)]++bc (got ((left (x.bind (bV 4))).bind (dR w)) bH):=by
  unfold splice;rw[aJ,O];simp only[WZ,Wa,Vn,List.cons_append,VH];rw[VV (by rw[Ux,aJ,bI];omega),VJ]
 rw[es]at bG;have ar:Keep (fun y=>y=E) G hE:=ai.trans wf kE fF;have ac:Keep (fun y=>y=E) G hG:=ar.trans wf kG fun g hg V=>by omega
 have aj:=ac.blk hn fun y U V=>by simp at U;omega
 have rG:DS hG E s (left ((left (x.bind (bV 4))).bind (dR w))):=rE.keep kG (by omega);have oG:=o.keep ac fun y U V=>by have:=aa y U;omega
 refine⟨hG,by rw[aH O];exact eG,rfl,a3,ks.length,c3,⟨rfl,aj.one rfl⟩,((got (x.bind (bV 4)) 0:Nat):Int),cV (got ((left (x.bind (bV 4))).bind (dR w)) bH),⟨rfl,tT bG O⟩,?_⟩;intro hH eH;have a7:=ac.next;rw[aH O]at eH
 let kd:KidT:=⟨got (x.bind (bV 4)) 0,got ((left (x.bind (bV 4))).bind (dR w)) bH,an,O⟩
 obtain⟨a',c',g',hI,eI,oI,ak,kI,au⟩:=Ow.append1 ae zX oG (new:=kidC kd) eH (dL kd) (jT kd) (bM (by omega));have nI:=kI.blk aj fun y U V=>by simp at U;have:=aa y V;omega
 obtain⟨hJ,eJ,bJ,kJ,nJ,av⟩:=nI.set (o:=2) (v:=.slice a' (ks.length+1) c') (by simp) rfl;refine⟨a',_,_,hI,eI,rfl,rfl,hJ,eJ,hK kd a' c' g' hJ ?_ ?_ ?_ ?_ ?_ ?_ (av au)⟩
 ·intro L pg L1 D L2 hx h5 h6;subst hx;refine⟨?_,?_,?_⟩
  ·show got ((some L).bind (bV 4)) 0=pg;simp[h5]
  ·show got ((left ((some L).bind (bV 4))).bind (dR w)) bH=D;simp[h5,h6]
  ·simp[h5,h6]
 ·exact(rG.keep kI fun V=>by have:=aa _ V;omega).keep kJ (by omega)
 ·rw[Ug];exact bJ
 ·rw[Ug,VX];have:=oI.keep kJ fun y U V=>by
   rcases ak with hq | ⟨z,hz,hq⟩
   ·have:=aa y (by rw[<-hq];exact U);omega
   ·rw[U]at hz;injection hz with hz;omega
  simpa using this
 ·rcases ak with hq | ⟨z,hz,hq⟩
  ·exact .inl hq
  ·exact .inr ⟨z,hz,by omega⟩
 ·exact((ac.mono wf (S':=fun y=>y=E\/y=W\/g3=some y) fun _ _ h=>.inl h).trans wf kI fun _ _ h=>.inr (.inr h)).trans wf kJ fun _ _ h=>.inr (.inl h)
structure MkN(n0:Nat)(h:Hp)(b:Nat)(N:NodeT):Prop where
 ex:∃a1 c1 g1 a2 c2 g2 a3 c3 g3,Blk h b (some b) [.slice a1 N.ps.length c1,.slice a2 N.K.length c2,.slice a3 N.ks.length c3]/\
  Ow h 2 g1 a1 N.ps.length c1 (N.ps.flatMap pairC)/\Ow h 1 g2 a2 N.K.length c2 (N.K.flatMap strc)/\Ow h 33 g3 a3 N.ks.length c3 (N.ks.flatMap kidC)/\
  (∀y,g1=some y->n0<=y/\g2≠some y/\g3≠some y)/\(∀y,g2=some y->n0<=y/\g3≠some y)/\(∀y,g3=some y->n0<=y)
set_option maxRecDepth 20000 in
theorem Rk{p w:Int}(hF:Fr p w)(s:BA)(hs:s.size<=100000)(h:Hp):
  C 178 [fr p w,.string s,.bool true] h fun v h'=>(∃N:NodeT,(∃a1 l1 c1 a2 l2 c2 a3 l3 c3,v = .agg #[.slice a1 l1 c1,.slice a2 l2 c2,.slice a3 l3 c3])/\NodeS h' (fun y=>h.next<=y/\y < h'.next) v N/\N.ps.length<=s.size/\N.K.length<=s.size/\N.ks.length<=s.size/\∀M,cR p w s M->N=M)/\Kept h h':=by
 obtain⟨c6,b9,c7,c8,br⟩:=hF.nat;refine sv Fb fun wf=>?_;intro h1 e1 h2 e2 h3 e3 h4 e4;obtain⟨b1,k1,n1,ca⟩:=aB wf e1;obtain⟨b2,k2,n2,cc⟩:=aB ca e2;obtain⟨b3,k3,n3,cd⟩:=aB cc e3;obtain⟨b4,k4,n4,a6⟩:=aB cd e4;have bt:Kept h h4:=((k1.trans wf k2 fF).trans wf k3 fF).trans wf k4 fF;have f4:=Kept.blk k4 (Kept.blk k3 (Kept.blk k2 b1));have o4:=Kept.blk k4 (Kept.blk k3 b2);have ce:=Kept.blk k4 b3;have cf:s.data.toList.length=s.size:=VE;have r4:DS h4 h3.next s (some s.data.toList):=⟨0,Uk _,rfl,b4⟩;refine(QQ r4 (by omega) 1 (by omega)).wf fun v h5 c9 da ⟨e,r5,k5⟩=>⟨_,e,?_⟩;have cg:aE (aU s)=((s.size:Nat):Int):=rfl;rw[cg];refine(Rn r5 (by omega) s.size (by omega)).wf fun v h6 ci db ⟨e,r6,k6⟩=>⟨_,e,?_⟩;simp only[Ul]at r6 ⊢;generalize bg:got (bV 1 s.data.toList) 0=kd;generalize a7:got ((left (bV 1 s.data.toList)).bind (countP s.size)) 0=U;generalize bh:left ((left (bV 1 s.data.toList)).bind (countP s.size))=x6 at r6
 have cj:U<=s.size:=by
  rw[<-a7]
  cases W:(left (bV 1 s.data.toList)).bind (countP s.size) with
  | none=>simp[got]
  | some y =>
   obtain⟨n,R⟩:=y
   cases hl:left (bV 1 s.data.toList) with
   | none=>rw[hl]at W;simp at W
   | some L =>
    rw[hl]at W;simp only[Ul,countP]at W
    cases hf:dK s.size L with
    | none=>simp[hf]at W
    | some z =>
     obtain⟨n2,R2⟩:=z;have:=freeP_le hf;simp only[hf,Ul]at W
     split at W
     ·simp at W
     ·simp only[Um,Un]at W;simp only[got]
      omega
 have af:∀M,cR p w s M->kd=(if M.leaf=true then 1 else 2)/\manyN M=U/\x6=some (fB w M 0):=by
  intro M hM;obtain⟨_,_,al,_⟩:=mS hM;rw[KK]at al;have t1:bV 1 s.data.toList=some (if M.leaf=true then 1 else 2,cU (manyN M)++fB w M 0):=by
   rw[<-al];exact uR (by split <;> decide) _
  have hlen:(fB w M 0).length<=s.size:=by rw[<-cf,<-al];simp only[Ug];omega
  have dc:=PH w M;have c1:countP s.size (cU (manyN M)++fB w M 0)=some (manyN M,fB w M 0):=by
   unfold countP;rw[tV (by omega) (by omega)];simp only[Ul];rw[if_neg (by omega)]
  rw[t1]at bg a7 bh;simp only[got,left,Uv,Ul,c1]at bg a7 bh;exact⟨bg.symm,a7,bh.symm⟩
 have ck:Keep (fun y=>y=h3.next\/y=h2.next\/h4.next<=y) h4 h6:=(k5.mono a6 (S':=fun y=>y=h3.next\/y=h2.next\/h4.next<=y) fun _ _ h=>.inl h).trans a6 k6 fun _ _ h=>.inl h;have cl:=k6.blk (k5.blk ce fun y E O=>by simp at E;omega) fun y E O=>by simp at E;omega
 refine⟨fun vals m hh=>∃(i:Nat) (G:NodeT) (x:Option LU),[.int .i64 (i:Int)]=vals/\m=U - i/\i<=U/\DS hh h3.next s x/\MkN h4.next hh h2.next G/\
   G.ps.length<=i/\G.K.length<=i/\G.ks.length<=i/\(∀M,cR p w s M->G=lI M i/\x=some (fB w M i))/\Keep (fun y=>y=h3.next\/y=h2.next\/h4.next<=y) h4 hh/\Wf hh,
  ⟨U,0,⟨[],[],[]⟩,x6,rfl,rfl,Uk _,r6,⟨none,0,none,none,0,none,none,0,none,cl,Ow.nil _ _,Ow.nil _ _,Ow.nil _ _,by simp,by simp,by simp⟩,Uf _,Uf _,Uf _,fun M hM=>⟨by simp[lI],(af M hM).2.2⟩,ck,ci⟩,?_⟩
 rintro dd m hh ⟨i,G,x,e,rfl,hi,r,⟨a1,c1,g1,a2,c2,g2,a3,c3,g3,nd,a8,aq,a9,V,ad,ae⟩,de,df,dg,hM,kk,ac⟩;simp only[Ur,Value.int.injEq,true_and,and_true]at e;subst e;obtain⟨p0,f0,dh,r0,di,cm⟩:=r.at;have dj:=kk.next;have fh:Blk hh h.next (some h.next) [.int .i64 p,.int .i64 (w.toNat:Int)]:=by
  rw[<-b9];exact kk.blk f4 fun y E O=>by simp at E;omega
 have kh:∀{hz:Hp},Keep (fun y=>y=h3.next\/y=h2.next\/h4.next<=y) h4 hz->Kept h hz:=fun k=>bt.trans wf k fun y E O=>by omega
 have bi:=a8.glt ac;have bu:=aq.glt ac;have bj:=a9.glt ac;refine⟨fun _=>rfl,fun _=>rfl,f0,fun _=>⟨rfl,Blk.one r0 rfl⟩,?_⟩;by_cases O:aR (bO (i:Int) (U:Int)) (bX f0 0) false=true
 ·rw[if_pos O];have dk:i < U:=by rw[bN,aC]at O;omega
  have bf:aG .i64 (i:Int) 1=((i+1:Nat):Int):=cN 1 i (by omega);have ag:∀M,cR p w s M->(fB w M i).length<=s.size:=fun M h=>by
   have r':=r;rw[(hM M h).2]at r';exact DS.rest r'
  by_cases ba:bX (kd:Int) 1=true
  ·rw[if_pos ba];have bv:kd=1:=by rw[aV]at ba;omega
   refine(Gs r (by omega) s.size (by omega)).wf fun v h7 bk cn ⟨e,r7,k7⟩=>⟨_,e,?_⟩;refine(Gs r7 (by omega) s.size (by omega)).wf fun v h8 co dl ⟨e,r8,k8⟩=>⟨_,e,rfl,?_⟩;have ao:Keep (· = h3.next) hh h8:=k7.trans ac k8 fF;have bw:=ao.blk nd fun y E O=>by simp at E;omega
   refine⟨a1,G.ps.length,c1,⟨rfl,bw.one rfl⟩,?_⟩;intro h9 e9;have c5:=ao.next;generalize ah:str (got (x.bind (cX s.size)) [])=T1 at e9;generalize bl:str (got ((left (x.bind (cX s.size))).bind (cX s.size)) [])=T2 at e9;obtain⟨a',c',g',bm,bn,bo,ar,ai,au⟩:=Ow.append1 co uG (a8.keep ao fun y E O=>by have:=(V y E).1;omega) (new:=pairC (T1,T2)) e9 rfl rfl (bM (by omega));have av:=ai.blk bw fun y E O=>by simp at E;have:=(V y O).1;omega
   obtain⟨an,bp,ax,aj,cp,ay⟩:=av.set (o:=0) (v:=.slice a' (G.ps.length+1) c') (by simp) rfl;have k6:Keep (fun y=>y=h3.next\/y=h2.next\/h4.next<=y) hh an:=((ao.mono ac (S':=fun y=>y=h3.next\/y=h2.next\/h4.next<=y) fun _ _ h=>.inl h).trans ac ai fun g _ h=>.inr (.inr (V g h).1)).trans ac aj fun _ _ h=>.inr (.inl h);refine⟨a',_,_,bm,bn,rfl,rfl,an,bp,U - (i+1),by simp only[aI];omega,i+1,⟨G.ps++[(T1,T2)],G.K,G.ks⟩,_,?_,rfl,by omega,(r8.keep ai fun O=>by have:=(V _ O).1;omega).keep aj (by omega),⟨a',c',g',a2,c2,g2,a3,c3,g3,?_,?_,?_,?_,?_,ad,ae⟩,?_,by show G.K.length<=_;omega,by show G.ks.length<=_;omega,?_,kk.trans a6 k6 fF,ay au⟩
   ·rw[bf]
   ·simp only[Ug];exact ax
   ·simp only[Ug,VX];have:=bo.keep aj fun y E O=>by
     rcases ar with W | ⟨z,hz,W⟩
     ·have:=(V y (by rw[<-W];exact E)).1;omega
     ·rw[E]at hz;injection hz with hz;omega
    simpa using this
   ·exact((aq.keep ao fun y E O=>by have:=(ad y E).1;omega).keep ai fun y E O=>(V y O).2.1 E).keep aj fun y E O=>by have:=(ad y E).1;omega
   ·exact((a9.keep ao fun y E O=>by have:=ae y E;omega).keep ai fun y E O=>(V y O).2.2 E).keep aj fun y E O=>by have:=ae y E;omega
   ·intro y E;rcases ar with W | ⟨z,hz,W⟩
    ·exact V y (by rw[<-W];exact E)
    ·rw[E]at hz;injection hz with hz;subst hz
     exact⟨by omega,fun O=>by have:=bu _ O;omega,fun O=>by have:=bj _ O;omega⟩
   ·simp only[Ug,Wd];omega
   ·intro M h;obtain⟨h5,h6,_⟩:=af M h;have hL:M.leaf=true:=by
     by_cases hL:M.leaf=true
     ·exact hL
     ·rw[if_neg hL]at h5;omega
    obtain⟨q,L1,t1,t2,bx⟩:=KF (w:=w) hL (i:=i) (by omega) (ag M h) (by omega);obtain⟨q1,q2⟩:=hM M h;rw[q2]at ah bl ⊢;simp only[Ul,t1,t2,got,left,Uv]at ah bl ⊢;rw[bx,<-ah,<-bl,<-q1];simp[Bt]
  ·rw[if_neg ba];have bv:kd≠1:=fun h=>ba (by rw[aV];omega);have ak:∀(hz:Hp) (xz:Option LU) (Kz:List BA) (az:OA) (cz:Nat) (gz:ON),Wf hz->DS hz h3.next s xz->Blk hz h2.next (some h2.next) [.slice a1 G.ps.length c1,.slice az Kz.length cz,.slice a3 G.ks.length c3]->
     Ow hz 1 gz az Kz.length cz (Kz.flatMap strc)->(gz=g2\/∃y,gz=some y/\hh.next<=y)->Keep (fun y=>y=h3.next\/y=h2.next\/g2=some y) hh hz->Kz.length<=i+1->
     (∀M,cR p w s M->∃(k:KidT) (sp:List BA) (L1 L2:LU),xz=some L1/\Kz=G.K++sp/\bV 4 L1=some (k.page,L2)/\dR w.toNat L2=some (k.sum,fB w M (i+1))/\lI M (i+1)=⟨G.ps,G.K++sp,G.ks++[k]⟩)->
     Tb h3.next h.next h2.next (i:Int) (fun vals m hh=>∃(i:Nat) (G:NodeT) (x:Option LU),[.int .i64 (i:Int)]=vals/\m=U - i/\i<=U/\DS hh h3.next s x/\MkN h4.next hh h2.next G/\
      G.ps.length<=i/\G.K.length<=i/\G.ks.length<=i/\(∀M,cR p w s M->G=lI M i/\x=some (fB w M i))/\Keep (fun y=>y=h3.next\/y=h2.next\/h4.next<=y) h4 hh/\Wf hh) (U - i) hz:=by
    intro hz xz Kz az cz gz bz rz cq oz cr kz dn ct;have dp:=kz.next;have ap:∀y,gz=some y->h4.next<=y/\g3≠some y/\g1≠some y:=by
     intro y E;rcases cr with W | ⟨z,aa,W⟩
     ·have:=ad y (by rw[<-W];exact E);exact⟨this.1,this.2,fun O=>(V y O).2.1 (by rw[<-W];exact E)⟩
     ·rw[E]at aa;injection aa with aa;subst aa
      exact⟨by omega,fun O=>by have:=bj _ O;omega,fun O=>by have:=bi _ O;omega⟩
    have a0:∀y,(y=h3.next\/y=h2.next\/g2=some y)->(y=h3.next\/y=h2.next\/h4.next<=y):=fun y E=>by
     rcases E with h | h | h
     ·exact .inl h
     ·exact .inr (.inl h)
     ·exact .inr (.inr (ad y h).1)
    refine KD (n0:=h4.next) bz rz (by omega) br (kz.blk fh fun y E O=>by
     simp at E;subst E;rcases a0 _ O with h | h | h <;> omega) cq (a9.keep kz fun y E O=>by
     rcases O with h | h | h
     ·have:=ae y E;omega
     ·have:=ae y E;omega
     ·exact(ad y h).2 E) ae (by omega) (by omega) (by omega) (by omega) (by omega) (by omega) (by omega) (by omega) ?_
    intro bq cu cv cy h' b5 r' b' o' a4 k' c0;have kT:Keep (fun y=>y=h3.next\/y=h2.next\/h4.next<=y) hh h':=(kz.mono ac (S':=fun y=>y=h3.next\/y=h2.next\/h4.next<=y) fun y _ h=>a0 y h).trans ac k' fun y _ h=>by
     rcases h with h | h | h
     ·exact .inl h
     ·exact .inr (.inl h)
     ·exact .inr (.inr (ae y h))
    refine⟨U - (i+1),by simp only[aI];omega,i+1,⟨G.ps,Kz,G.ks++[bq]⟩,_,?_,rfl,by omega,r',⟨a1,c1,g1,az,cz,gz,cu,cv,cy,b',?_,?_,o',?_,?_,?_⟩,by show G.ps.length<=_;omega,by show Kz.length<=_;omega,by simp only[Ug,Wd];omega,?_,kk.trans a6 kT fF,c0⟩
    ·rw[bf]
    ·refine(a8.keep kz fun y E O=>?_).keep k' fun y E O=>?_
     ·rcases O with h | h | h
      ·have:=(V y E).1;omega
      ·have:=(V y E).1;omega
      ·exact(V y E).2.1 h
     ·rcases O with h | h | h
      ·have:=(V y E).1;omega
      ·have:=(V y E).1;omega
      ·exact(V y E).2.2 h
    ·refine oz.keep k' fun y E O=>?_;rcases O with h | h | h
     ·have:=(ap y E).1;omega
     ·have:=(ap y E).1;omega
     ·exact(ap y E).2.1 h
    ·intro y E;refine⟨(V y E).1,fun O=>(ap y O).2.2 E,fun O=>?_⟩;rcases a4 with W | ⟨z,aa,W⟩
     ·exact(V y E).2.2 (by rw[<-W];exact O)
     ·rw[O]at aa;injection aa with aa;subst aa
      have:=bi _ E;omega
    ·intro y E;refine⟨(ap y E).1,fun O=>?_⟩;rcases a4 with W | ⟨z,aa,W⟩
     ·exact(ap y E).2.1 (by rw[<-W];exact O)
     ·rw[O]at aa;injection aa with aa;subst aa
      have:=oz.glt bz _ E;omega
    ·intro y E;rcases a4 with W | ⟨z,aa,W⟩
     ·exact ae y (by rw[<-W];exact E)
     ·rw[E]at aa;injection aa with aa;omega
    ·intro M h;obtain⟨k,sp,L1,L2,q1,q2,q3,q4,q5⟩:=ct M h;obtain⟨p1,p2,p3⟩:=b5 _ _ _ _ _ q1 q3 q4;have:bq=k:=by cases bq;cases k;simp at p1 p2;subst p1;subst p2;rfl
     rw[q5,q2,this];exact⟨rfl,p3⟩
   have branch:∀M,cR p w s M->M.leaf≠true/\manyN M=U/\Fr p w/\cS p w M:=by
    intro M h;obtain⟨h5,h6,_⟩:=af M h;obtain⟨q1,q2,_,_⟩:=mS h;refine⟨fun hL=>?_,h6,q1,q2⟩;rw[if_pos hL]at h5;omega
   by_cases bb:dB (i:Int) 0=true
   ·rw[if_pos bb];have a5:0 < i:=by rw[aS]at bb;omega
    refine(Gs r (by omega) s.size (by omega)).wf fun v h7 bk cn ⟨e,r7,k7⟩=>⟨_,e,rfl,?_⟩;have b6:=k7.blk nd fun y E O=>by simp at E;omega
    refine⟨a2,G.K.length,c2,⟨rfl,b6.one rfl⟩,?_⟩;intro h9 e9;generalize ah:str (got (x.bind (cX s.size)) [])=T1 at e9;obtain⟨a',c',g',bm,bn,bo,ar,ai,au⟩:=Ow.append1 bk vP (aq.keep k7 fun y E O=>by have:=(ad y E).1;omega) (new:=strc T1) e9 rfl rfl (bM (by omega));have av:=ai.blk b6 fun y E O=>by simp at E;have:=(ad y O).1;omega
    obtain⟨an,bp,ax,aj,cp,ay⟩:=av.set (o:=1) (v:=.slice a' (G.K.length+1) c') (by simp) rfl;have k6:Keep (fun y=>y=h3.next\/y=h2.next\/g2=some y) hh an:=((k7.mono ac (S':=fun y=>y=h3.next\/y=h2.next\/g2=some y) fun _ _ h=>.inl h).trans ac ai fun _ _ h=>.inr (.inr h)).trans ac aj fun _ _ h=>.inr (.inl h);have ax:Blk an h2.next (some h2.next) [.slice a1 G.ps.length c1,.slice a' (G.K++[T1]).length c',.slice a3 G.ks.length c3]:=by rw[Ug];exact ax
    refine⟨a',_,_,bm,bn,rfl,rfl,an,bp,?_⟩;rw[CU];simp only[if_true];refine ak an _ (G.K++[T1]) a' c' g' (ay au) ((r7.keep ai fun O=>by have:=(ad _ O).1;omega).keep aj (by omega)) ax ?_ ?_ k6 (by rw[Ug,Wd];omega) ?_
    ·rw[Ug,VX];have:=bo.keep aj fun y E O=>by
      rcases ar with W | ⟨z,hz,W⟩
      ·have:=(ad y (by rw[<-W];exact E)).1;omega
      ·rw[E]at hz;injection hz with hz;omega
     simpa using this
    ·rcases ar with W | ⟨z,hz,W⟩
     ·exact .inl W
     ·exact .inr ⟨z,hz,by omega⟩
    ·intro M h;obtain⟨q1,q2,q3,q4⟩:=branch M h;obtain⟨k,sp,L1,L2,t1,t2,t3,t4,t5⟩:=ET q3 q4 q1 (i:=i) (by omega) (ag M h) (by omega);obtain⟨t,rfl,u1⟩:=t1 a5;obtain⟨p1,p2⟩:=hM M h;rw[p2]at ah ⊢;simp only[Ul,got,left]at ah ⊢;rw[u1]at ah ⊢;simp only[Uv,Bt]at ah ⊢;refine⟨k,[t],L1,L2,rfl,by rw[<-ah],t3,t4,?_⟩;rw[t5,p1]
   ·rw[if_neg bb];have a5:i=0:=by
     by_cases W:i=0
     ·exact W
     ·exact absurd (aS.2 (by omega)) bb
    rw[CU];simp only[if_true];refine ak hh x G.K a2 c2 g2 ac r nd aq (.inl rfl) (Keep.refl _ _) (by omega) ?_;intro M h;obtain⟨q1,q2,q3,q4⟩:=branch M h;obtain⟨k,sp,L1,L2,t1,t2,t3,t4,t5⟩:=ET q3 q4 q1 (i:=i) (by omega) (ag M h) (by omega);obtain⟨rfl,rfl⟩:=t2 a5;obtain⟨p1,p2⟩:=hM M h;refine⟨k,[],_,L2,p2,by simp,t3,t4,?_⟩;rw[t5,p1]
 ·rw[if_neg O];have oh:=kk.blk o4 fun y E O=>by simp at E;omega
  obtain⟨h7,e7,b7,k7,n7,bk⟩:=oh.store (o:=0) (vs:=[.slice a1 G.ps.length c1,.slice a2 G.K.length c2,.slice a3 G.ks.length c3]) (by simp) rfl;rw[aO (by rfl)]at b7;refine⟨a1,_,c1,a2,_,c2,a3,_,c3,⟨rfl,by rw[nd.cells (by simp)];rfl⟩,rfl,h7,e7,a1,_,c1,a2,_,c2,a3,_,c3,⟨rfl,by rw[b7.cells (by simp)];rfl⟩,⟨G,⟨_,_,_,_,_,_,_,_,_,rfl⟩,?_,by omega,by omega,by omega,?_⟩,(kh kk).trans wf k7 fun y E O=>by omega⟩
  ·have dq:=bt.next;refine⟨_,_,_,_,_,_,_,_,_,rfl,⟨g1,fun y E=>⟨by have:=(V y E).1;omega,by have:=bi y E;omega⟩,?_,rfl⟩,⟨g2,fun y E=>⟨by have:=(ad y E).1;omega,by have:=bu y E;omega⟩,?_,rfl⟩,⟨g3,fun y E=>⟨by have:=ae y E;omega,by have:=bj y E;omega⟩,?_,rfl⟩⟩
   ·exact(a8.keep k7 fun y E O=>by have:=(V y E).1;omega).sl
   ·exact(aq.keep k7 fun y E O=>by have:=(ad y E).1;omega).sl
   ·exact(a9.keep k7 fun y E O=>by have:=ae y E;omega).sl
  ·intro M h;obtain⟨q1,q2⟩:=hM M h;obtain⟨_,h6,_⟩:=af M h;have hf:f0=0:=(cm _ q2).2;have c4:i=U:=by
    by_cases W:i=U
    ·exact W
    ·exact absurd (by rw[bN,aC,aV];exact⟨by omega,hf⟩) O
   rw[q1,c4,<-h6];exact Pd M (mS h).2.2.2
theorem PY(p w:Int)(s:BA)(h:Hp):
  C 168 [fr p w,.string s] h fun v h'=>(∃(U:Value) (e:Int),v = .tuple #[U,.int .i64 e]/\(∃a1 l1 c1 a2 l2 c2 a3 l3 c3,U = .agg #[.slice a1 l1 c1,.slice a2 l2 c2,.slice a3 l3 c3])/\(e≠0->U=CM)/\
   ((¬Fr p w/\e=2)\/(Fr p w/\e=73/\∀N,¬cR p w s N)\/(Fr p w/\e=0/\∃N,cR p w s N/\NodeS h' (fun y=>h.next<=y/\y < h'.next) U N)))/\Kept h h':=by
 refine sv DK fun wf=>?_;intro h1 e1 h2 e2;obtain⟨b1,k1,n1,an⟩:=aB wf e1;obtain⟨b2,k2,n2,af⟩:=aB an e2;have V:=k1.trans wf k2 fF;have W:=Kept.blk k2 b1;have aa:∀{hh:Hp},Blk hh h.next (some h.next) [.int .i64 p,.int .i64 w]->hh.cellsAt h.next 0 2=some [.int .i64 p,.int .i64 w]:=fun hb=>by rw[hb.cells (by simp)];rfl
 have fail:∀(hh:Hp) (e:Int) {cs:LV},Wf hh->Kept h hh->Blk hh h1.next (some h1.next) cs->cs.length=3->e≠0->((¬Fr p w/\e=2)\/(Fr p w/\e=73/\∀N,¬cR p w s N))->∃h':Hp,hh.store h1.next 0 [.slice none 0 0,.slice none 0 0,.slice none 0 0]=some h'/\
   ∃(a:OA) (l c:Nat) (a1:OA) (l1 c1:Nat) (a2:OA) (l2 c2:Nat),(aN (some (Addr.mk h1.next 0 none))=true/\h'.cellsAt h1.next 0 3=some [.slice a l c,.slice a1 l1 c1,.slice a2 l2 c2])/\
   (∃(U:Value) (e':Int),Value.tuple #[.agg #[.slice a l c,.slice a1 l1 c1,.slice a2 l2 c2],.int .i64 e] = .tuple #[U,.int .i64 e']/\(∃a1 l1 c1 a2 l2 c2 a3 l3 c3,U = .agg #[.slice a1 l1 c1,.slice a2 l2 c2,.slice a3 l3 c3])/\(e'≠0->U=CM)/\
   ((¬Fr p w/\e'=2)\/(Fr p w/\e'=73/\∀N,¬cR p w s N)\/(Fr p w/\e'=0/\∃N,cR p w s N/\NodeS h' (fun y=>h.next<=y/\y < h'.next) U N)))/\Kept h h':=by
  intro hh e cs az kh bo ag ac hp;obtain⟨h',e',b',k',n',a0⟩:=bo.store (o:=0) (vs:=[.slice none 0 0,.slice none 0 0,.slice none 0 0]) (by rw[ag];exact Uf _) rfl;rw[aO (by rw[ag];rfl)]at b';refine⟨h',e',none,0,0,none,0,0,none,0,0,⟨rfl,by rw[b'.cells (by simp)];rfl⟩,⟨_,_,rfl,⟨_,_,_,_,_,_,_,_,_,rfl⟩,fun _=>rfl,?_⟩,kh.trans wf k' fun y hy hc=>by omega⟩;rcases hp with hp | hp
  ·exact .inl hp
  ·exact .inr (.inl hp)
 refine⟨p,w,⟨rfl,aa W⟩,?_⟩;refine(Cf p w h2).mono fun v h' ⟨e,eh⟩=>⟨_,e,?_⟩;subst eh;by_cases hF:Fr p w
 ·rw[if_neg (by simp[aD,hF])];obtain⟨a4,ao,a5,a6,ay⟩:=hF.nat;refine⟨p,w,⟨rfl,aa W⟩,?_⟩;refine(NF p w (by omega) h').mono fun v ah ⟨e,eh⟩=>⟨_,e,?_⟩;subst eh;have ap:aE (aU s)=((s.size:Nat):Int):=rfl;rw[ap];have aq:s.data.toList.length=s.size:=VE;by_cases E:dB ((s.size:Nat):Int) (p - 32)=true
  ·rw[if_pos E];obtain⟨h',e',post⟩:=fail ah 73 af V b2 rfl (by decide) (.inr ⟨hF,rfl,fun N hN=>by
    have hm:=hN.1.may;have h2:=hN.2;rcases hm with ⟨_,h⟩ | ⟨_,_,_,h⟩ | ⟨_,hg,h,_⟩
    ·exact h rfl
    ·omega
    ·have hle:(cJ true w N).length<=gK w N:=by
      have hk:N.leaf=true\/N.K.length+1=N.ks.length:=(mS hN).2.2.2.imp id fun h=>h.2;have:=mX (p:=p) (w:=w.toNat) (N:=N) (by omega) true (hk.imp id fun h=>by omega) hk;rw[<-ao]at this;exact this
     rw[h2,aq]at hle;rw[aS]at E
     omega⟩)
   exact⟨rfl,h',e',post⟩
  ·rw[if_neg E];have ar:s.size<=100000:=by rw[aS]at E;omega
   refine⟨p,w,⟨rfl,aa W⟩,?_⟩;refine(Rk hF s ar ah).wf fun v h3 ai a7 ⟨⟨N0,⟨a1,l1,c1,a2,l2,c2,a3,l3,c3,env⟩,x3,q1,q2,q3,hM⟩,k3⟩=>?_;subst env;refine⟨a1,l1,c1,a2,l2,c2,a3,l3,c3,rfl,?_⟩;intro h4 e4;obtain⟨b4,k4,n4,au⟩:=aB ai e4;obtain⟨h5,e5,b5,k5,n5,ad⟩:=b4.store (o:=0) (vs:=[.slice a1 l1 c1,.slice a2 l2 c2,.slice a3 l3 c3]) (by simp) rfl;rw[aO (by rfl)]at b5;have ad:=ad au;have G:Kept h3 h5:=k4.trans ai k5 fun y hy hc=>by omega
   have aj:Kept h h5:=(V.trans wf k3 fF).trans wf G fF;have ak:=Kept.blk G (Kept.blk k3 b2);have av:=Kept.blk G (Kept.blk k3 W);have x5:=x3.keep G fF;refine⟨rfl,h5,e5,p,w,⟨rfl,aa av⟩,a1,l1,c1,a2,l2,c2,a3,l3,c3,⟨rfl,by rw[b5.cells (by simp)];rfl⟩,?_⟩;refine(QS (x5.at fun y hy=>hy.2) p w (by omega) (by omega) (by omega)).mono fun v h6 ⟨⟨e,ss,ev,al,ac,a8⟩,eh⟩=>⟨ss,e,ev,?_⟩;subst eh;by_cases hz:e=0/\cJ true w N0=s.data.toList
   ·obtain⟨rfl,O⟩:=hz;have ae:ss=s:=by rw[ac rfl,O,Bt]
    rw[if_neg (by rw[ae,cG,bA,gR];simp[vW])];obtain⟨h7,e7,b7,k7,n7,a9⟩:=ak.store (o:=0) (vs:=[.slice a1 l1 c1,.slice a2 l2 c2,.slice a3 l3 c3]) (by simp) rfl;rw[aO (by rfl)]at b7;refine⟨a1,l1,c1,a2,l2,c2,a3,l3,c3,⟨rfl,by rw[b5.cells (by simp)];rfl⟩,rfl,h7,e7,a1,l1,c1,a2,l2,c2,a3,l3,c3,⟨rfl,by rw[b7.cells (by simp)];rfl⟩,⟨_,_,rfl,⟨_,_,_,_,_,_,_,_,_,rfl⟩,fun h=>absurd rfl h,.inr (.inr ⟨hF,rfl,N0,⟨al,O⟩,?_⟩)⟩,aj.trans wf k7 fun y hy hc=>by omega⟩;have ba:=V.next;have bb:=G.next;have bf:=k7.next;exact(x5.keep k7 fun y hy hc=>by omega).mono fun y hy=>by omega
   ·rw[if_pos ?_]
    ·obtain⟨h',e',post⟩:=fail h6 73 ad aj ak rfl (by decide) (.inr ⟨hF,rfl,fun N hN=>by
      have:=hM N hN;subst this;exact hz ⟨al.uniq hN.1,hN.2⟩⟩)
     exact⟨rfl,h',e',post⟩
    ·rw[cG,bA,gR];by_cases he:e=0
     ·right
      have ae:=ac he;have ax:ss.data.toList≠s.data.toList:=fun hc=>hz ⟨he,by rw[<-hc,ae,jC]⟩;rw[<-Vr];exact fun hc=>ax (by rw[(eq_iff _ _).1 hc])
     ·exact .inl he
 ·rw[if_pos (by simp[aD,hF])];obtain⟨h',e',post⟩:=fail h' 2 af V b2 rfl (by decide) (.inl ⟨hF,rfl⟩);exact⟨rfl,h',e',post⟩
theorem NH(p w:Int)(W:Fr p w)(h:Hp):C 49 [fr p w] h fun v h'=>v = .tuple #[.agg (bc (sumN w kA)).toArray,.int .i64 0]/\Kept h h':=by
 refine sv Fc fun wf=>?_;intro h1 e1 h2 e2;rw[dU]at e2;obtain⟨b1,k1,n1,E⟩:=aB wf e1;obtain⟨b2,k2,n2,aa⟩:=aB E e2;have G:=k1.trans wf k2 fF;refine⟨p,w,⟨rfl,by rw[(Kept.blk k2 b1).cells (by simp)];rfl⟩,?_⟩;refine(Ei (MV h2 h2.next) p w (by simp[kA]) (by simp[kA]) (by simp[kA])).wf fun v h3 O ac ⟨⟨d,D,e,hm,U,ad⟩,k3⟩=>?_;subst k3;have hd:d=0:=hm.uniq (Hx W);subst hd;have V:=U rfl;subst V;have hl:(sumN w kA).length=32:=gA (by obtain⟨_,_,_⟩:=W;omega) _;obtain⟨h4,e4,b4,k4,_,n4,ae⟩:=bP O (vs:=bc (sumN w kA)) b2 G wf (by omega) (by rw[aJ,aJ,hl];rfl) (aZ _);refine⟨cV (sumN w kA),0,by rw[aH hl];exact e,rfl,h4,by rw[aH hl];exact e4,cV (sumN w kA),⟨rfl,cH b4 hl⟩,?_,k4⟩;rw[aH hl]
end Go.Proofs.YtmapagggnigfpaaGreat.pk
namespace Go.Cn.Pk
def oF(lo hi:Option BA)(A:List BA):Nat:=A.countP (AU lo hi)
theorem yN{s u:BA}:fQ s u=true↔Go.Cn.strLt u s=false:=by
 constructor
 ·intro h;unfold fQ at h;simp only[Vh,beq_iff_eq]at h;rcases h with h | h
  ·exact lt_asymm h
  ·have E:Go.Cn.strLt u u=false:=lt_irrefl u;unfold Go.Cn.strLt at E ⊢;rw[h];exact E
 ·intro h;unfold fQ;simp only[Vh,beq_iff_eq];by_cases E:Go.Cn.strLt s u=true
  ·exact .inl E
  ·right
   have:=Ma (by simpa using E) h;rw[this]
theorem CL{lo hi:Option BA}{s:BA}:EA lo hi s=true↔(∀t,lo=some t->Go.Cn.strLt t s=true)/\(∀t,hi=some t->Go.Cn.strLt s t=true):=by
 unfold EA
 cases lo with
 | none=>cases hi with
  | none=>simp
  | some t=>simp
 | some u=>cases hi with
  | none =>
   simp only[Option.any_some,Option.any_none,Bool.or_false,VL,Um,forall_eq',reduceCtorEq,false_implies,implies_true,and_true];rw[<-Vr,yN];simp
  | some t =>
   simp only[Option.any_some,VL,Bool.or_eq_false_iff,Um,forall_eq'];rw[<-Vr,yN];simp
theorem qZ{lo hi:Option BA}{s:BA}:AU lo hi s=true↔(∀t,lo=some t->Go.Cn.strLt s t=false)/\(∀t,hi=some t->Go.Cn.strLt s t=true):=by
 unfold AU
 cases lo with
 | none=>cases hi with
  | none=>simp
  | some t=>simp
 | some u=>cases hi with
  | none=>simp
  | some t=>simp
theorem BU{lo hi:Option BA}{s:BA}(h:EA lo hi s=true):∀A:List BA,oF lo (some s) A+oF (some s) hi A<=oF lo hi A
 | []=>by simp[oF]
 | a::A=>by
  have V:=BU h A;obtain⟨W,h2⟩:=CL.1 h;unfold oF at V ⊢;simp only[List.countP_cons];by_cases O:Go.Cn.strLt a s=true
  ·have n2:AU (some s) hi a=false:=by
    rw[<-Vr];intro G;have:=(qZ.1 G).1 s rfl;rw[O]at this;simp at this
   rw[n2];by_cases E:AU lo (some s) a=true
   ·have:AU lo hi a=true:=qZ.2 ⟨(qZ.1 E).1,fun t U=>lt_trans O (h2 t U)⟩;rw[this,E];simp only[if_true,VA,if_false]
    omega
   ·rw[if_neg E];simp only[VA,if_false]
    omega
  ·have n1:AU lo (some s) a=false:=by
    rw[<-Vr];intro G;exact O ((qZ.1 G).2 s rfl)
   rw[n1];by_cases E:AU (some s) hi a=true
   ·have:AU lo hi a=true:=qZ.2 ⟨fun t U=>by
     rw[<-Vr];intro G;exact O (lt_trans G (W t U)),(qZ.1 E).2⟩
    rw[this,E];simp only[if_true,VA,if_false]
    omega
   ·rw[if_neg E];simp only[VA,if_false]
    omega
theorem xZ(x:Plc)(N:NodeT):(eW x N).length=N.ks.length:=by unfold eW;simp
theorem Db{x:Plc}{N:NodeT}{i:Nat}{k:KidT}(E:N.ks[i]? = some k):(eW x N)[i]? = some (x.below N i k):=by
 unfold eW;rw[VB,List.getElem?_zipIdx,E];simp
theorem JX{x:Plc}{N:NodeT}{i:Nat}{k:KidT}(E:N.ks[i]? = some k):(eW x N).drop i=x.below N i k::(eW x N).drop (i+1):=by
 have h:=Db (x:=x) E;obtain⟨hi,G⟩:=Us.1 h;rw[WI hi,G]
theorem FT{src:Src}{p w:Int}{A:List BA}(hA:∀no,(src no).1=0->∀q∈(src no).2.ps,q.1∈A):
  ∀(n:Nat) (x:Plc),(cW src p w n x).1.length<=n * (oF x.lo x.hi A+1)/\((cW src p w n x).2=0->1<=oF x.lo x.hi A/\(cW src p w n x).1.length<=n * oF x.lo x.hi A):=by
 intro n
 induction n with
 | zero=>intro x;simp[cW]
 | succ n ih =>
  intro x;unfold cW;by_cases hg:iW src p w x=0
  ·rw[if_neg (by simp[hg])];obtain⟨ar,aa,hH⟩:=rB hg;generalize af:(src x.no).2=N at hH ⊢;have ag:∀q∈N.ps,q.1∈A:=by rw[<-af];exact hA _ aa
   obtain⟨hM,_,ah,hB⟩:=hH;obtain⟨hF,hG⟩:=hM.good;unfold Kk at hB;simp only[Uw,VK]at hB;obtain⟨ai,aj⟩:=hB;unfold cS at hG;by_cases hL:N.leaf=true
   ·obtain⟨e1,e2⟩:N.K=[]/\N.ks=[]:=by
     unfold NodeT.leaf at hL;simpa[Uw,List.isEmpty_iff]using hL
    have ac:eW x N=[]:=by unfold eW;rw[e2];rfl
    rw[ac];simp only[dA];obtain⟨q,hq⟩:∃q,q∈N.ps:=by
     cases hp:N.ps with
     | nil=>exact absurd ⟨hL,by rw[hp];rfl⟩ ah
     | cons q l=>exact⟨q,by simp⟩
    have h1:1<=oF x.lo x.hi A:=List.countP_pos_iff.2 ⟨q.1,ag q hq,ai q hq⟩;have h2:1<=(n+1) * oF x.lo x.hi A:=Nat.le_trans h1 (Nat.le_mul_of_pos_left _ (by omega));refine⟨?_,fun _=>⟨h1,by simpa using h2⟩⟩;rw[Nat.mul_add];simp only[Wd,Ve]
    omega
   ·rw[if_neg hL]at hG;obtain⟨au,av,ax,_,hR⟩:=hG;have kids:∀(m i:Nat),i+m=N.ks.length->∀lo,lo=(if 0 < i then some (N.K.getD (i - 1) .empty) else x.lo)->
      (dA (cW src p w n) ((eW x N).drop i)).1.length<=n * (oF lo x.hi A+1)/\((dA (cW src p w n) ((eW x N).drop i)).2=0->0 < m->1<=oF lo x.hi A/\(dA (cW src p w n) ((eW x N).drop i)).1.length<=n * oF lo x.hi A):=by
     intro m
     induction m with
     | zero =>
      intro i hi lo O;rw[List.drop_of_length_le (by rw[xZ];omega)];simp[dA]
     | succ m ak =>
      intro i hi lo O;obtain⟨k,hk⟩:∃k,N.ks[i]? = some k:=⟨_,Uh (by omega)⟩;rw[JX hk];obtain⟨W,i2⟩:=ih (x.below N i k);have al:(x.below N i k).lo=lo:=by rw[O];rfl
      have an:(x.below N i k).hi=if i < N.K.length then some (N.K.getD i .empty) else x.hi:=rfl;rw[al,an]at W i2;simp only[dA];by_cases ao:m=0
      ·subst ao;rw[if_neg (by omega)]at W i2;rw[List.drop_of_length_le (by rw[xZ];omega)];simp only[dA,VJ];by_cases E:(cW src p w n (x.below N i k)).2=0
       ·rw[if_neg (by simp[E])];exact⟨W,fun _ _=>i2 E⟩
       ·rw[if_pos E];exact⟨W,fun h _=>absurd h E⟩
      ·have ad:i < N.K.length:=by omega
       rw[if_pos ad]at W i2;obtain⟨j1,j2⟩:=ak (i+1) (by omega) _ rfl;rw[if_pos (by omega),Nat.add_sub_cancel]at j1 j2;have hs:N.K[i]? = some (N.K.getD i .empty):=by rw[Uz,Uh ad];rfl
       have ae:=Uy hs;have G:=CL.1 (aj _ ae);have U:EA lo x.hi (N.K.getD i .empty)=true:=by
        refine CL.2 ⟨fun t V=>?_,G.2⟩;rw[O]at V;by_cases h0:0 < i
        ·rw[if_pos h0]at V;injection V with V
         subst V;exact((hR i) _ hs).2.2 _ h0 (by rw[Uz,Uh (by omega)];rfl)
        ·rw[if_neg h0]at V;exact G.1 t V
       have ap:=BU U A;have hmul:n * oF lo (some (N.K.getD i .empty)) A+n * oF (some (N.K.getD i .empty)) x.hi A<=n * oF lo x.hi A:=by rw[<-Nat.mul_add];exact Nat.mul_le_mul_left n ap
       simp only[Nat.mul_add,Ve]at W j1 ⊢;by_cases E:(cW src p w n (x.below N i k)).2=0
       ·rw[if_neg (by simp[E])];obtain⟨i3,i4⟩:=i2 E;refine⟨by simp only[Ug];omega,fun aq _=>?_⟩;obtain⟨j3,j4⟩:=j2 aq (by omega);exact⟨by omega,by simp only[Ug];omega⟩
       ·rw[if_pos E];exact⟨by omega,fun h _=>absurd h E⟩
    obtain⟨q1,q2⟩:=kids N.ks.length 0 (by omega) _ rfl;rw[if_neg (by omega),VC]at q1 q2;have e:(n+1) * oF x.lo x.hi A=n * oF x.lo x.hi A+oF x.lo x.hi A:=Nat.succ_mul _ _;simp only[Ux,Nat.mul_add,Ve]at q1 ⊢;refine⟨by omega,fun E=>?_⟩;obtain⟨q3,q4⟩:=q2 E (by omega);exact⟨q3,by omega⟩
  ·rw[if_pos hg];exact⟨by simp,fun h=>absurd h hg⟩
theorem DE{src:Src}{p w:Int}{A:List BA}(E:∀no,(src no).1=0->∀q∈(src no).2.ps,q.1∈A)(bQ:Nat)(aM:LU):(cZ src p w bQ aM).1.length<=33 * (A.length+1):=by
 unfold cZ
 split
 ·simp
 ·refine Nat.le_trans (FT E 33 _).1 (Nat.mul_le_mul_left 33 ?_);have:=List.countP_le_length (l:=A) (p:=AU (Go.Proofs.YtmapagggnigfpaaGreat.pk.topP bQ aM).lo (Go.Proofs.YtmapagggnigfpaaGreat.pk.topP bQ aM).hi);unfold oF
  omega
structure PageT where
 kind:Nat
 no:Nat
 ver:Nat
 body:BA
def pageC(g:PageT):LV:=[.int .u8 (g.kind:Int),.int .u32 (g.no:Int),.int .u64 (g.ver:Int),.string g.body]
theorem uX(g:PageT):(pageC g).length=4:=rfl
def qS(p w:Int)(g:PageT)(N:NodeT):Prop:=(g.kind=1\/g.kind=2)/\cR p w g.body N/\(N.leaf=true↔g.kind=1)
open Classical in
noncomputable def oR(p w:Int)(g:PageT):Int×NodeT:=if h:∃N,qS p w g N then(0,h.choose) else(8,noNt)
 where noNt:NodeT:=⟨[],[],[]⟩
noncomputable def aY(p w:Int)(L:List PageT):Src:=fun no=>match L.find? (fun g=>g.no==no) with
 | some g=>oR p w g
 | none=>(55,⟨[],[],[]⟩)
theorem sL{p w:Int}{g:PageT}{N:NodeT}(hs:g.body.size<=1099511500)(h:qS p w g N):oR p w g=(0,N):=by
 unfold oR;have E:∃N,qS p w g N:=⟨N,h⟩;rw[dif_pos E];have:=E.choose_spec;rw[this.2.1.uniq hs h.2.1]
theorem nX{p w:Int}{g:PageT}(h:∀N,¬qS p w g N):oR p w g=(8,⟨[],[],[]⟩):=by
 unfold oR;rw[dif_neg fun⟨N,E⟩=>h N E]
 rfl
noncomputable def CQ(p w:Int)(L:List PageT):List BA:=L.flatMap fun g=>(oR p w g).2.ps.map (·.1)
theorem Lr{p w:Int}{L:List PageT}:∀no,(aY p w L no).1=0->∀q∈(aY p w L no).2.ps,q.1∈CQ p w L:=by
 intro no h q E;unfold aY at h E
 cases G:L.find? (fun g=>g.no==no) with
 | none=>rw[G]at h;simp at h
 | some g =>
  rw[G]at E;exact WX.2 ⟨g,List.mem_of_find?_eq_some G,Uu.2 ⟨q,E,rfl⟩⟩
theorem oM{p w:Int}{s:BA}{N:NodeT}(hs:s.size<=1099511500)(h:cR p w s N):N.ps.length<=s.size/\N.K.length<=s.size/\N.ks.length<=s.size:=by
 have U:=h.1.may.good.1;obtain⟨e1,e2,W,e4,V⟩:=U.nat;obtain⟨_,_,E,G,O⟩:=Aq V (jA hs h);rw[VE]at E G O;exact⟨E,G,O⟩
theorem Gg{p w:Int}{g:PageT}(hs:g.body.size<=8192):(oR p w g).2.ps.length<=8192:=by
 by_cases h:∃N,qS p w g N
 ·obtain⟨N,E⟩:=h;rw[sL (by omega) E];have:=(oM (by omega) E.2.1).1;show N.ps.length<=_
  omega
 ·rw[nX fun N E=>h ⟨N,E⟩];simp
theorem EV{p w:Int}:∀{L:List PageT},(∀g∈L,g.body.size<=8192)->(CQ p w L).length<=L.length * 8192
 | [],_=>by simp[CQ]
 | g::L,h=>by
  have E:=EV (p:=p) (w:=w) (L:=L) fun g G=>h g (WL _ G);have O:=Gg (p:=p) (w:=w) (h g (Wr ..));unfold CQ at E ⊢;rw[Vg,Ug,VP,Ux,Nat.succ_mul]
  omega
theorem xG{α:Type}{A B C:List α}{i:Nat}(h:A.length+B.length<=i):(A++B++C)[i]? = C[i - (A.length+B.length)]?:=by
 rw[VN (by rw[Ug];exact h),Ug]
theorem DY{α:Type}{A B C:List α}:((A++B++C).drop A.length).take B.length=B:=by
 rw[Ut,List.drop_left,List.take_left]
def plcC(aw:OA)(lw cw:Nat)(x:Plc):LV:=[.slice aw lw cw,.int .u32 (x.no:Int)]++bc x.sum++[.string (x.lo.getD .empty),.string (x.hi.getD .empty),.bool x.lo.isSome,.bool x.hi.isSome]
theorem dG{aw:OA}{lw cw:Nat}{x:Plc}(hs:x.sum.length=32):(plcC aw lw cw x).length=38:=by
 unfold plcC;simp only[Ug,aJ,hs,Ux,Vl]
section
variable {h:Hp} {b:Nat} {g:ON} {aw:OA} {lw cw:Nat} {x:Plc} (hb:Blk h b g (plcC aw lw cw x)) (hs:x.sum.length=32)
include hb hs
theorem lH:h.cellsAt b 0 38=some ([.slice aw lw cw,.int .u32 (x.no:Int)]++aK .u8 32 (cV x.sum)++[.string (x.lo.getD .empty),.string (x.hi.getD .empty),.bool x.lo.isSome,.bool x.hi.isSome]):=by
 rw[hb.cells (by rw[dG hs];exact Uf _),VC,Uj (by rw[dG hs];exact Uf _),aH hs];rfl
theorem CI:h.cellsAt b 0 1=some [.slice aw lw cw]:=hb.one rfl
theorem MJ:h.cellsAt b 1 1=some [.int .u32 (x.no:Int)]:=hb.one rfl
theorem Oz:h.cellsAt b 2 32=some (aK .u8 32 (cV x.sum)):=by
 rw[hb.cells (by rw[dG hs];omega),aH hs];have:=DY (A:=[.slice aw lw cw,.int .u32 (x.no:Int)]) (B:=bc x.sum) (C:=[.string (x.lo.getD .empty),.string (x.hi.getD .empty),.bool x.lo.isSome,.bool x.hi.isSome]);rw[aJ,hs]at this;exact congrArg some this
theorem MK:h.cellsAt b 34 1=some [.string (x.lo.getD .empty)]:=hb.one (by unfold plcC;rw[xG (by rw[aJ,hs];exact Uf _),aJ,hs];rfl)
theorem MM:h.cellsAt b 35 1=some [.string (x.hi.getD .empty)]:=hb.one (by unfold plcC;rw[xG (by rw[aJ,hs];simp),aJ,hs];rfl)
theorem ML:h.cellsAt b 36 1=some [.bool x.lo.isSome]:=hb.one (by unfold plcC;rw[xG (by rw[aJ,hs];simp),aJ,hs];rfl)
theorem MN:h.cellsAt b 37 1=some [.bool x.hi.isSome]:=hb.one (by unfold plcC;rw[xG (by rw[aJ,hs];simp),aJ,hs];rfl)
end
theorem MT{lo hi:Option BA}{k:BA}:aR (aR lo.isSome (Go.Cn.strLt k (lo.getD .empty)) false) true (aR hi.isSome (aD (Go.Cn.strLt k (hi.getD .empty))) false) = !AU lo hi k:=by
 cases lo <;> cases hi <;> simp[aR,aD,AU]
theorem MS{lo hi:Option BA}{k:BA}:aR (aR lo.isSome (fQ k (lo.getD .empty)) false) true (aR hi.isSome (aD (Go.Cn.strLt k (hi.getD .empty))) false) = !EA lo hi k:=by
 cases lo <;> cases hi <;> simp[aR,aD,EA]
theorem KM{L:List PageT}{no i:Nat}{g:PageT}(hi:L[i]? = some g)(E:g.no=no)(hl:∀j x,j < i->L[j]? = some x->x.no≠no):L.find? (fun g=>g.no==no)=some g:=by
 induction L generalizing i with
 | nil=>simp at hi
 | cons y L G =>
  cases i with
  | zero =>
   simp at hi;subst hi;simp[Wk,E]
  | succ i =>
   have h0:=hl 0 y (by omega) rfl;have hb:(y.no==no)=false:=by rw[beq_eq_false_iff_ne];exact h0
   rw[Wk,hb];exact G (by simpa using hi) fun j x U O=>hl (j+1) x (by omega) (by simpa using O)
theorem KN{L:List PageT}{no:Nat}(hl:∀(j:Nat) x,L[j]? = some x->x.no≠no):L.find? (fun g=>g.no==no)=none:=by
 rw[List.find?_eq_none];intro x E;obtain⟨j,G⟩:=WD E;simpa using hl j x G
end Go.Cn.Pk
namespace Go.Proofs.YtmapagggnigfpaaGreat.pk
open Cn Cn.Pk vc
theorem NG(a1 a2 a3:OA)(l1 c1 l2 c2 l3 c3:Nat)(h:Hp):C 43 [.agg #[.slice a1 l1 c1,.slice a2 l2 c2,.slice a3 l3 c3]] h fun v h'=>v = .int .u8 (if l2=0/\l3=0 then 1 else 2)/\h'=h:=by
 refine uP ?_;refine sv Fp fun wf=>?_;intro O e1;obtain⟨b1,G,n1,U⟩:=aB wf e1;refine⟨a1,l1,c1,a2,l2,c2,a3,l3,c3,⟨rfl,by rw[b1.cells (by simp)];rfl⟩,?_⟩;refine(zN a1 a2 a3 l1 c1 l2 c2 l3 c3 O).mono fun v V ⟨e,e2⟩=>⟨_,e,?_⟩;subst e2;by_cases E:l2=0/\l3=0
 ·rw[if_pos (by simpa using E),if_pos E];exact⟨rfl,G⟩
 ·rw[if_neg (by simpa using E),if_neg E];exact⟨rfl,G⟩
theorem NodeS.lens{h:Hp}{S:NP}{a1 a2 a3:OA}{l1 c1 l2 c2 l3 c3:Nat}{N:NodeT}(x:NodeS h S (.agg #[.slice a1 l1 c1,.slice a2 l2 c2,.slice a3 l3 c3]) N):N.ps.length=l1/\N.K.length=l2/\N.ks.length=l3:=by
 obtain⟨_,_,_,_,_,_,_,_,_,E,⟨_,_,G⟩,⟨_,_,O⟩,⟨_,_,U⟩⟩:=x;injection E with E
 simp only[Wc,Ur,Value.slice.injEq,and_true]at E;obtain⟨⟨_,V,_⟩,⟨_,W,_⟩,_,r3,_⟩:=E;exact⟨by rw[G.len,V],by rw[O.len,W],by rw[U.len,r3]⟩
theorem Sq{p w:Int}(hF:Fr p w){a:OA}{l c:Nat}{gr:ON}{L:List PageT}{h:Hp}(sl:SlT pageC 4 h gr a l c L)(hg:∀y,gr=some y->y < h.next)(ar:∀g∈L,g.body.size<=8192)(hl:L.length<=1000000)(no:Nat):
  C 142 [fr p w,.slice a l c,.int .u32 (no:Int)] h fun v h' =>
   (∃a1 l1 c1 a2 l2 c2 a3 l3 c3,v = .tuple #[.agg #[.slice a1 l1 c1,.slice a2 l2 c2,.slice a3 l3 c3],.int .i64 (aY p w L no).1]/\((aY p w L no).1=0->NodeS h' (fun y=>h.next<=y/\y < h'.next) (.agg #[.slice a1 l1 c1,.slice a2 l2 c2,.slice a3 l3 c3]) (aY p w L no).2/\Short (aY p w L no).2))/\Kept h h':=by
 refine sv Fo fun wf=>?_;have au:=sl.len;intro h1 e1 h2 e2;obtain⟨b1,k1,n1,av⟩:=aB wf e1;obtain⟨b2,k2,n2,ad⟩:=aB av e2;have ae:=k1.trans wf k2 fF;have ax:=Kept.blk k2 b1;have aa:=sl.keep ae fF;have fail:∀(E:Hp) (e:Int),Wf E->Keep (fun y=>h2.next<=y) h2 E->e≠0->(aY p w L no).1=e->∃h':Hp,E.store h1.next 0 [.slice none 0 0,.slice none 0 0,.slice none 0 0]=some h'/\
   ∃(a:OA) (l c:Nat) (a1:OA) (l1 c1:Nat) (a2:OA) (l2 c2:Nat),(aN (some (Addr.mk h1.next 0 none))=true/\h'.cellsAt h1.next 0 3=some [.slice a l c,.slice a1 l1 c1,.slice a2 l2 c2])/\
   (∃x1 m1 d1 x2 U d2 x3 V d3,Value.tuple #[.agg #[.slice a l c,.slice a1 l1 c1,.slice a2 l2 c2],.int .i64 e] = .tuple #[.agg #[.slice x1 m1 d1,.slice x2 U d2,.slice x3 V d3],.int .i64 (aY p w L no).1]/\((aY p w L no).1=0->NodeS h' (fun y=>h.next<=y/\y < h'.next) (.agg #[.slice x1 m1 d1,.slice x2 U d2,.slice x3 V d3]) (aY p w L no).2/\Short (aY p w L no).2))/\Kept h h':=by
  intro E e ba kh he hs;have bo:=kh.blk b2 fun y hy O=>by simp at hy;omega
  obtain⟨h',e',b',k',n',bb⟩:=bo.store (o:=0) (vs:=[.slice none 0 0,.slice none 0 0,.slice none 0 0]) (by simp) rfl;rw[aO (by rfl)]at b';refine⟨h',e',none,0,0,none,0,0,none,0,0,⟨rfl,by rw[b'.cells (by simp)];rfl⟩,⟨_,_,_,_,_,_,_,_,_,by rw[hs],fun h=>absurd (h.symm.trans hs).symm he⟩,(ae.trans wf kh fun y hy O=>by omega).trans wf k' fun y hy O=>by omega⟩
 refine⟨fun vals m E=>∃i:Nat,[.int .i64 (i:Int)]=vals/\m=l - i/\i<=l/\(∀j x,j < i->L[j]? = some x->x.no≠no)/\E=h2,⟨l,0,rfl,rfl,Uk _,fun j x hj=>by omega,rfl⟩,?_⟩;rintro n m E ⟨i,e,rfl,hi,af,rfl⟩;simp only[Ur,Value.int.injEq,true_and,and_true]at e;subst e;by_cases O:bO (i:Int) (aE l)=true
 ·rw[if_pos O];have bf:i < l:=by rw[aC,aF]at O;omega
  obtain⟨g,eb⟩:∃q,L[i]? = some q:=⟨_,Uh (by omega)⟩;have G:a.isSome=true/\bS (i:Int) l:=⟨(aa.get uX eb (j:=0) (m:=1) (by omega)).1,Ui _,by omega⟩;have rd:∀{E:Hp},SlT pageC 4 E gr a l c L->∀j,j < 4->E.cellsAt (blk a) (cI (aA (off a) (i:Int) 4) j) 1=some (((pageC g).drop j).take 1):=fun s j hj=>by
   have:=(s.get uX eb (j:=j) (m:=1) (by omega)).2;have ay:cI (aA (off a) (i:Int) 4) j=off a+i * 4+j:=by unfold cI aA;rw[Uo]
   rw[ay];exact this
  refine⟨G,rfl,(g.no:Int),⟨rfl,rd aa 1 (by omega)⟩,?_⟩;by_cases ac:cP (g.no:Int) (no:Int)=true
  ·rw[if_pos ac];have az:g.no≠no:=by rw[bA]at ac;omega
   refine⟨l - (i+1),by simp only[aI];omega,i+1,?_,rfl,by omega,fun j x hj hx=>?_,rfl⟩
   ·rw[show aG .i64 (i:Int) 1=_ from cN 1 i (by omega)]
   ·by_cases a0:j=i
    ·subst a0;rw[eb]at hx;injection hx with hx;subst hx;exact az
    ·exact af j x (by omega) hx
  ·rw[if_neg ac];have al:g.no=no:=by
    by_cases hq:g.no=no
    ·exact hq
    ·exact absurd (by rw[bA];omega) ac
   have ag:aY p w L no=oR p w g:=by unfold aY;rw[KM eb al af]
   have bg:=ar g (Uy eb);refine⟨G,rfl,(g.kind:Int),⟨rfl,rd aa 0 (by omega)⟩,fun _=>G,fun _=>rfl,(g.kind:Int),fun _=>⟨rfl,rd aa 0 (by omega)⟩,?_⟩;by_cases hk:aR (cP (g.kind:Int) 1) (cP (g.kind:Int) 2) false=true
   ·rw[if_pos hk];rw[bN,bA,bA]at hk;obtain⟨h',e',post⟩:=fail E 8 ad (Keep.refl _ _) (by decide) (by
     rw[ag,nX];rintro N ⟨q,_⟩
     omega)
    exact⟨rfl,h',e',post⟩
   ·rw[if_neg hk];have ak:g.kind=1\/g.kind=2:=by
     rw[bN,bA,bA]at hk
     omega
    intro h3 e3;obtain⟨b3,k3,n3,an⟩:=aB ad e3;refine⟨p,w,⟨rfl,by rw[(Kept.blk k3 ax).cells (by simp)];rfl⟩,G,rfl,g.body,⟨rfl,rd (aa.keep k3 fF) 3 (by omega)⟩,?_⟩;refine(PY p w g.body h3).wf fun v h4 a4 bh ⟨⟨nv,e,ev,⟨x1,m1,d1,x2,U,d2,x3,V,d3,env⟩,a8,ao⟩,k4⟩=>?_;subst env;have a5:=Kept.blk k4 b3;obtain⟨h5,e5,b5,k5,n5,aj⟩:=a5.store (o:=0) (vs:=[.slice x1 m1 d1,.slice x2 U d2,.slice x3 V d3]) (by simp) rfl;rw[aO (by rfl)]at b5;have aj:=aj a4;have a6:Keep (fun y=>E.next<=y) h3 h5:=(k4.mono an (S':=fun y=>E.next<=y) fun _ _ h=>h.elim).trans an k5 fun y hy O=>by omega
    have ah:Keep (fun y=>E.next<=y) E h5:=(k3.mono ad (S':=fun y=>E.next<=y) fun _ _ h=>h.elim).trans ad a6 fF;have ap:=aa.keep ah fun y hy O=>by have:=hg y hy;have:=ae.next;omega
    have r5:h5.cellsAt E.next 0 3=some [.slice x1 m1 d1,.slice x2 U d2,.slice x3 V d3]:=by rw[b5.cells (by simp)];rfl
    refine⟨x1,m1,d1,x2,U,d2,x3,V,d3,e,ev,rfl,h5,e5,x1,m1,d1,x2,U,d2,x3,V,d3,fun _=>⟨rfl,r5⟩,fun _=>G,fun _=>rfl,(g.kind:Int),fun _=>⟨rfl,rd ap 0 (by omega)⟩,(if U=0/\V=0 then 1 else 2),fun _=>NG _ _ _ _ _ _ _ _ _ _,fun _=>⟨rfl,rd ap 0 (by omega)⟩,?_⟩;have bad:(∀N,¬qS p w g N)->(aY p w L no).1=8:=fun hN=>by rw[ag,nX hN]
    rcases ao with ⟨O,_⟩ | ⟨_,he,ac⟩ | ⟨_,he,N,hU,hN⟩
    ·exact absurd hF O
    ·rw[if_pos (by rw[cG,bA];left;omega)];obtain⟨h',e',post⟩:=fail h5 8 aj ah (by decide) (bad fun N hN=>ac N hN.2.1);exact⟨rfl,h',e',post⟩
    ·subst he;obtain⟨q1,q2,q3⟩:=hN.lens;have W:N.leaf=true↔U=0/\V=0:=by rw[<-fG q2 q3,decide_eq_true_eq]
     by_cases ai:(if U=0/\V=0 then(1:Int) else 2)=(g.kind:Int)
     ·rw[if_neg (by rw[cG,bA,bA];rintro(h | h);exact h rfl;exact h ai)];have hP:qS p w g N:=⟨ak,hU,by
       rw[W];by_cases hq:U=0/\V=0
       ·rw[if_pos hq]at ai;exact⟨fun _=>by omega,fun _=>hq⟩
       ·rw[if_neg hq]at ai;exact⟨fun h=>absurd h hq,fun h=>by omega⟩⟩
      have aq:aY p w L no=(0,N):=by rw[ag,sL (by omega) hP]
      have bo:=ah.blk b2 fun y hy O=>by simp at hy;omega
      obtain⟨h6,e6,b6,k6,n6,bi⟩:=bo.store (o:=0) (vs:=[.slice x1 m1 d1,.slice x2 U d2,.slice x3 V d3]) (by simp) rfl;rw[aO (by rfl)]at b6;refine⟨x1,m1,d1,x2,U,d2,x3,V,d3,⟨rfl,r5⟩,rfl,h6,e6,x1,m1,d1,x2,U,d2,x3,V,d3,⟨rfl,by rw[b6.cells (by simp)];rfl⟩,⟨_,_,_,_,_,_,_,_,_,by rw[aq],fun _=>?_⟩,(ae.trans wf ah fun y hy O=>by omega).trans wf k6 fun y hy O=>by omega⟩;rw[aq];have a9:=ae.next;have bj:=k3.next;have bk:=k5.next;have bl:=k6.next;obtain⟨t1,t2,t3⟩:=oM (by omega) hU;exact⟨((hN.keep k5 fun y hy O=>by omega).keep k6 fun y hy O=>by omega).mono fun y hy=>by omega,by show N.ps.length<=_;omega,by show N.K.length<=_;omega,by show N.ks.length<=_;omega⟩
     ·rw[if_pos (by rw[cG,bA,bA];exact .inr ai)];obtain⟨h',e',post⟩:=fail h5 8 aj ah (by decide) (bad fun M hM=>by
       have:=hU.uniq (by omega) hM.2.1;subst this;apply ai;by_cases hq:U=0/\V=0
       ·rw[if_pos hq];have:=hM.2.2.1 (W.2 hq);omega
       ·rw[if_neg hq];rcases ak with h | h
        ·exact absurd (W.1 (hM.2.2.2 h)) hq
        ·omega)
      exact⟨rfl,h',e',post⟩
 ·rw[if_neg O];have a7:i=l:=by
   have:¬i < l:=fun h=>O (by rw[aC,aF];omega)
   omega
  obtain⟨h',e',post⟩:=fail E 55 ad (Keep.refl _ _) (by decide) (by
   unfold aY;rw[KN fun j x hx=>af j x (by rw[a7,<-au];exact(Us.1 hx).1) hx])
  exact⟨rfl,h',e',post⟩
theorem PX{h:Hp}{n0:Nat}{nv:Value}{N:NodeT}(y:NodeAt h n0 nv N)(ae:Short N)(aw:OA)(lw cw:Nat){x:Plc}(hs:x.sum.length=32):
  C 169 [.agg (plcC aw lw cw x).toArray,nv] h fun v h'=>v = .bool (Kk x.lo x.hi N)/\h'=h:=by
 refine uP ?_;obtain⟨a1,l1,c1,a2,l2,c2,a3,l3,c3,rfl,⟨g1,q1,s1⟩,⟨g2,q2,s2⟩,⟨g3,q3,s3⟩⟩:=y;obtain⟨aj,ak,al⟩:=ae;have an:=s1.len;have ao:=s2.len;unfold plcC;rw[<-aH hs];refine sv Bl fun wf=>?_;intro h1 e1 h2 e2;rw[aH hs]at e1;obtain⟨b1,k1,n1,af⟩:=aB wf e1;obtain⟨b2,k2,n2,ap⟩:=aB af e2;have U:=k1.trans wf k2 fF;have b1:Blk h2 h.next (some h.next) (plcC aw lw cw x):=Kept.blk k2 b1;have ag:=s1.keep U fF;have ah:=s2.keep U fF;refine⟨fun vals m hh=>∃i:Nat,[.int .i64 (i:Int)]=vals/\m=l1 - i/\i<=l1/\(N.ps.take i).all (fun q=>AU x.lo x.hi q.1)=true/\hh=h2,⟨l1,0,rfl,rfl,Uk _,rfl,rfl⟩,?_⟩;rintro n m hh ⟨i,e,rfl,hi,V,rfl⟩;simp only[Ur,Value.int.injEq,true_and,and_true]at e;subst e;refine⟨rfl,a1,l1,c1,⟨rfl,b2.one rfl⟩,?_⟩;by_cases W:bO (i:Int) (aE l1)=true
 ·rw[if_pos W];have ai:i < l1:=by rw[aC,aF]at W;omega
  obtain⟨q,eb⟩:∃q,N.ps[i]? = some q:=⟨_,Uh (by omega)⟩;obtain⟨ha,G⟩:=ag.get gZ eb (j:=0) (m:=1) (by omega);have aa:aA (off a1) (i:Int) 2=off a1+i * 2+0:=by unfold aA;rw[Uo];omega
  refine⟨rfl,a1,l1,c1,⟨rfl,b2.one rfl⟩,⟨ha,Ui _,by omega⟩,rfl,q.1,⟨rfl,by rw[aa];exact G⟩,rfl,x.lo.isSome,⟨rfl,ML b1 hs⟩,fun _=>rfl,x.lo.getD .empty,fun _=>⟨rfl,MK b1 hs⟩,fun _=>rfl,x.hi.isSome,fun _=>⟨rfl,MN b1 hs⟩,fun _=>rfl,x.hi.getD .empty,fun _=>⟨rfl,MM b1 hs⟩,?_⟩;rw[MT];by_cases E:AU x.lo x.hi q.1=true
  ·rw[if_neg (by rw[E];simp)];refine⟨l1 - (i+1),by simp only[aI];omega,i+1,?_,rfl,by omega,uH eb V E,rfl⟩;rw[show aG .i64 (i:Int) 1=_ from cN 1 i (by omega)]
  ·rw[if_pos (by simpa using E)];have:N.ps.all (fun q=>AU x.lo x.hi q.1)=false:=Cv eb (by simpa using E);refine⟨?_,U⟩;unfold Kk;rw[this];rfl
 ·rw[if_neg W];have ac:i=l1:=by
   have:¬i < l1:=fun h=>W (by rw[aC,aF];omega)
   omega
  subst ac;rw[Uj (by omega)]at V;refine⟨fun vals m hz=>∃i:Nat,[.int .i64 (i:Int)]=vals/\m=l2 - i/\i<=l2/\(N.K.take i).all (EA x.lo x.hi)=true/\hz=hh,⟨l2,0,rfl,rfl,Uk _,rfl,rfl⟩,?_⟩;rintro n m hz ⟨i,e,rfl,hi,O,rfl⟩;simp only[Ur,Value.int.injEq,true_and,and_true]at e;subst e;refine⟨rfl,a2,l2,c2,⟨rfl,b2.one rfl⟩,?_⟩;by_cases W:bO (i:Int) (aE l2)=true
  ·rw[if_pos W];have ai:i < l2:=by rw[aC,aF]at W;omega
   obtain⟨q,eb⟩:∃q,N.K[i]? = some q:=⟨_,Uh (by omega)⟩;obtain⟨ha,G⟩:=ah.get dV eb (j:=0) (m:=1) (by omega);have aa:aA (off a2) (i:Int) 1=off a2+i * 1+0:=by unfold aA;rw[Uo];omega
   have ad:a2.isSome=true/\bS (i:Int) l2:=⟨ha,Ui _,by omega⟩;have rq:hz.cellsAt (blk a2) (aA (off a2) (i:Int) 1) 1=some [.string q]:=by rw[aa];exact G
   refine⟨rfl,x.lo.isSome,⟨rfl,ML b1 hs⟩,fun _=>rfl,a2,l2,c2,fun _=>⟨rfl,b2.one rfl⟩,fun _=>ad,q,fun _=>⟨rfl,rq⟩,fun _=>rfl,x.lo.getD .empty,fun _=>⟨rfl,MK b1 hs⟩,fun _=>rfl,x.hi.isSome,fun _=>⟨rfl,MN b1 hs⟩,fun _=>rfl,a2,l2,c2,fun _=>⟨rfl,b2.one rfl⟩,fun _=>ad,q,fun _=>⟨rfl,rq⟩,fun _=>rfl,x.hi.getD .empty,fun _=>⟨rfl,MM b1 hs⟩,?_⟩;rw[MS];by_cases E:EA x.lo x.hi q=true
   ·rw[if_neg (by rw[E];simp)];refine⟨l2 - (i+1),by simp only[aI];omega,i+1,?_,rfl,by omega,uH eb O E,rfl⟩;rw[show aG .i64 (i:Int) 1=_ from cN 1 i (by omega)]
   ·rw[if_pos (by simpa using E)];have:N.K.all (EA x.lo x.hi)=false:=Cv eb (by simpa using E);refine⟨?_,U⟩;unfold Kk;rw[this,Bool.and_false]
  ·rw[if_neg W];have ac:i=l2:=by
    have:¬i < l2:=fun h=>W (by rw[aC,aF];omega)
    omega
   subst ac;rw[Uj (by omega)]at O;refine⟨?_,U⟩;unfold Kk;rw[V,O];rfl
open Classical in
theorem Rl{h:Hp}{n0:Nat}{nv:Value}{N:NodeT}(y:NodeAt h n0 nv N)(W:Short N){p w:Int}(hw:w.toNat<=32)(aw:OA)(lw cw:Nat){x:Plc}(hs:x.sum.length=32):
  C 143 [.agg (plcC aw lw cw x).toArray,fr p w,nv] h fun v h'=>v = .bool (decide (qT p w x.sum x.lo x.hi N))/\h'=h:=by
 refine uP ?_;have y0:=y;obtain⟨a1,l1,c1,a2,l2,c2,a3,l3,c3,rfl,⟨g1,q1,s1⟩,⟨g2,q2,s2⟩,⟨g3,q3,s3⟩⟩:=y;have aa:=W;obtain⟨ar,au,av⟩:=W;have ax:=s1.len;have aj:=s2.len;have ak:=s3.len;have ep:plcC aw lw cw x=[.slice aw lw cw,.int .u32 (x.no:Int)]++aK .u8 32 (cV x.sum)++[.string (x.lo.getD .empty),.string (x.hi.getD .empty),.bool x.lo.isSome,.bool x.hi.isSome]:=by rw[aH hs];rfl
 rw[ep];refine sv DR fun wf=>?_;intro h1 e1 h2 e2 V e3;rw[<-ep]at e1;obtain⟨b1,k1,n1,al⟩:=aB wf e1;obtain⟨b2,k2,n2,an⟩:=aB al e2;obtain⟨b3,k3,n3,ac⟩:=aB an e3;have ad:=(k1.trans wf k2 fF).trans wf k3 fF;have ao:=Kept.blk k3 (Kept.blk k2 b1);have ap:=Kept.blk k3 b2;refine⟨p,w,⟨rfl,by rw[ap.cells (by simp)];rfl⟩,a1,l1,c1,a2,l2,c2,a3,l3,c3,⟨rfl,by rw[b3.cells (by simp)];rfl⟩,?_⟩;have y3:=y0.keep ad fF;refine(Ei y3 p w (by omega) (by omega) (by omega)).mono fun v h' ⟨⟨d,D,e,hm,O,aq⟩,eh⟩=>?_;subst eh;have E:D.length=32:=by
  by_cases G:d=0
  ·rw[O G];exact gA hw _
  ·rw[aq G];exact bI
 refine⟨cV D,d,by rw[aH E];exact e,?_⟩;intro h4 e4;rw[dU]at e4;obtain⟨b4,k4,n4,ay⟩:=aB ac e4;obtain⟨h5,e5,b5,k5,n5,az⟩:=b4.store (o:=0) (vs:=bc D) (by rw[aJ,aJ,E,bI];exact Uf _) (aZ _);rw[aO (by rw[aJ,aJ,E,bI])]at b5;have U:Kept h' h5:=k4.trans ac k5 fun y hy hc=>by omega
 have ae:=ad.trans wf U fF;have af:=Kept.blk U ao;have ag:=Kept.blk U b3;have y5:=y0.keep ae fF;have ah:h5.cellsAt h2.next 0 3=some [.slice a1 l1 c1,.slice a2 l2 c2,.slice a3 l3 c3]:=by rw[ag.cells (by simp)];rfl
 have ai:=PX y5 aa aw lw cw hs;rw[ep]at ai;refine⟨rfl,h5,by rw[aH E];exact e5,cV D,fun _=>⟨rfl,cH b5 E⟩,fun _=>rfl,cV x.sum,fun _=>⟨rfl,Oz af hs⟩,a1,l1,c1,a2,l2,c2,a3,l3,c3,fun _=>⟨rfl,ah⟩,decide (l2=0/\l3=0),fun _=>zN _ _ _ _ _ _ _ _ _ _,fun _=>rfl,a1,l1,c1,fun _=>⟨rfl,ag.one rfl⟩,aw,lw,cw,(x.no:Int),cV x.sum,_,_,_,_,fun _=>⟨rfl,lH af hs⟩,a1,l1,c1,a2,l2,c2,a3,l3,c3,fun _=>⟨rfl,ah⟩,Kk x.lo x.hi N,fun _=>ai,?_,ae⟩;congr 1;rw[aH E,aH hs,fG aj ak,Va,decide_eq_true_eq,bN,bN,bN,cG,aV,gR,aS,aF,jE _ _ (by rw[E,hs])];unfold qT
 constructor
 ·rintro⟨⟨⟨h1,h2⟩,V⟩,h4⟩;subst h1;refine⟨hm,by rw[<-O rfl];exact h2,fun⟨q1,q2⟩=>?_,h4⟩;rcases V with V | V
  ·rw[q1]at V;simp at V
  ·omega
 ·rintro⟨q1,q2,q3,q4⟩;have G:d=0:=hm.uniq q1;refine⟨⟨⟨G,by rw[O G];exact q2⟩,?_⟩,q4⟩;by_cases hL:N.leaf=true
  ·right
   have:N.ps.length≠0:=fun hc=>q3 ⟨hL,hc⟩
   omega
  ·left;simpa using hL
def dtC(p w:Int)(aL:OA)(lL cL:Nat)(bQ:Nat)(aM:LU)(dS ver:Int):LV:=[.int .i64 p,.int .i64 w,.slice aL lL cL]++lD bQ aM dS ver
structure DTree(h:Hp)(n0 t:Nat)(p w:Int)(L:List PageT)(bQ:Nat)(aM:LU):Prop where
 ex:∃aL lL cL dS ver gr,t < n0/\Blk h t (some t) (dtC p w aL lL cL bQ aM dS ver)/\SlT pageC 4 h gr aL lL cL L/\(∀y,gr=some y->y < n0)
 fr:Fr p w
 rs:aM.length=32
 bd:∀g∈L,g.body.size<=8192
 ln:L.length<=1000000
 no:bQ<=4294967295
theorem DTree.keep{h h':Hp}{n0 t:Nat}{p w:Int}{L:List PageT}{bQ:Nat}{aM:LU}{S:NP}(x:DTree h n0 t p w L bQ aM)(k:Keep S h h')(G:∀y,y < n0->¬S y):DTree h' n0 t p w L bQ aM:=by
 obtain⟨⟨aL,lL,cL,dS,ver,gr,O,V,W,U⟩,r1,r2,r3,r4,r5⟩:=x;exact⟨⟨aL,lL,cL,dS,ver,gr,O,k.blk V fun y E=>by simp at E;subst E;exact G _ O,W.keep k fun y E=>G y (U y E),U⟩,r1,r2,r3,r4,r5⟩
set_option maxRecDepth 20000 in
theorem Sv{h:Hp}{n0 t:Nat}{p w:Int}{L:List PageT}{bQ:Nat}{aM:LU}(dt:DTree h n0 t p w L bQ aM)(au:n0<=h.next)(aw:OA)(cw:Nat){x:Plc}(hs:x.sum.length=32):
  C 112 [pt t,.agg (plcC aw x.way.length cw x).toArray] h fun v h' =>
   (∃a1 l1 c1 a2 l2 c2 a3 l3 c3,v = .tuple #[.agg #[.slice a1 l1 c1,.slice a2 l2 c2,.slice a3 l3 c3],.int .i64 (iW (aY p w L) p w x)]/\(iW (aY p w L) p w x=0->NodeS h' (fun y=>h.next<=y/\y < h'.next) (.agg #[.slice a1 l1 c1,.slice a2 l2 c2,.slice a3 l3 c3]) (aY p w L x.no).2/\Short (aY p w L x.no).2))/\Kept h h':=by
 obtain⟨⟨aL,lL,cL,dS,ver,gr,q1,q2,q3,q4⟩,hF,ah,ak,al,av⟩:=dt;obtain⟨ax,ay,az,a0,ai⟩:=hF.nat;have ep:plcC aw x.way.length cw x=[.slice aw x.way.length cw,.int .u32 (x.no:Int)]++aK .u8 32 (cV x.sum)++[.string (x.lo.getD .empty),.string (x.hi.getD .empty),.bool x.lo.isSome,.bool x.hi.isSome]:=by rw[aH hs];rfl
 have an:∀hh:Hp,∀nv,C 143 [.agg (plcC aw x.way.length cw x).toArray,fr p w,nv] hh=C 143 [.agg (Array.mk ([.slice aw x.way.length cw,.int .u32 (x.no:Int)]++aK .u8 32 (cV x.sum)++[.string (x.lo.getD .empty),.string (x.hi.getD .empty),.bool x.lo.isSome,.bool x.hi.isSome])),fr p w,nv] hh:=fun hh nv=>by rw[ep]
 rw[ep];refine sv JF fun wf=>?_;intro h1 e1 h2 e2;rw[<-ep]at e1;obtain⟨b1,k1,n1,ao⟩:=aB wf e1;obtain⟨b2,k2,n2,aa⟩:=aB ao e2;have ac:=k1.trans wf k2 fF;have af:=Kept.blk k2 b1;have fin:∀(hh:Hp) (e:Int) (O:OA) (U V:Nat) (W:OA) (m2 d2:Nat) (x3:OA) (m3 d3:Nat),Wf hh->Keep (fun y=>h2.next<=y) h2 hh->iW (aY p w L) p w x=e->(e=0->NodeS hh (fun y=>h2.next<=y/\y < hh.next) (.agg #[.slice O U V,.slice W m2 d2,.slice x3 m3 d3]) (aY p w L x.no).2/\Short (aY p w L x.no).2)->
   ∃h':Hp,hh.store h1.next 0 [.slice O U V,.slice W m2 d2,.slice x3 m3 d3]=some h'/\
   ∃(a:OA) (l c:Nat) (a1:OA) (l1 c1:Nat) (a2:OA) (l2 c2:Nat),(aN (some (Addr.mk h1.next 0 none))=true/\h'.cellsAt h1.next 0 3=some [.slice a l c,.slice a1 l1 c1,.slice a2 l2 c2])/\
   (∃O U V W m2 d2 x3 m3 d3,Value.tuple #[.agg #[.slice a l c,.slice a1 l1 c1,.slice a2 l2 c2],.int .i64 e] = .tuple #[.agg #[.slice O U V,.slice W m2 d2,.slice x3 m3 d3],.int .i64 (iW (aY p w L) p w x)]/\(iW (aY p w L) p w x=0->NodeS h' (fun y=>h.next<=y/\y < h'.next) (.agg #[.slice O U V,.slice W m2 d2,.slice x3 m3 d3]) (aY p w L x.no).2/\Short (aY p w L x.no).2))/\Kept h h':=by
  intro hh e O U V W m2 d2 x3 m3 d3 a4 kh he hx;have bo:=kh.blk b2 fun y G hc=>by simp at G;omega
  obtain⟨h',e',b',k',n',a5⟩:=bo.store (o:=0) (vs:=[.slice O U V,.slice W m2 d2,.slice x3 m3 d3]) (by simp) rfl;rw[aO (by rfl)]at b';refine⟨h',e',O,U,V,W,m2,d2,x3,m3,d3,⟨rfl,by rw[b'.cells (by simp)];rfl⟩,⟨_,_,_,_,_,_,_,_,_,by rw[he],fun h0=>?_⟩,(ac.trans wf kh fun y G hc=>by omega).trans wf k' fun y G hc=>by omega⟩;obtain⟨z1,z2⟩:=hx (by omega);exact⟨(z1.keep k' fun y G hc=>by omega).mono fun y G=>by have:=ac.next;omega,z2⟩
 have E:iW (aY p w L) p w x=if 33<=x.way.length then 8 else if(aY p w L x.no).1≠0 then(aY p w L x.no).1 else @ite Int (qT p w x.sum x.lo x.hi (aY p w L x.no).2) (Classical.propDecidable _) 0 8:=rfl;refine⟨rfl,aw,x.way.length,cw,⟨rfl,CI af hs⟩,?_⟩;by_cases hd:33<=x.way.length
 ·rw[if_pos (by rw[cK,aF];omega)];rw[if_pos hd]at E;obtain⟨h',e',post⟩:=fin h2 8 none 0 0 none 0 0 none 0 0 aa (Keep.refl _ _) E fun h=>by omega
  exact⟨rfl,h',e',post⟩
 ·rw[if_neg (by rw[cK,aF];omega)];rw[if_neg hd]at E;intro h3 e3;obtain⟨b3,k3,n3,a6⟩:=aB aa e3;have ag:=ac.trans wf k3 fF;have t3:=Kept.blk ag q2;have ar:=ag.next;refine⟨rfl,rfl,p,w,⟨rfl,?_⟩,rfl,rfl,aL,lL,cL,⟨rfl,t3.one rfl⟩,rfl,(x.no:Int),⟨rfl,MJ (Kept.blk k3 af) hs⟩,?_⟩
  ·rw[t3.cells (by unfold dtC;rw[Ug,eO ah];simp)];rfl
  refine(Sq hF (q3.keep ag fF) (fun y G=>by have:=q4 y G;omega) ak al x.no).wf fun v h4 ap a7 ⟨⟨O,U,V,W,m2,d2,x3,m3,d3,ev,hx⟩,k4⟩=>⟨O,U,V,W,m2,d2,x3,m3,d3,_,ev,rfl,?_⟩;obtain⟨h5,e5,b5,k5,n5,ad⟩:=(Kept.blk k4 b3).store (o:=0) (vs:=[.slice O U V,.slice W m2 d2,.slice x3 m3 d3]) (by simp) rfl;rw[aO (by rfl)]at b5;have ad:=ad ap;have ae:Keep (fun y=>h2.next<=y) h2 h5:=((k3.mono aa (S':=fun y=>h2.next<=y) fun _ _ h=>h.elim).trans aa k4 fun _ _ h=>h.elim).trans aa k5 fun y G hc=>by omega
  refine⟨h5,e5,?_⟩;by_cases hz:(aY p w L x.no).1=0
  ·rw[if_neg (by rw[bA];simpa using hz)];rw[if_neg (by simpa using hz)]at E;obtain⟨hN,hS⟩:=hx hz;have t5:=ae.blk (Kept.blk ac q2) fun y G hc=>by simp at G;have:=ac.next;omega
   have aq:=ae.blk af fun y G hc=>by simp at G;omega
   have r5:h5.cellsAt h2.next 0 3=some [.slice O U V,.slice W m2 d2,.slice x3 m3 d3]:=by rw[b5.cells (by simp)];rfl
   refine⟨aw,x.way.length,cw,(x.no:Int),cV x.sum,_,_,_,_,⟨rfl,lH aq hs⟩,rfl,rfl,p,w,⟨rfl,?_⟩,O,U,V,W,m2,d2,x3,m3,d3,⟨rfl,r5⟩,?_⟩
   ·rw[t5.cells (by unfold dtC;rw[Ug,eO ah];simp)];rfl
   have aj:=hN.keep k5 fun y G hc=>by omega
   have hh:=Rl (aj.at (n0:=h4.next) fun y G=>G.2) hS ai aw x.way.length cw hs (p:=p) (w:=w) (x:=x);rw[an]at hh;refine hh.mono fun v h6 ⟨e,e6⟩=>⟨_,e,?_⟩;subst e6;by_cases hH:qT p w x.sum x.lo x.hi (aY p w L x.no).2
   ·rw[if_neg (by simp[aD,hH])];rw[if_pos hH]at E;obtain⟨h',e',post⟩:=fin h6 0 O U V W m2 d2 x3 m3 d3 ad ae E fun _=>⟨aj.mono fun y G=>by have:=k5.next;have:=k3.next;omega,hS⟩;exact⟨O,U,V,W,m2,d2,x3,m3,d3,⟨rfl,r5⟩,rfl,h',e',post⟩
   ·rw[if_pos (by simp[aD,hH])];rw[if_neg hH]at E;obtain⟨h',e',post⟩:=fin h6 8 none 0 0 none 0 0 none 0 0 ad ae E fun h=>by omega
    exact⟨rfl,h',e',post⟩
  ·rw[if_pos (by rw[bA];exact hz)];rw[if_pos hz]at E;obtain⟨h',e',post⟩:=fin h5 _ none 0 0 none 0 0 none 0 0 ad ae E fun h=>absurd h hz;exact⟨rfl,h',e',post⟩
end Go.Proofs.YtmapagggnigfpaaGreat.pk
namespace Go.Cn.Pk
def MU:Plc:=⟨[],0,bH,none,none⟩
theorem MF:[Value.slice none 0 0,Value.int IntKind.u32 (Int.ofNat 0),Value.int IntKind.u8 (Int.ofNat 0),Value.int IntKind.u8 (Int.ofNat 0),Value.int IntKind.u8 (Int.ofNat 0),Value.int IntKind.u8 (Int.ofNat 0),Value.int IntKind.u8 (Int.ofNat 0),Value.int IntKind.u8 (Int.ofNat 0),Value.int IntKind.u8 (Int.ofNat 0),Value.int IntKind.u8 (Int.ofNat 0),Value.int IntKind.u8 (Int.ofNat 0),Value.int IntKind.u8 (Int.ofNat 0),Value.int IntKind.u8 (Int.ofNat 0),Value.int IntKind.u8 (Int.ofNat 0),Value.int IntKind.u8 (Int.ofNat 0),Value.int IntKind.u8 (Int.ofNat 0),Value.int IntKind.u8 (Int.ofNat 0),Value.int IntKind.u8 (Int.ofNat 0),Value.int IntKind.u8 (Int.ofNat 0),Value.int IntKind.u8 (Int.ofNat 0),Value.int IntKind.u8 (Int.ofNat 0),Value.int IntKind.u8 (Int.ofNat 0),Value.int IntKind.u8 (Int.ofNat 0),Value.int IntKind.u8 (Int.ofNat 0),Value.int IntKind.u8 (Int.ofNat 0),Value.int IntKind.u8 (Int.ofNat 0),Value.int IntKind.u8 (Int.ofNat 0),Value.int IntKind.u8 (Int.ofNat 0),Value.int IntKind.u8 (Int.ofNat 0),Value.int IntKind.u8 (Int.ofNat 0),Value.int IntKind.u8 (Int.ofNat 0),Value.int IntKind.u8 (Int.ofNat 0),Value.int IntKind.u8 (Int.ofNat 0),Value.int IntKind.u8 (Int.ofNat 0),Value.string (ByteArray.mk (Array.mk [])),Value.string (ByteArray.mk (Array.mk [])),Value.bool false,Value.bool false]=plcC none 0 0 MU:=rfl
theorem MI(aw:OA)(lw cw:Nat)(x:Plc)(a:OA)(l c:Nat):(plcC aw lw cw x).set 0 (.slice a l c)=plcC a l c x:=rfl
theorem MH(aw:OA)(lw cw:Nat)(x:Plc)(no:Nat):(plcC aw lw cw x).set 1 (.int .u32 (no:Int))=plcC aw lw cw {x with no:=no}:=rfl
theorem MG(aw:OA)(lw cw:Nat)(x:Plc)(d:LU)(hs:x.sum.length=32)(E:d.length=32):splice (plcC aw lw cw x) 2 (bc d)=plcC aw lw cw {x with sum:=d}:=by
 unfold splice plcC;rw[aJ,E];have G:(([Value.slice aw lw cw,.int .u32 (x.no:Int)]++bc x.sum++[Value.string (x.lo.getD .empty),.string (x.hi.getD .empty),.bool x.lo.isSome,.bool x.hi.isSome]).take 2)=[Value.slice aw lw cw,.int .u32 (x.no:Int)]:=by
  rw[Ut];rfl
 have O:(([Value.slice aw lw cw,.int .u32 (x.no:Int)]++bc x.sum++[Value.string (x.lo.getD .empty),.string (x.hi.getD .empty),.bool x.lo.isSome,.bool x.hi.isSome]).drop (2+32))=[Value.string (x.lo.getD .empty),.string (x.hi.getD .empty),.bool x.lo.isSome,.bool x.hi.isSome]:=by
  rw[List.drop_left' (by simp[aJ,hs])]
 rw[G,O]
theorem Dy(aw:OA)(lw cw:Nat)(x:Plc)(hs:x.sum.length=32)(i:Nat)(v:Value):(plcC aw lw cw x).set (34+i) v=[.slice aw lw cw,.int .u32 (x.no:Int)]++bc x.sum++([Value.string (x.lo.getD .empty),.string (x.hi.getD .empty),.bool x.lo.isSome,.bool x.hi.isSome].set i v):=by
 unfold plcC;rw[Wb _ _ (by simp[aJ,hs])];congr 2;simp[aJ,hs]
theorem PA(aw:OA)(lw cw:Nat)(x:Plc)(hs:x.sum.length=32)(t:BA):((plcC aw lw cw x).set 34 (.string t)).set 36 (.bool true)=plcC aw lw cw {x with lo:=some t}:=by
 rw[show(34:Nat)=34+0 from rfl,Dy aw lw cw x hs,Wb _ _ (by simp[aJ,hs])];simp[aJ,hs,plcC]
theorem Ho(aw:OA)(lw cw:Nat)(x:Plc)(hs:x.sum.length=32)(t:BA):((plcC aw lw cw x).set 35 (.string t)).set 37 (.bool true)=plcC aw lw cw {x with hi:=some t}:=by
 rw[show(35:Nat)=34+1 from rfl,Dy aw lw cw x hs,Wb _ _ (by simp[aJ,hs])];simp[aJ,hs,plcC]
theorem uV(aw:OA)(lw cw:Nat)(x:Plc):(plcC aw lw cw x).all isCell=true:=by
 unfold plcC;rw[Vt,Vt,aZ];rfl
theorem yP{α β:Type}{f:α->List β×Int}:∀{L:List α} {i:Nat} {y:α},L[i]? = some y->(dA f (L.take i)).2=0->dA f (L.take (i+1))=((dA f (L.take i)).1++(f y).1,(f y).2)
 | [],i,y,h,h0=>by simp at h
 | z::L,0,y,h,h0=>by
  simp at h;subst h;simp only[Wa,Vn,dA];by_cases E:(f z).2=0
  ·rw[if_neg (by simp[E])];simp[E]
  ·rw[if_pos E];rfl
 | z::L,i+1,y,h,h0=>by
  rw[Vd]at h;simp only[Wa,dA]at h0 ⊢;by_cases E:(f z).2≠0
  ·rw[if_pos E]at h0;exact absurd h0 E
  ·rw[if_neg E]at h0 ⊢;rw[if_neg E,yP h h0];simp
theorem ER{α β:Type}{f:α->List β×Int}:∀(L:List α) (i:Nat),(dA f (L.take i)).1.length<=(dA f L).1.length
 | [],i=>by simp
 | z::L,0=>by simp[dA]
 | z::L,i+1=>by
  simp only[Wa,dA];by_cases E:(f z).2≠0
  ·rw[if_pos E,if_pos E];exact Uf _
  ·rw[if_neg E,if_neg E];have:=ER (f:=f) L i;simp only[Ug]
   omega
structure SpV where
 aw:OA
 lw:Nat
 cw:Nat
 no:Nat
 a1:OA
 l1:Nat
 c1:Nat
 a2:OA
 l2:Nat
 c2:Nat
 a3:OA
 l3:Nat
 c3:Nat
def QI(s:SpV):LV:=[.slice s.aw s.lw s.cw,.int .u32 (s.no:Int),.slice s.a1 s.l1 s.c1,.slice s.a2 s.l2 s.c2,.slice s.a3 s.l3 s.c3]
theorem Bv(s:SpV):(QI s).length=5:=rfl
end Go.Cn.Pk
namespace Go.Proofs.YtmapagggnigfpaaGreat.pk
open Cn Cn.Pk vc
abbrev SpV.nd(s:SpV):Value:=.agg #[.slice s.a1 s.l1 s.c1,.slice s.a2 s.l2 s.c2,.slice s.a3 s.l3 s.c3]
def lE(h:Hp)(S:NP)(vs:List SpV)(Ns:List NodeT):Prop:=vs.length=Ns.length/\∀(i:Nat) s N,vs[i]? = some s->Ns[i]? = some N->NodeS h S (SpV.nd s) N/\Short N
theorem lE.keep{h h':Hp}{S S0:NP}{vs:List SpV}{Ns:List NodeT}(x:lE h S vs Ns)(k:Keep S0 h h')(G:∀y,S y->¬S0 y):lE h' S vs Ns :=
 ⟨x.1,fun i s N hs E=>⟨(x.2 i s N hs E).1.keep k G,(x.2 i s N hs E).2⟩⟩
theorem lE.mono{h:Hp}{S S':NP}{vs:List SpV}{Ns:List NodeT}(x:lE h S vs Ns)(G:∀y,S y->S' y):lE h S' vs Ns :=
 ⟨x.1,fun i s N hs E=>⟨(x.2 i s N hs E).1.mono G,(x.2 i s N hs E).2⟩⟩
theorem lE.snoc{h:Hp}{S:NP}{vs:List SpV}{Ns:List NodeT}(x:lE h S vs Ns){s:SpV}{N:NodeT}(U:NodeS h S (SpV.nd s) N)(hs:Short N):lE h S (vs++[s]) (Ns++[N]):=by
 refine⟨by rw[Ug,Ug,x.1];rfl,fun i V W E G=>?_⟩;by_cases hi:i < vs.length
 ·rw[VQ hi]at E;rw[VQ (by rw[<-x.1];exact hi)]at G;exact x.2 i V W E G
 ·rw[VN (by omega)]at E;rw[VN (by rw[<-x.1];omega),<-x.1]at G
  cases O:i - vs.length with
  | zero =>
   rw[O]at E G;simp at E G;subst E;subst G;exact⟨U,hs⟩
  | succ j=>rw[O]at E;simp at E
theorem Tx{h:Hp}{n0 t:Nat}{p w:Int}{L:List PageT}{bQ:Nat}{aM:LU}(U:DTree h n0 t p w L bQ aM):C 89 [pt t] h fun v h'=>v = .agg (plcC none 0 0 (topP bQ aM)).toArray/\Kept h h':=by
 obtain⟨⟨aL,lL,cL,dS,ver,gr,q1,V,q3,q4⟩,hF,E,W,aa,ac⟩:=U;refine sv JD fun wf=>?_;intro h1 e1;rw[MF]at e1;obtain⟨b1,O,n1,ad⟩:=aB wf e1;have t1:=Kept.blk O V;have G:MU.sum.length=32:=rfl;have dN:(topP bQ aM).sum.length=32:=E;have es:([Value.slice none 0 0,Value.int .u32 (bQ:Int)]++aK .u8 32 (cV aM)++[Value.string (ByteArray.mk (Array.mk [])),Value.string (ByteArray.mk (Array.mk [])),Value.bool false,Value.bool false])=plcC none 0 0 (topP bQ aM):=by rw[aH E];rfl
 obtain⟨h2,e2,b2,k2,n2,ae⟩:=b1.store (o:=0) (vs:=plcC none 0 0 (topP bQ aM)) (by rw[dG dN,dG G];exact Uf _) (uV _ _ _ _);rw[aO (by rw[dG dN,dG G])]at b2;refine⟨rfl,rfl,rfl,(bQ:Int),⟨rfl,t1.one rfl⟩,rfl,rfl,rfl,cV aM,⟨rfl,?_⟩,rfl,h2,by rw[es];exact e2,none,0,0,(bQ:Int),cV aM,_,_,_,_,⟨rfl,lH b2 dN⟩,?_,O.trans wf k2 fun y hy hc=>by omega⟩
 ·rw[t1.cells (by unfold dtC;rw[Ug,eO E];simp),aH E];have:=DY (A:=[Value.int .i64 p,.int .i64 w,.slice aL lL cL,.int .u32 (bQ:Int)]) (B:=bc aM) (C:=[.int .u64 dS,.int .u64 ver]);rw[aJ,E]at this;exact congrArg some this
 ·have:plcC none 0 0 (topP bQ aM)=[Value.slice none 0 0,.int .u32 (bQ:Int)]++aK .u8 32 (cV aM)++[.string ((topP bQ aM).lo.getD .empty),.string ((topP bQ aM).hi.getD .empty),.bool (topP bQ aM).lo.isSome,.bool (topP bQ aM).hi.isSome]:=by rw[aH E];rfl
  rw[this]
set_option maxRecDepth 20000 in
theorem Ro{h:Hp}{S:NP}{aw:OA}{cw:Nat}{x:Plc}(hs:x.sum.length=32){gw:ON}(sw:SlT intc 1 h gw aw x.way.length cw x.way)(cr:∀y,gw=some y->y < h.next)(du:x.way.length<=1000){a1 a2 a3:OA}{l1 c1 l2 c2 l3 c3:Nat}{N:NodeT}
  (nd:NodeS h S (.agg #[.slice a1 l1 c1,.slice a2 l2 c2,.slice a3 l3 c3]) N) (b6:∀y,S y->y < h.next) (ct:Short N) {i:Nat} {k:KidT} (hk:N.ks[i]? = some k) (dv:N.K.length+1=N.ks.length) :
  C 113 [.agg (plcC aw x.way.length cw x).toArray,.agg #[.slice a1 l1 c1,.slice a2 l2 c2,.slice a3 l3 c3],.int .i64 (i:Int)] h fun v h' =>
   (∃ap aq ar,v = .agg (plcC ap (x.below N i k).way.length aq (x.below N i k)).toArray/\SlT intc 1 h' ar ap (x.below N i k).way.length aq (x.below N i k).way/\(∀y,ar=some y->h.next<=y/\y < h'.next))/\Kept h h':=by
 have hlen:=nd.lens;obtain⟨dw,dx,cu⟩:=hlen;obtain⟨y1,m1,d1,y2,m2,d2,y3,m3,d3,e,⟨g1,q1,s1⟩,⟨g2,q2,s2⟩,⟨g3,q3,s3⟩⟩:=nd;injection e with e
 simp only[Wc,Ur,Value.slice.injEq,and_true]at e;obtain⟨⟨rfl,rfl,rfl⟩,⟨rfl,rfl,rfl⟩,rfl,rfl,rfl⟩:=e;obtain⟨dz,d4,d5⟩:=ct;have d6:i < l3:=by rw[<-cu];exact(Us.1 hk).1
 have ep:plcC aw x.way.length cw x=[.slice aw x.way.length cw,.int .u32 (x.no:Int)]++aK .u8 32 (cV x.sum)++[.string (x.lo.getD .empty),.string (x.hi.getD .empty),.bool x.lo.isSome,.bool x.hi.isSome]:=by rw[aH hs];rfl
 rw[ep];refine sv DU fun wf=>?_;intro h1 e1 h2 e2 h3 e3;rw[<-ep]at e1;rw[MF]at e3;obtain⟨b1,k1,n1,cv⟩:=aB wf e1;obtain⟨b2,k2,n2,cy⟩:=aB cv e2;obtain⟨b3,k3,n3,an⟩:=aB cy e3;have au:=(k1.trans wf k2 fF).trans wf k3 fF;have b7:=Kept.blk k3 (Kept.blk k2 b1);have cz:=Kept.blk k3 b2;refine⟨aw,x.way.length,cw,(x.no:Int),cV x.sum,_,_,_,_,⟨rfl,lH b7 hs⟩,?_⟩;intro h4 e4;rw[MF]at e4;rw[<-ep];obtain⟨b4,k4,n4,c0⟩:=aB an e4;have a9:MU.sum.length=32:=rfl;obtain⟨h5,e5,b5,k5,n5,ao⟩:=b4.store (o:=0) (vs:=plcC aw x.way.length cw x) (by rw[dG hs,dG a9];exact Uf _) (uV _ _ _ _);rw[aO (by rw[dG hs,dG a9])]at b5;have ao:=ao c0;have ba:Keep (fun y=>h3.next<=y) h3 h5:=(k4.mono an (S':=fun y=>h3.next<=y) fun _ _ h=>h.elim).trans an k5 fun y E hc=>by omega
 have dq:=au.next;have dr:=ba.next;have ca:=(sw.keep au fF).keep ba fun y E hc=>by have:=cr y E;omega
 refine⟨rfl,h5,e5,rfl,aw,x.way.length,cw,⟨rfl,CI (ba.blk b7 fun y E hc=>by simp at E;omega) hs⟩,?_⟩;obtain⟨a6,c6,g6,h6,e6,o6,c4,k6,c5⟩:=Ow.append ao zY (Ow.nil h5 1) (lR ca.sl) ca.sl.len (yU _) (bM (by omega));rw[Nat.zero_add]at e6 o6;rw[VH]at o6;have bf:∀y,g6=some y->h5.next<=y:=fun y E=>by
  rcases c4 with hq | ⟨z,G,hq⟩
  ·rw[hq]at E;simp at E
  ·rw[E]at G;injection G with G;omega
 refine⟨a6,_,c6,h6,e6,?_⟩;intro h7 e7;obtain⟨a8,c8,g8,h8,e8,o8,c7,k8,cc⟩:=Ow.append1 c5 zY o6 (new:=intc i) e7 (Mj i) rfl (bM (by omega));have cd:Kept h5 h6:=k6.mono ao (S':=fun _=>False) fun _ _ h=>by simp at h
 have ds:=cd.next;have aj:∀y,g8=some y->h5.next<=y:=fun y E=>by
  rcases c7 with hq | ⟨z,G,hq⟩
  ·exact bf y (by rw[<-hq];exact E)
  ·rw[E]at G;injection G with G;omega
 have bi:Keep (fun y=>h5.next<=y) h5 h8:=(cd.mono ao (S':=fun y=>h5.next<=y) fun _ _ h=>h.elim).trans ao k8 fun y E hc=>bf y hc;have dt:=bi.next;have q8:=bi.blk b5 fun y E hc=>by simp at E;omega
 obtain⟨h9,e9,b9,k9,n9,aa⟩:=q8.set (o:=0) (v:=.slice a8 (x.way.length+1) c8) (by rw[dG hs];omega) rfl;rw[MI]at b9;have aa:=aa cc;have c9:Keep (fun y=>h3.next<=y) h3 h9:=(ba.trans an bi fun y E hc=>by omega).trans an k9 fun y E hc=>by omega
 have ow:∀{G:Hp},Keep (fun y=>y=h3.next) h9 G->SlT intc 1 G g8 a8 (x.way.length+1) c8 (x.way++[i]):=fun kz=>by
  have o9:=(o8.keep k9 fun y E hc=>by have:=aj y E;omega).keep kz fun y E hc=>by have:=aj y E;omega
  refine⟨?_,by simp⟩;rw[VX];simpa using o9.sl
 have V:∀{G:Hp},Keep (fun y=>y=h3.next) h9 G->Keep (fun y=>h3.next<=y) h3 G:=fun kz=>c9.trans an kz fun y E hc=>by omega
 have rN:∀{G:Hp},Keep (fun y=>y=h3.next) h9 G->Blk G h1.next (some h1.next) [.slice a1 l1 c1,.slice a2 l2 c2,.slice a3 l3 c3]:=fun kz=>(V kz).blk cz fun y E hc=>by simp at E;omega
 have bj:∀{G:Hp},Keep (fun y=>y=h3.next) h9 G->SlT kidC 33 G g3 a3 l3 c3 N.ks:=fun kz=>(s3.keep au fF).keep (V kz) fun y E hc=>by have:=b6 y (q3 y E);omega
 have bk:∀{G:Hp},Keep (fun y=>y=h3.next) h9 G->SlT strc 1 G g2 a2 l2 c2 N.K:=fun kz=>(s2.keep au fF).keep (V kz) fun y E hc=>by have:=b6 y (q2 y E);omega
 have bg:a3.isSome=true/\bS (i:Int) l3:=⟨((bj (Keep.refl _ _)).get dL hk (j:=0) (m:=1) (by omega)).1,Ui _,by omega⟩;have ce:aA (off a3) (i:Int) 33=off a3+i * 33+0:=by unfold aA;rw[Uo];omega
 have cf:cI (aA (off a3) (i:Int) 33) 1=off a3+i * 33+1:=by unfold cI aA;rw[Uo]
 refine⟨a8,_,c8,h8,e8,rfl,rfl,h9,e9,rfl,a3,l3,c3,⟨rfl,(rN (Keep.refl _ _)).one rfl⟩,bg,rfl,(k.page:Int),⟨rfl,by rw[ce];exact((bj (Keep.refl _ _)).get dL hk (j:=0) (m:=1) (by omega)).2⟩,rfl,rfl,?_⟩;obtain⟨da,db,cg,bl,d7,av⟩:=b9.set (o:=1) (v:=.int .u32 (k.page:Int)) (by rw[dG hs];omega) rfl;rw[MH]at cg;have av:=av aa;have ci:((kidC k).drop 1).take 32=bc k.sum:=by
  unfold kidC;rw[WZ,Wt,VC,Uj (by rw[aJ,k.hs];exact Uf _)]
 refine⟨da,db,rfl,a3,l3,c3,⟨rfl,(rN bl).one rfl⟩,bg,rfl,cV k.sum,⟨rfl,by rw[cf,aH k.hs,<-ci];exact((bj bl).get dL hk (j:=1) (m:=32) (by omega)).2⟩,rfl,rfl,?_⟩;have PN:({x with no:=k.page}:Plc).sum.length=32:=hs
 obtain⟨bm,dc,ax,dd,d8,af⟩:=cg.store (o:=2) (vs:=bc k.sum) (by rw[dG PN,aJ,k.hs];omega) (aZ _);rw[MG _ _ _ _ _ PN k.hs]at ax;have af:=af av;have U:Keep (fun y=>y=h3.next) h9 bm:=bl.trans aa dd fF;refine⟨bm,by rw[aH k.hs];exact dc,?_⟩;have fin:∀(G:Hp),Wf G->Keep (fun y=>y=h3.next) h9 G->Blk G h3.next (some h3.next) (plcC a8 (x.way.length+1) c8 (x.below N i k))->
   ∃(a:OA) (l c:Nat) (n:Int) (D:Nat->Int) (s cj:BA) (b ck:Bool),(aN (some (Addr.mk h3.next 0 none))=true/\G.cellsAt h3.next 0 38=some ([Value.slice a l c,Value.int IntKind.u32 n]++aK .u8 32 D++[Value.string s,Value.string cj,Value.bool b,Value.bool ck]))/\
   aN (some (Addr.mk h2.next 0 none))=true/\∃(h':Hp),G.store h2.next 0 ([Value.slice a l c,Value.int IntKind.u32 n]++aK .u8 32 D++[Value.string s,Value.string cj,Value.bool b,Value.bool ck])=some h'/\
   ∃(a:OA) (l c:Nat) (n:Int) (D:Nat->Int) (s cl:BA) (b cm:Bool),(aN (some (Addr.mk h2.next 0 none))=true/\h'.cellsAt h2.next 0 38=some ([Value.slice a l c,Value.int IntKind.u32 n]++aK .u8 32 D++[Value.string s,Value.string cl,Value.bool b,Value.bool cm]))/\
   ((∃ap aq ar,(Value.agg (Array.mk ([Value.slice a l c,Value.int IntKind.u32 n]++aK .u8 32 D++[Value.string s,Value.string cl,Value.bool b,Value.bool cm]))) = .agg (plcC ap (x.below N i k).way.length aq (x.below N i k)).toArray/\SlT intc 1 h' ar ap (x.below N i k).way.length aq (x.below N i k).way/\(∀y,ar=some y->h.next<=y/\y < h'.next))/\Kept h h'):=by
  intro G d9 kz bz;have ay:(x.below N i k).sum.length=32:=k.hs;have ez:([Value.slice a8 (x.way.length+1) c8,Value.int IntKind.u32 ((x.below N i k).no:Int)]++aK .u8 32 (cV (x.below N i k).sum)++[Value.string ((x.below N i k).lo.getD .empty),Value.string ((x.below N i k).hi.getD .empty),Value.bool (x.below N i k).lo.isSome,Value.bool (x.below N i k).hi.isSome])=plcC a8 (x.way.length+1) c8 (x.below N i k):=by rw[aH ay];rfl
  have bo:=(V kz).blk b3 fun y E hc=>by simp at E;omega
  obtain⟨h',e',b',k',n',ea⟩:=bo.store (o:=0) (vs:=plcC a8 (x.way.length+1) c8 (x.below N i k)) (by rw[dG ay,dG a9];exact Uf _) (uV _ _ _ _);rw[aO (by rw[dG ay,dG a9])]at b';have bh:(x.below N i k).way.length=x.way.length+1:=by simp[Plc.below]
  refine⟨a8,_,c8,_,cV (x.below N i k).sum,_,_,_,_,⟨rfl,lH bz ay⟩,rfl,h',by rw[ez];exact e',a8,_,c8,_,cV (x.below N i k).sum,_,_,_,_,⟨rfl,lH b' ay⟩,⟨a8,c8,g8,by rw[ez,bh],?_,fun y E=>?_⟩,?_⟩
  ·rw[bh];exact(ow kz).keep k' fun y E hc=>by have:=aj y E;omega
  ·have h1:=aj y E;have h2:=o8.glt cc y E;have h3:=kz.next
   omega
  ·exact(au.trans wf (V kz) fun y E hc=>by omega).trans wf k' fun y E hc=>by omega
 have de:0 < i->∃t,N.K[i - 1]? = some t/\N.K.getD (i - 1) .empty=t:=fun h0=>⟨N.K[i - 1]'(by omega),Uh _,by rw[Uz,Uh (by omega)];rfl⟩;have cn:i < N.K.length->∃t,N.K[i]? = some t/\N.K.getD i .empty=t:=fun h0=>⟨N.K[i]'h0,Uh _,by rw[Uz,Uh h0];rfl⟩;have eb:∀X:Plc,X.sum=k.sum->X.sum.length=32:=fun X hX=>by rw[hX];exact k.hs
 by_cases bb:dB (i:Int) 0=true
 ·rw[if_pos bb];have ac:0 < i:=by rw[aS]at bb;omega
  obtain⟨t,ht,co⟩:=de ac;obtain⟨hA,bn⟩:=(bk U).get dV ht (j:=0) (m:=1) (by omega);have cp:bB .i64 (i:Int) 1=((i - 1:Nat):Int):=by rw[bY (by omega) (by omega)];omega
  have df:aA (off a2) (((i - 1:Nat):Nat):Int) 1=off a2+(i - 1) * 1+0:=by unfold aA;rw[Uo];omega
  rw[cp];refine⟨rfl,a2,l2,c2,⟨rfl,(rN U).one rfl⟩,⟨hA,Ui _,by omega⟩,t,⟨rfl,by rw[df];exact bn⟩,rfl,rfl,?_⟩;have W:({x with no:=k.page,sum:=k.sum}:Plc).sum.length=32:=k.hs
  obtain⟨dg,dh,di,dj,ec,cq⟩:=ax.set (o:=34) (v:=.string t) (by rw[dG W];omega) rfl;obtain⟨bp,dk,ak,dl,ed,al⟩:=di.set (o:=36) (v:=.bool true) (by rw[List.length_set,dG W];omega) rfl;rw[PA _ _ _ _ W]at ak;have al:=al (cq af);have ag:Keep (fun y=>y=h3.next) h9 bp:=(U.trans aa dj fF).trans aa dl fF;refine⟨dg,dh,rfl,rfl,bp,dk,rfl,a2,l2,c2,⟨rfl,(rN ag).one rfl⟩,?_⟩;by_cases ad:bO (i:Int) (aE l2)=true
  ·rw[if_pos ad];have O:i < N.K.length:=by rw[aC,aF]at ad;omega
   obtain⟨u,hu,bq⟩:=cn O;obtain⟨hB,ae⟩:=(bk ag).get dV hu (j:=0) (m:=1) (by omega);have az:aA (off a2) (i:Int) 1=off a2+i * 1+0:=by unfold aA;rw[Uo];omega
   refine⟨rfl,a2,l2,c2,⟨rfl,(rN ag).one rfl⟩,⟨hB,Ui _,by omega⟩,u,⟨rfl,by rw[az];exact ae⟩,rfl,rfl,?_⟩;have a0:({x with no:=k.page,sum:=k.sum,lo:=some t}:Plc).sum.length=32:=k.hs
   obtain⟨br,bt,bu,bv,dn,a4⟩:=ak.set (o:=35) (v:=.string u) (by rw[dG a0];omega) rfl;obtain⟨ah,bw,ai,bx,dp,a5⟩:=bu.set (o:=37) (v:=.bool true) (by rw[List.length_set,dG a0];omega) rfl;rw[Ho _ _ _ _ a0]at ai;have a7:Keep (fun y=>y=h3.next) h9 ah:=(ag.trans aa bv fF).trans aa bx fF;have eX:plcC a8 (x.way.length+1) c8 {x with no:=k.page,sum:=k.sum,lo:=some t,hi:=some u}=plcC a8 (x.way.length+1) c8 (x.below N i k):=by
    unfold plcC Plc.below;rw[if_pos ac,if_pos O,co,bq]
   rw[eX]at ai;exact⟨br,bt,rfl,rfl,ah,bw,fin ah (a5 (a4 al)) a7 ai⟩
  ·rw[if_neg ad];have O:¬i < N.K.length:=fun h=>ad (by rw[aC,aF];omega);have eX:plcC a8 (x.way.length+1) c8 {x with no:=k.page,sum:=k.sum,lo:=some t}=plcC a8 (x.way.length+1) c8 (x.below N i k):=by
    unfold plcC Plc.below;rw[if_pos ac,if_neg O,co]
   rw[eX]at ak;exact fin bp al ag ak
 ·rw[if_neg bb];have ac:¬0 < i:=fun h=>bb (by rw[aS];omega);refine⟨rfl,a2,l2,c2,⟨rfl,(rN U).one rfl⟩,?_⟩;by_cases ad:bO (i:Int) (aE l2)=true
  ·rw[if_pos ad];have O:i < N.K.length:=by rw[aC,aF]at ad;omega
   obtain⟨u,hu,bq⟩:=cn O;obtain⟨hB,ae⟩:=(bk U).get dV hu (j:=0) (m:=1) (by omega);have az:aA (off a2) (i:Int) 1=off a2+i * 1+0:=by unfold aA;rw[Uo];omega
   refine⟨rfl,a2,l2,c2,⟨rfl,(rN U).one rfl⟩,⟨hB,Ui _,by omega⟩,u,⟨rfl,by rw[az];exact ae⟩,rfl,rfl,?_⟩;have W:({x with no:=k.page,sum:=k.sum}:Plc).sum.length=32:=k.hs
   obtain⟨br,bt,bu,bv,dn,a4⟩:=ax.set (o:=35) (v:=.string u) (by rw[dG W];omega) rfl;obtain⟨ah,bw,ai,bx,dp,a5⟩:=bu.set (o:=37) (v:=.bool true) (by rw[List.length_set,dG W];omega) rfl;rw[Ho _ _ _ _ W]at ai;have a7:Keep (fun y=>y=h3.next) h9 ah:=(U.trans aa bv fF).trans aa bx fF;have eX:plcC a8 (x.way.length+1) c8 {x with no:=k.page,sum:=k.sum,hi:=some u}=plcC a8 (x.way.length+1) c8 (x.below N i k):=by
    unfold plcC Plc.below;rw[if_neg ac,if_pos O,bq]
   rw[eX]at ai;exact⟨br,bt,rfl,rfl,ah,bw,fin ah (a5 (a4 af)) a7 ai⟩
  ·rw[if_neg ad];have O:¬i < N.K.length:=fun h=>ad (by rw[aC,aF];omega);have eX:plcC a8 (x.way.length+1) c8 {x with no:=k.page,sum:=k.sum}=plcC a8 (x.way.length+1) c8 (x.below N i k):=by
    unfold plcC Plc.below;rw[if_neg ac,if_neg O]
   rw[eX]at ax;exact fin bm af U ax
end Go.Proofs.YtmapagggnigfpaaGreat.pk
