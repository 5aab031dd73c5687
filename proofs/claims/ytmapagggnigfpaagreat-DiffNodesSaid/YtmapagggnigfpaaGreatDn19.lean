/- Joined: RefO, RefP, RefQ, RefR, DifF, DifG, DifH. -/
import Derived.Test.YtmapagggnigfpaaGreatDn18
set_option linter.unusedVariables false
set_option linter.unusedSectionVars false
set_option linter.unusedSimpArgs false
namespace Go.Cn.Pk
open Go.Proofs.YtmapagggnigfpaaGreat.pk
def gP(lb:Nat)(rt:Int):Nat:=if 0 < rt/\rt<=(lb:Int) - 1 then lb - 1 - rt.toNat else lb - 1
def Ml:LU->LU
 | []=>[]
 | x::r=>(x+1)::r
theorem EX(d:LU):(Ml d).length=d.length:=by cases d <;> rfl
def NN(off n:Int):Int:=aG .u64 n (iO (cC .u64 (aG .i64 (iO off 3) 3)) 3)
noncomputable def pL(p w:Int)(Bs:List BudT)(rt off:Int)(tn:Bool):Nat×LU×Int :=
 if Bs.length=0 then(0,sumN w kA,0) else
  let d:=(rM p w ((dZ p w Bs).getD (gP Bs.length rt) kA)).1
  (gP Bs.length rt+2,if tn=true then Ml d else d,NN off (iF Bs (gP Bs.length rt+1) (gP Bs.length rt) 100000).1)
theorem JU{p w:Int}(hw:w.toNat<=32)(Bs:List BudT)(rt off:Int)(tn:Bool):(pL p w Bs rt off tn).2.1.length=32:=by
 unfold pL
 split
 ·exact gA hw _
 ·show(if tn=true then Ml _ else _).length=32
  split
  ·rw[EX];exact(rM p w _).2
  ·exact(rM p w _).2
theorem Ap{lb:Nat}(rt:Int)(h:lb≠0):gP lb rt < lb:=by unfold gP;split <;> omega
theorem Ll{p w:Int}(Bs:List BudT)(rt off:Int)(tn:Bool):(pL p w Bs rt off tn).1<=Bs.length+2:=by
 unfold pL
 split
 ·show 0<=_;omega
 ·rename_i h
  have:=Ap rt h;show gP _ _+2<=_;omega
end Go.Cn.Pk
namespace Go.Proofs.YtmapagggnigfpaaGreat.pk
open Cn Cn.Pk vc
theorem Du{h:Hp}{b bQ:Nat}{aM:LU}{dS ver:Int}{g:ON}(hb:Blk h b g (lD bQ aM dS ver))(hr:aM.length=32):h.cellsAt b 0 35=some ([.int .u32 (bQ:Int)]++aK .u8 32 (cV aM)++[.int .u64 dS,.int .u64 ver]):=by
 rw[hb.cells (by rw[eO hr];omega),aH hr,VC,Uj (by rw[eO hr];exact Uf _)]
theorem Mk(x:UInt8):aG .u8 (x.toNat:Int) 1=((x+1).toNat:Int):=by
 unfold aG;rw[show(x.toNat:Int)+1=((x.toNat+1:Nat):Int) from rfl];have:=eF (x.toNat+1);rw[UInt8.toNat_add];exact this
set_option maxRecDepth 20000 in
theorem QP{h:Hp}{n0:Nat}{p w rt off:Int}{ab sa:OA}{lb cb ls cs:Nat}{tn:Bool}{Bs:List BudT}{Ss:List (Int×Int×Int)}(hF:Fr p w)(x:PlotAt h n0 ab lb cb sa ls cs Bs Ss)(bx:n0<=h.next)(sm:Small Bs Ss):
  C 25 [tJ p w ab lb cb rt sa ls cs tn off] h fun r h'=>r = .agg (lD (pL p w Bs rt off tn).1 (pL p w Bs rt off tn).2.1 (pL p w Bs rt off tn).2.2 0).toArray/\Kept h h':=by
 obtain⟨b3,b7,b9,ca,aj⟩:=hF.nat;refine sv Fm fun wf=>?_;obtain⟨av,cc⟩:=x.len;have cd:=sm.buds;intro h1 e1 h2 e2;obtain⟨b1,k1,n1,V⟩:=aB wf e1;obtain⟨b2,k2,n2,ac⟩:=aB V e2;have b2:Blk h2 h1.next (some h1.next) (lD 0 bH 0 0):=b2;have ad:=k1.trans wf k2 fF;have x2:=x.keep ad fF;have ae:=Kept.blk k2 b1;have ao:∀{hz:Hp},Kept h1 hz->hz.cellsAt h.next 0 7=some [.int .i64 p,.int .i64 w,.slice ab lb cb,.int .i64 rt,.slice sa ls cs,.bool tn,.int .i64 off]:=fun k=>by rw[(Kept.blk k b1).cells (by simp)];rfl
 have ax:∀{hz:Hp},Kept h1 hz->hz.cellsAt h.next 0 2=some [.int .i64 p,.int .i64 w]:=fun k=>by rw[(Kept.blk k b1).cells (by simp)];rfl
 have fin:∀{hz:Hp} {bQ:Nat} {DD:LU} {dS:Int},Kept h1 hz->Wf hz->Kept h hz->DD.length=32->Blk hz h1.next (some h1.next) (lD 0 bH 0 0)->
   ∃h',hz.store h1.next 0 ([.int .u32 (bQ:Int)]++aK .u8 32 (cV DD)++[.int .u64 dS,.int .u64 0])=some h'/\h'.cellsAt h1.next 0 35=some ([.int .u32 (bQ:Int)]++aK .u8 32 (cV DD)++[.int .u64 dS,.int .u64 0])/\Kept h h':=by
  intro hz bQ DD dS k ce k0 G bz;obtain⟨h',e',b',k',n',cf⟩:=bz.store (o:=0) (vs:=lD bQ DD dS 0) (by rw[eO G,eO bI];exact Uf _) (by rw[Vt,Vt,aZ];rfl);rw[aO (by rw[eO G,eO bI])]at b';exact⟨h',by rw[aH G];exact e',Du b' G,k0.trans wf k' fun y hy hc=>by omega⟩
 refine⟨rfl,ab,lb,cb,⟨rfl,ae.one rfl⟩,?_⟩;by_cases h0:bX (aE lb) 0=true
 ·rw[if_pos h0];rw[aV,aF]at h0;refine⟨rfl,p,w,⟨rfl,ax k2⟩,?_⟩;refine(NH p w hF h2).wf fun v h3 af ba ⟨e,k3⟩=>?_;have hl:(sumN w kA).length=32:=gA aj _;refine⟨cV (sumN w kA),0,by rw[aH hl];exact e,?_⟩;intro h4 e4;rw[dU]at e4;obtain⟨b4,k4,n4,ap⟩:=aB af e4;obtain⟨h5,e5,b5,aq,k5,n5,ag⟩:=bP ap (vs:=bc (sumN w kA)) b4 k4 af (Uf _) (by rw[aJ,aJ,hl];rfl) (aZ _);have O:=k3.trans ac aq fF;have aa:=k2.trans V O fF;have ah:=ad.trans wf O fF;obtain⟨h6,e6,r6,k6⟩:=fin (bQ:=0) (DD:=sumN w kA) (dS:=0) aa ag ah hl (Kept.blk O b2);refine⟨rfl,h5,by rw[aH hl];exact e5,cV (sumN w kA),⟨rfl,cH b5 hl⟩,rfl,h6,e6,0,cV (sumN w kA),0,0,⟨rfl,r6⟩,?_,k6⟩;have:pL p w Bs rt off tn=(0,sumN w kA,0):=by unfold pL;rw[if_pos (by omega)]
  rw[this,aH hl]
  rfl
 ·rw[if_neg h0];rw[aV,aF]at h0;have ay:=Ap (lb:=lb) rt (by omega);have bb:bB .i64 (aE lb) 1=((lb - 1:Nat):Int):=by rw[aF,bY (by omega) (by omega)];omega
  have hT:pL p w Bs rt off tn=(gP lb rt+2,(if tn=true then Ml (rM p w ((dZ p w Bs).getD (gP lb rt) kA)).1 else(rM p w ((dZ p w Bs).getD (gP lb rt) kA)).1),NN off (iF Bs (gP lb rt+1) (gP lb rt) 100000).1):=by
   unfold pL;rw[if_neg (by omega),av]
  rw[hT];refine⟨rfl,ab,lb,cb,⟨rfl,ae.one rfl⟩,rfl,rt,⟨rfl,ae.one rfl⟩,fun _=>rfl,rt,fun _=>⟨rfl,ae.one rfl⟩,?_⟩;rw[bb];have bf:aR (dB rt 0) (qA rt ((lb - 1:Nat):Int)) false=true->bB .i64 ((lb - 1:Nat):Int) rt=((gP lb rt:Nat):Int):=fun U=>by
   rw[bN,aS,eV]at U;unfold gP;rw[if_pos (by omega),bY (by omega) (by omega)];omega
  have az:¬aR (dB rt 0) (qA rt ((lb - 1:Nat):Int)) false=true->((lb - 1:Nat):Int)=((gP lb rt:Nat):Int):=fun U=>by
   rw[bN,aS,eV]at U;unfold gP;rw[if_neg (by omega)]
  by_cases U:aR (dB rt 0) (qA rt ((lb - 1:Nat):Int)) false=true
  all_goals first
   | (rw[if_pos U];refine⟨rfl,rt,⟨rfl,ae.one rfl⟩,?_⟩;rw[bf U])
   | rw[if_neg U,az U]
  all_goals
   generalize gP lb rt=E at ay ⊢;refine⟨p,w,ab,lb,cb,rt,sa,ls,cs,tn,off,⟨rfl,ao k2⟩,?_⟩;refine(ND (rt:=rt) (off:=off) (tn:=tn) hF x2 (by have:=ad.next;omega) sm).wf fun v h3 af ba ⟨⟨a,c,g,vs,e,ow,hg,nd⟩,k3⟩=>⟨a,_,c,e,?_⟩;have cg:vs.length=lb:=by rw[nd.1,iQ,av]
   intro h4 e4;rw[dU]at e4;obtain⟨b4,k4,n4,ap⟩:=aB af e4;have a0:=k3.trans ac k4 fF;have bg:=k2.trans V a0 fF;have ci:=ad.trans wf a0 fF;obtain⟨tv,a4⟩:∃tv,vs[E]? = some tv:=⟨_,Uh (by omega)⟩;obtain⟨N,hN⟩:∃N,(dZ p w Bs)[E]? = some N:=⟨_,Uh (by rw[iQ];omega)⟩;have bh:(dZ p w Bs).getD E kA=N:=by rw[Uz,hN];rfl
   rw[bh];have bi:=(nd.2 E tv N a4 hN).keep k4 fF;have bj:SlT triC 3 h4 g a vs.length c vs:=⟨(ow.keep k4 fF).sl,rfl⟩;obtain⟨bk,bl⟩:=bj.get jB a4 (j:=0) (m:=3) (by omega);have bm:aA (Cn.off a) (E:Int) 3=Cn.off a+E * 3+0:=by unfold aA;rw[Uo];omega
   refine⟨rfl,p,w,⟨rfl,ax bg⟩,⟨bk,Ui _,by omega⟩,tv.a1,tv.l1,tv.c1,tv.a2,tv.l2,tv.c2,tv.a3,tv.l3,tv.c3,⟨rfl,by rw[bm];exact bl⟩,?_⟩;obtain⟨B,hB,m1,m2,m3⟩:=yJ p w _ Bs rfl N (Uy hN);obtain⟨a5,a6,bw⟩:=sm.each B hB;rw[<-m1]at a5;rw[<-m2]at a6;refine(Ei (bi.at (n0:=h4.next) fun y hy=>by omega) p w (by omega) (by omega) (by omega)).mono fun v cj ⟨⟨e,D,ev,bn,bo,bp⟩,eh⟩=>?_;subst eh;have a7:=Hj aj bn bo bp;have W:D.length=32:=by rw[a7];exact(rM p w _).2
   rw[<-a7];obtain⟨h5,e5,b5,aq,k5,n5,ag⟩:=bP ap (vs:=bc D) b4 k4 af (Uf _) (by rw[aJ,aJ,W];rfl) (aZ _);have O:=k3.trans ac aq fF;have aa:=k2.trans V O fF;have ah:=ad.trans wf O fF;refine⟨cV D,e,by rw[aH W];exact ev,rfl,h5,by rw[aH W];exact e5,rfl,tn,⟨rfl,(Kept.blk aa b1).one rfl⟩,?_⟩;have tail:∀(DD:LU) (hx:Hp),DD.length=32->Blk hx h3.next (some h3.next) (bc DD)->Kept h1 hx->Kept h2 hx->Kept h hx->Wf hx->
     C 51 [tJ p w ab lb cb rt sa ls cs tn off,.int .i64 (E:Int),.int .i64 100000] hx fun v h7=>∃n bq,v = .tuple #[.int .u64 n,.int .i64 bq]/\∃D:Nat->Int,(aN (some (Addr.mk h3.next 0 none))=true/\h7.cellsAt h3.next 0 32=some (aK .u8 32 D))/\aN (some (Addr.mk h.next 0 none))=true/\∃ak:Int,(aN (some (Addr.mk h.next 6 none))=true/\h7.cellsAt h.next 6 1=some [.int .i64 ak])/\bW 3/\bW 3/\aN (some (Addr.mk h1.next 0 none))=true/\
      ∃h8:Hp,h7.store h1.next 0 ([Value.int IntKind.u32 (cC IntKind.u32 (aG IntKind.i64 (E:Int) 2))]++aK .u8 32 D++[Value.int IntKind.u64 (aG IntKind.u64 n (iO (cC IntKind.u64 (aG IntKind.i64 (iO ak 3) 3)) 3)),Value.int IntKind.u64 (Int.ofNat 0)])=some h8/\
      ∃(n:Int) (D:Nat->Int) (al an:Int),(aN (some (Addr.mk h1.next 0 none))=true/\h8.cellsAt h1.next 0 35=some ([Value.int IntKind.u32 n]++aK .u8 32 D++[Value.int IntKind.u64 al,Value.int IntKind.u64 an]))/\
      (Value.agg (Array.mk ([Value.int IntKind.u32 n]++aK .u8 32 D++[Value.int IntKind.u64 al,Value.int IntKind.u64 an])) = .agg (lD (E+2) DD (NN off (iF Bs (E+1) E 100000).1) 0).toArray/\Kept h h8):=by
    intro DD hx G Bx a8 br ar ck;refine(Pb sm (E+1) E 100000 (by omega) ay (x.keep ar fF) (by have:=ar.next;omega)).wf fun v h7 bt cl ⟨ev,k7⟩=>⟨_,_,ev,cV DD,⟨rfl,cH (Kept.blk k7 Bx) G⟩,rfl,off,⟨rfl,(Kept.blk (a8.trans V k7 fF) b1).one rfl⟩,by unfold bW;omega,by unfold bW;omega,rfl,?_⟩;obtain⟨h8,e8,r8,k8⟩:=fin (bQ:=E+2) (DD:=DD) (dS:=NN off (iF Bs (E+1) E 100000).1) (a8.trans V k7 fF) bt (ar.trans wf k7 fF) G (Kept.blk (br.trans ac k7 fF) b2);refine⟨h8,?_,((E+2:Nat):Int),cV DD,NN off (iF Bs (E+1) E 100000).1,0,⟨rfl,r8⟩,?_,k8⟩
    ·rw[show aG .i64 (E:Int) 2=_ from cN 2 E (by omega),nP,Up (by omega)];exact e8
    ·rw[aH G]
   by_cases ai:tn=true
   ·rw[if_pos ai,if_pos ai];obtain⟨u,r,bu⟩:∃u r,D=u::r:=by
     cases D with
     | nil=>simp at W
     | cons u r=>exact⟨u,r,rfl⟩
    subst bu;obtain⟨h6,e6,b6,k6,n6,bv⟩:=b5.set (o:=0) (v:=.int .u8 (((u+1:UInt8).toNat:Nat):Int)) (by rw[aJ,W];omega) rfl;have a9:=aa.trans V k6 fun y hy hc=>by omega
    have au:h5.cellsAt h3.next 0 1=some [.int .u8 (u.toNat:Int)]:=b5.one rfl;refine⟨⟨rfl,by unfold bS;omega⟩,(u.toNat:Int),⟨rfl,au⟩,⟨rfl,by unfold bS;omega⟩,rfl,h6,by rw[Mk];exact e6,p,w,ab,lb,cb,rt,sa,ls,cs,tn,off,⟨rfl,ao a9⟩,?_⟩;exact tail (Ml (u::r)) h6 (by rw[EX];exact W) b6 a9 (O.trans ac k6 fun y hy hc=>by omega) (ah.trans wf k6 fun y hy hc=>by omega) (bv ag)
   ·rw[if_neg ai,if_neg ai];refine⟨p,w,ab,lb,cb,rt,sa,ls,cs,tn,off,⟨rfl,ao aa⟩,?_⟩;exact tail D h5 W b5 aa O ah ag
set_option maxRecDepth 20000 in
theorem Sn{bQ:Nat}{p w dS ver:Int}{aM:LU}(hr:aM.length=32)(aL:OA)(lL cL:Nat)(h:Hp):
  C 26 [fr p w,.slice aL lL cL,.agg (lD bQ aM dS ver).toArray] h fun v h' =>
   ((¬Bb p w bQ aM dS/\v = .tuple #[.pointer none,.int .i64 2])\/(Bb p w bQ aM dS/\∃t:Nat,v = .tuple #[pt t,.int .i64 0]/\h.next<=t/\t < h'.next/\Blk h' t (some t) (dtC p w aL lL cL bQ aM dS ver)))/\Kept h h':=by
 unfold lD;rw[<-aH hr];refine sv JE fun wf=>?_;intro h1 e1 h2 e2;rw[aH hr]at e2;obtain⟨b1,k1,n1,ak⟩:=aB wf e1;obtain⟨b2,k2,n2,al⟩:=aB ak e2;have b2:Blk h2 h1.next (some h1.next) (lD bQ aM dS ver):=b2;have ac:=k1.trans wf k2 fF;have W:=Kept.blk k2 b1;have ad:∀{hh:Hp},Blk hh h.next (some h.next) [.int .i64 p,.int .i64 w]->hh.cellsAt h.next 0 2=some [.int .i64 p,.int .i64 w]:=fun hb=>by rw[hb.cells (by simp)];rfl
 refine⟨p,w,⟨rfl,ad W⟩,?_⟩;refine(Cf p w h2).mono fun v h' ⟨e,eh⟩=>⟨_,e,?_⟩;subst eh;by_cases hF:Fr p w
 ·rw[if_neg (by simp[aD,hF])];obtain⟨ax,an,ay,az,G⟩:=hF.nat;have hl:(sumN w kA).length=32:=gA G _;refine⟨rfl,w,⟨rfl,W.one rfl⟩,?_⟩;refine⟨fun vals m hh=>∃j:Nat,[.int .i64 ((w.toNat+j:Nat):Int)]=vals/\m=32 - w.toNat - j/\j<=32 - w.toNat/\(∀i,i < j->aM[w.toNat+i]? = some 0)/\hh=h',⟨_,0,by rw[Vk,<-an],rfl,Uk _,fun i hi=>by omega,rfl⟩,?_⟩;rintro n m hh ⟨j,e,rfl,hj,hz,rfl⟩;simp only[Ur,Value.int.injEq,true_and,and_true]at e;subst e;by_cases E:bO ((w.toNat+j:Nat):Int) 32=true
  ·rw[if_pos E];have ah:j < 32 - w.toNat:=by rw[aC]at E;omega
   obtain⟨u,hu⟩:∃u,aM[w.toNat+j]? = some u:=⟨_,Uh (by omega)⟩;refine⟨rfl,⟨rfl,Ui _,by omega⟩,(u.toNat:Int),⟨rfl,?_⟩,?_⟩
   ·have:aA 1 ((w.toNat+j:Nat):Int) 1=1+(w.toNat+j):=by
     unfold aA;rw[Uo]
     omega
    rw[this];exact Ao b2 hr hu
   ·by_cases aa:cP (u.toNat:Int) 0=true
    ·rw[if_pos aa];refine⟨.inl ⟨fun O=>?_,rfl⟩,ac⟩;have:=(xJ hr G).1 O.2.1 j ah;rw[hu]at this;simp only[Um]at this;subst this;simp[cP]at aa
    ·rw[if_neg aa];have ao:u=0:=by
      have:u.toNat=0:=by
       have:¬((u.toNat:Int)≠0):=fun h=>aa (by unfold cP;simpa using h)
       omega
      exact Wn.1 this
     refine⟨32 - w.toNat - (j+1),by simp only[aI];omega,j+1,?_,rfl,by omega,fun i hi=>?_,rfl⟩
     ·rw[show aG .i64 ((w.toNat+j:Nat):Int) 1=_ from cN 1 (w.toNat+j) (by omega)];rfl
     ·by_cases ap:i=j
      ·subst ap;rw[hu,ao]
      ·exact hz i (by omega)
  ·rw[if_neg E];have ah:j=32 - w.toNat:=by
    have:¬w.toNat+j < 32:=fun h=>E (by rw[aC];omega)
    omega
   have ai:dX w.toNat aM=aM:=(xJ hr G).2 fun i hi=>hz i (by omega);refine⟨p,w,⟨rfl,ad W⟩,?_⟩;refine(NH p w hF hh).wf fun v h3 aj a0 ⟨e,k3⟩=>?_;refine⟨cV (sumN w kA),0,by rw[aH hl];exact e,?_⟩;intro h4 e4;rw[dU]at e4;obtain⟨b4,k4,n4,aq⟩:=aB aj e4;obtain⟨h5,e5,b5,k5,n5,ae⟩:=b4.store (o:=0) (vs:=bc (sumN w kA)) (by rw[aJ,aJ,hl,bI];exact Uf _) (aZ _);rw[aO (by rw[aJ,aJ,hl,bI])]at b5;have ae:=ae aq;have ar:Kept h3 h5:=k4.trans aj k5 fun y hy E=>by omega
   have af:Kept hh h5:=k3.trans al ar fF;have ag:=ac.trans wf af fF;have au:=Kept.blk af W;have U:=Kept.blk af b2;refine⟨rfl,h5,by rw[aH hl];exact e5,rfl,(bQ:Int),⟨rfl,U.one rfl⟩,rfl,dS,⟨rfl,?_⟩,fun _=>rfl,(bQ:Int),fun _=>⟨rfl,U.one rfl⟩,fun _=>rfl,cV aM,fun _=>⟨rfl,Dt U hr⟩,cV (sumN w kA),fun _=>⟨rfl,cH b5 hl⟩,?_⟩
   ·refine U.one ?_;show([.int .u32 (bQ:Int)]++bc aM++[.int .u64 dS,.int .u64 ver]:LV)[33]? = _;rw[VN (by rw[Ug,aJ,hr];exact Uf _),Ug,aJ,hr]
    rfl
   ·rw[aH hr,aH hl];have V:(aR (aD (zK (bX (bQ:Int) 0) (bX dS 0))) true (aR (bX (bQ:Int) 0) (aD (eS (bc aM) (bc (sumN w kA)))) false)=true)↔¬((bQ=0↔dS=0)/\(bQ=0->aM=sumN w kA)):=by
     rw[cG,bN,aV];have h1:aD (zK (bX (bQ:Int) 0) (bX dS 0))=true↔¬(bQ=0↔dS=0):=by
      unfold aD zK;rw[VL,beq_eq_false_iff_ne,ne_eq,Va,aV,aV]
      constructor
      ·intro h E;exact h ⟨fun h=>E.1 (by omega),fun h=>by have:=E.2 h;omega⟩
      ·intro h E;exact h ⟨fun h=>E.1 (by omega),fun h=>by have:=E.2 h;omega⟩
     have h2:aD (eS (bc aM) (bc (sumN w kA)))=true↔aM≠sumN w kA:=by
      unfold aD;rw[VL,<-Vr,jE _ _ (by rw[hr,hl])]
     rw[h1,h2]
     constructor
     ·rintro(h | ⟨h,h'⟩) ⟨q1,q2⟩
      ·exact h q1
      ·exact h' (q2 (by omega))
     ·intro hq;apply Classical.byContradiction;intro E;refine hq ⟨Classical.not_not.1 fun h=>E (.inl h),fun h0=>Classical.not_not.1 fun h=>E (.inr ⟨by omega,h⟩)⟩
    by_cases hq:(bQ=0↔dS=0)/\(bQ=0->aM=sumN w kA)
    ·rw[if_neg (fun h=>V.1 h hq)];refine⟨p,w,⟨rfl,ad au⟩,(bQ:Int),cV aM,dS,ver,⟨rfl,Du U hr⟩,?_⟩;intro h6 e6;obtain⟨b6,k6,n6,a4⟩:=aB ae e6;rw[aH hr]at b6;have hn:=ag.next;refine⟨.inr ⟨⟨hF,ai,hq⟩,h5.next,rfl,by omega,by omega,?_⟩,ag.trans wf k6 fF⟩;have av:([.int .i64 p,.int .i64 w,.slice aL lL cL,.int .u32 (bQ:Int)]++bc aM++[.int .u64 dS,.int .u64 ver]:LV)=dtC p w aL lL cL bQ aM dS ver:=by
      unfold dtC;simp
     rw[<-av];exact b6
    ·rw[if_pos (V.2 hq)];exact⟨.inl ⟨fun O=>hq O.2.2,rfl⟩,ag⟩
 ·rw[if_pos (by simp[aD,hF])];exact⟨.inl ⟨fun O=>hF O.1,rfl⟩,ac⟩
theorem Jw{p w:Int}{N:NodeT}(G:Fr p w)(h:mN p w N 0):(str (cJ true w N)).size+32<=p.toNat:=by
 obtain⟨V,W,aa,ac,O⟩:=G.nat;have ad:=G.ge;rcases h with ⟨_,h⟩ | ⟨_,_,h⟩ | ⟨_,_,_,h⟩ | ⟨_,hm,_,_⟩
 ·omega
 ·exact absurd rfl h
 ·omega
 ·rcases hm with ⟨_,h⟩ | ⟨_,_,_,h⟩ | ⟨_,U,hs,_⟩
  ·exact absurd rfl h
  ·omega
  ·obtain⟨wn,rfl⟩:∃wn:Nat,w=(wn:Int):=⟨w.toNat,by omega⟩;have:=mX (p:=p) (w:=wn) (N:=N) (by omega) true ((kB U).imp id fun h=>by omega) (kB U);have E:(str (cJ true (wn:Int) N)).size=(cJ true (wn:Int) N).length:=by
    show(cJ true (wn:Int) N).toArray.size=_;simp
   rw[E]
   omega
theorem Gt{h:Hp}{n:Nat}{E:Value}{N:NodeT}(x:NodeAt h n E N){p w:Int}(G:Fr p w)(hs:N.ps.length<=100000/\N.K.length<=100000/\N.ks.length<=100000):
  C 44 [fr p w,E] h fun r h'=>(∃(e:Int) (s:BA),r = .tuple #[.string s,.int .i64 e]/\(e=0->s.size+32<=p.toNat))/\h'=h:=by
 obtain⟨V,W,h3⟩:=hs;refine(QS x p w (by omega) (by omega) (by omega)).mono fun r h' ⟨⟨e,s,e1,e2,O,e4⟩,U⟩=>⟨⟨e,s,e1,fun he=>?_⟩,U⟩;subst he;rw[O rfl];exact Jw G e2
def AD(N:NodeT):Prop:=N.ps.length<=100000/\N.K.length<=100000/\N.ks.length<=100000
def Kn(p:Int)(ls nv:Nat)(hh:Hp)(tv:TriV):LV->Nat->Hp->Prop:=fun vals m hz =>
 ∃(j:Nat) (b:Bool) (kn:Nat) (s:BA) (e:Int) (N:NodeT),[.bool b,.int .u8 (kn:Int),.string s,.int .i64 e,.int .i64 (j:Int)]=vals/\m=ls - j/\j<=ls/\1<=kn/\kn<=3/\(e=0->s.size+32<=p.toNat)/\Blk hz nv (some nv) (triC tv)/\OwnN hz (fun y=>hh.next<=y/\y≠nv) tv N/\AD N/\Kept hh hz/\Wf hz
theorem Kn.next{p:Int}{ls G:Nat}{O:Hp}{tv:TriV}{j:Nat}(hj:j < ls)(hl:ls<=300){E:Hp}{b:Bool}{kn:Nat}{V:Int}{s:BA}{e:Int}{N:NodeT}(hk:V=(kn:Int))(h1:1<=kn)(h3:kn<=3)(he:e=0->s.size+32<=p.toNat)(hb:Blk E G (some G) (triC tv))(ho:OwnN E (fun y=>O.next<=y/\y≠G) tv N)(hs:AD N)(U:Kept O E)(wf:Wf E):
  ∃W,aI W (ls - j)/\Kn p ls G O tv [.bool b,.int .u8 V,.string s,.int .i64 e,.int .i64 (aG .i64 (j:Int) 1)] W E:=by
 subst hk;refine⟨ls - (j+1),by simp only[aI];omega,j+1,b,kn,s,e,N,?_,rfl,by omega,h1,h3,he,hb,ho,hs,U,wf⟩;rw[show aG .i64 (j:Int) 1=_ from cN 1 j (by omega)]
theorem OwnN.setPair{h:Hp}{S:NP}{v:TriV}{N:NodeT}(x:OwnN h S v N)(hl:0 < v.l1)(t:BA):
  v.a1.isSome=true/\(∃s,h.cellsAt (blk v.a1) (Cn.off v.a1+1) 1=some [.string s])/\∃h' O,h.store (blk v.a1) (Cn.off v.a1+1) [.string t]=some h'/\OwnN h' S v O/\Keep S h h'/\(Wf h->Wf h')/\O.ps.length=N.ps.length/\O.K=N.K/\O.ks=N.ks:=by
 obtain⟨⟨g1,g2,g3,q1,q2,q3,U,V,q6⟩,r1,r2,r3⟩:=x;obtain⟨ps,K,ks⟩:=N
 cases ps with
 | nil=>simp at r1;omega
 | cons y rest =>
  obtain⟨k0,v0⟩:=y;obtain⟨ha,G⟩:=q1.sl.cells (i:=1) (m:=1) (by omega) hl;obtain⟨_,h',e1,o1,E,n1,W⟩:=q1.store (i:=1) (vs:=[.string t]) (by simp;omega) hl rfl;refine⟨ha,⟨v0,G⟩,h',⟨(k0,t)::rest,K,ks⟩,e1,⟨⟨g1,g2,g3,o1,q2.keep E fun y hy G=>(V y G).1 hy,q3.keep E fun y hy G=>(V y G).2 hy,U,V,q6⟩,r1,r2,r3⟩,⟨E.next,E.ro,fun b c t g hb hn=>E.rw b c t g hb fun he=>hn (U _ (.inl he)),fun b o hb hi hn=>E.oth b o hb hi fun he=>hn (U _ (.inl he))⟩,W,rfl,rfl,rfl⟩
theorem OwnN.setKid{h:Hp}{S:NP}{v:TriV}{N:NodeT}(x:OwnN h S v N)(hl:0 < v.l3):
  v.a3.isSome=true/\∃u:UInt8,h.cellsAt (blk v.a3) (Cn.off v.a3+1) 1=some [.int .u8 (u.toNat:Int)]/\∃h' O,h.store (blk v.a3) (Cn.off v.a3+1) [.int .u8 (((u+1:UInt8).toNat:Nat):Int)]=some h'/\OwnN h' S v O/\Keep S h h'/\(Wf h->Wf h')/\O.ps=N.ps/\O.K=N.K/\O.ks.length=N.ks.length:=by
 obtain⟨⟨g1,g2,g3,q1,q2,q3,U,q5,q6⟩,r1,r2,r3⟩:=x;obtain⟨ps,K,ks⟩:=N
 cases ks with
 | nil=>simp at r3;omega
 | cons y rest =>
  obtain⟨page,sum,hp,hs⟩:=y
  cases sum with
  | nil=>simp at hs
  | cons u r =>
   obtain⟨ha,G⟩:=q3.sl.cells (i:=1) (m:=1) (by omega) hl;obtain⟨_,h',e1,o1,E,n1,V⟩:=q3.store (i:=1) (vs:=[.int .u8 (((u+1:UInt8).toNat:Nat):Int)]) (by simp;omega) hl rfl;refine⟨ha,u,G,h',⟨ps,K,⟨page,(u+1)::r,hp,hs⟩::rest⟩,e1,⟨⟨g1,g2,g3,q1.keep E fun y W G=>(q5 y W).2 G,q2.keep E fun y W G=>q6 y W G,o1,U,q5,q6⟩,r1,r2,r3⟩,⟨E.next,E.ro,fun b c t g hb hn=>E.rw b c t g hb fun he=>hn (U _ (.inr (.inr he))),fun b o hb hi hn=>E.oth b o hb hi fun he=>hn (U _ (.inr (.inr he)))⟩,V,rfl,rfl,rfl⟩
theorem OwnN.at{h:Hp}{S:NP}{v:TriV}{N:NodeT}(wf:Wf h)(x:OwnN h S v N):NodeAt h h.next (.agg (triC v).toArray) N:=by
 obtain⟨⟨g1,g2,g3,E,G,O,q4,q5,q6⟩,U,V,W⟩:=x;exact⟨_,_,_,_,_,_,_,_,_,rfl,⟨g1,E.glt wf,E.sl,U⟩,⟨g2,G.glt wf,G.sl,V⟩,⟨g3,O.glt wf,O.sl,W⟩⟩
theorem yH(a:OA):cI (aA (Cn.off a) 0 2) 1=Cn.off a+1:=by unfold cI aA;simp
theorem Hw(a:OA):aA (cI (aA (Cn.off a) 0 33) 1) 0 1=Cn.off a+1:=by unfold cI aA;simp
theorem Pz:AppT Tryz.prog 38 38 133 4 32:=AppT.of _ (by kernel_rfl)
end Go.Proofs.YtmapagggnigfpaaGreat.pk
namespace Go.Cn.Pk
open Go.Proofs.YtmapagggnigfpaaGreat.pk
structure PgsOk(p w:Int)(n:Nat)(L:List PageT):Prop where
 ln:L.length<=n
 ok:∀g∈L,pageErr p w g.kind g.no g.ver g.body.size=0/\g.body.size<=8192
 no:∀g∈L,g.no < n+2
 nd:(L.map (·.no)).Nodup
end Go.Cn.Pk
namespace Go.Proofs.YtmapagggnigfpaaGreat.pk
open Cn Cn.Pk vc
set_option maxRecDepth 20000 in
set_option maxHeartbeats 1000000 in
theorem Rj{h:Hp}{n0:Nat}{p w rt off:Int}{ab sa:OA}{lb cb ls cs:Nat}{tn:Bool}{Bs:List BudT}{Ss:List (Int×Int×Int)}(hF:Fr p w)(x:PlotAt h n0 ab lb cb sa ls cs Bs Ss)(dv:n0<=h.next)(sm:Small Bs Ss):
  C 21 [tJ p w ab lb cb rt sa ls cs tn off] h fun r h'=>(∃a c g L,r = .slice a L.length c/\Ow h' 4 g a L.length c (L.flatMap pageC)/\(∀y,g=some y->h.next<=y)/\PgsOk p w Bs.length L)/\Kept h h':=by
 obtain⟨dw,dx,dz,d1,ds⟩:=hF.nat;refine sv DP fun wf=>?_;obtain⟨az,d2⟩:=x.len;have d3:=sm.buds;have d4:=sm.spoils;intro h1 e1;obtain⟨b1,k1,n1,af⟩:=aB wf e1;have x1:=x.keep k1 fF;have cq:∀{W:Hp},Kept h1 W->W.cellsAt h.next 0 7=some [.int .i64 p,.int .i64 w,.slice ab lb cb,.int .i64 rt,.slice sa ls cs,.bool tn,.int .i64 off]:=fun k=>by rw[(Kept.blk k b1).cells (by simp)];rfl
 have aq:∀{W:Hp},Kept h1 W->W.cellsAt h.next 0 2=some [.int .i64 p,.int .i64 w]:=fun k=>by rw[(Kept.blk k b1).cells (by simp)];rfl
 refine⟨p,w,ab,lb,cb,rt,sa,ls,cs,tn,off,⟨rfl,cq (Keep.refl _ _)⟩,?_⟩;refine(ND (rt:=rt) (off:=off) (tn:=tn) hF x1 (by omega) sm).wf fun v h2 ag d5 ⟨⟨a,c,gn,vs,e,own,d6,nd⟩,k2⟩=>⟨a,vs.length,c,e,?_⟩;have d7:vs.length=lb:=by rw[nd.1,iQ,az]
 have d8:(dZ p w Bs).length=lb:=by rw[iQ,az]
 have bi:=k1.trans wf k2 fF;have ar:∀{i:Nat},i < lb->∃tv N,AD N/\a.isSome=true/\∀{W:Hp},Kept h2 W->W.cellsAt (blk a) (Cn.off a+i * 3) 3=some (triC tv)/\NodeS W (fun y=>h1.next<=y/\y < h2.next) (.agg (triC tv).toArray) N:=by
  intro i hi;obtain⟨tv,a0⟩:∃tv,vs[i]? = some tv:=⟨_,Uh (by omega)⟩;obtain⟨N,hN⟩:∃N,(dZ p w Bs)[i]? = some N:=⟨_,Uh (by omega)⟩;obtain⟨B,hB,m1,m2,m3⟩:=yJ p w _ Bs rfl N (Uy hN);obtain⟨bj,bk,dt⟩:=sm.each B hB;have bl:SlT triC 3 h2 gn a vs.length c vs:=⟨own.sl,rfl⟩;refine⟨tv,N,⟨by rw[m1];exact bj,by rw[m2];exact bk,by omega⟩,(bl.get jB a0 (j:=0) (m:=3) (by omega)).1,fun {W} k=>?_⟩;have cr:SlT triC 3 W gn a vs.length c vs:=⟨(own.keep k fF).sl,rfl⟩;exact⟨(cr.get jB a0 (j:=0) (m:=3) (by omega)).2,(nd.2 i tv N a0 hN).keep k fF⟩
 have a4:∀i:Nat,aA (Cn.off a) (i:Int) 3=Cn.off a+i * 3:=fun i=>by unfold aA;rw[Uo]
 refine⟨fun vals m hh=>∃(i:Nat) (ao:OA) (co:Nat) (g:ON) (L:List PageT),[.slice ao L.length co,.int .i64 (i:Int)]=vals/\m=lb - i/\i<=lb/\Ow hh 4 g ao L.length co (L.flatMap pageC)/\(∀y,g=some y->h2.next<=y)/\PgsOk p w i L/\Keep (fun y=>h2.next<=y) h2 hh/\Wf hh,
  ⟨lb,0,none,0,none,[],rfl,rfl,Uk _,Ow.nil _ _,by simp,⟨Uf _,by simp,by simp,by simp⟩,Keep.refl _ _,ag⟩,?_⟩
 rintro d9 ea eb n m hh ⟨i,ao,co,g,L,e,rfl,hi,ow,hg,pg,kk,ax⟩;simp only[Ur,Value.slice.injEq,Value.int.injEq,true_and,and_true]at e;obtain⟨⟨rfl,rfl,rfl⟩,rfl⟩:=e;have al:Kept h2 hh:=kk.mono ag fun y G hc=>by omega
 have an:=k2.trans af al fF;have bm:=bi.trans wf al fF;by_cases hc:aR (bO (i:Int) (aE vs.length)) (bO (i:Int) 60000) false=true
 ·rw[if_pos hc];have ct:i < lb:=by rw[bN,aC,aF]at hc;omega
  obtain⟨U,N0,a5,cu,cv⟩:=ar ct;obtain⟨a6,cy⟩:=cv al;refine⟨⟨cu,Ui _,by omega⟩,U.a1,U.l1,U.c1,U.a2,U.l2,U.c2,U.a3,U.l3,U.c3,⟨rfl,by rw[a4];exact a6⟩,?_⟩;refine(Sy cy a5).wf fun v h3 bo ec ⟨⟨tv,e,cz⟩,k3⟩=>⟨tv.a1,tv.l1,tv.c1,tv.a2,tv.l2,tv.c2,tv.a3,tv.l3,tv.c3,e,?_⟩;intro h4 e4;obtain⟨b4,k4,n4,c0⟩:=aB bo e4;obtain⟨h5,e5,b5,bp,k5,n5,bq⟩:=bP c0 (vs:=triC tv) b4 k4 bo (Uf _) rfl rfl;have br:=k3.trans ax bp fF;have bt:OwnN h5 (fun y=>hh.next<=y/\y≠h3.next) tv N0:=(cz.keep bp fF).mono fun y G=>by omega
  have au:∀{W:Hp},Blk W h3.next (some h3.next) (triC tv)->W.cellsAt h3.next 0 3=some (triC tv):=fun hb=>by rw[hb.cells (by rw[jB];omega)];rfl
  refine⟨rfl,h5,e5,tv.a1,tv.l1,tv.c1,tv.a2,tv.l2,tv.c2,tv.a3,tv.l3,tv.c3,⟨rfl,au b5⟩,?_⟩;refine(NG tv.a1 tv.a2 tv.a3 tv.l1 tv.c1 tv.l2 tv.c2 tv.l3 tv.c3 h5).mono fun v ed ⟨e,eh⟩=>⟨_,e,?_⟩;subst eh;have c4:=an.trans af br fF;refine⟨rfl,p,w,⟨rfl,aq c4⟩,tv.a1,tv.l1,tv.c1,tv.a2,tv.l2,tv.c2,tv.a3,tv.l3,tv.c3,⟨rfl,au b5⟩,?_⟩;refine(Gt (bt.at bq) hF a5).mono fun v du ⟨⟨e,s,ev,c5⟩,eh⟩=>⟨s,e,ev,?_⟩;subst eh;obtain⟨c6,bu,bw,bx⟩:∃kn:Nat,(if tv.l2=0/\tv.l3=0 then(1:Int) else 2)=(kn:Int)/\1<=kn/\kn<=3:=by
   by_cases hk:tv.l2=0/\tv.l3=0
   ·exact⟨1,by rw[if_pos hk];rfl,by omega,by omega⟩
   ·exact⟨2,by rw[if_neg hk];rfl,by omega,by omega⟩
  rw[bu];refine⟨Kn p ls h3.next hh tv,⟨ls,0,false,c6,s,e,N0,rfl,rfl,Uk _,bw,bx,c5,b5,bt,a5,br,bq⟩,?_⟩;rintro b kI s1 eI jI m W ⟨j,b',kn,s',e',N,eq,rfl,hj,a8,a9,ak,bz,oz,O,kz,av⟩;simp only[Ur,Value.int.injEq,Value.bool.injEq,Value.string.injEq,true_and,and_true]at eq;obtain⟨rfl,rfl,rfl,rfl,rfl⟩:=eq;have c8:=an.trans af kz fF;have ee:=al.trans ag kz fF;have c9:=bm.trans wf kz fF;have b3:=Kept.blk c8 b1;refine⟨rfl,sa,ls,cs,⟨rfl,b3.one rfl⟩,?_⟩;by_cases ba:bO (j:Int) (aE ls)=true
  ·rw[if_pos ba];have ap:j < ls:=by rw[aC,aF]at ba;omega
   obtain⟨sp,da⟩:∃sp,Ss[j]? = some sp:=⟨_,Uh (by omega)⟩;obtain⟨gs,ef,db⟩:=(x.keep c9 fF).spoils;obtain⟨dc,dd⟩:=db.get GC da (j:=0) (m:=3) (by omega);have b9:aA (Cn.off sa) (j:Int) 3=Cn.off sa+j * 3+0:=by unfold aA;rw[Uo];omega
   obtain⟨kd,aT,E⟩:=sp;refine⟨rfl,sa,ls,cs,⟨rfl,b3.one rfl⟩,⟨dc,Ui _,by omega⟩,kd,aT,E,⟨rfl,by rw[b9];exact dd⟩,?_⟩;intro h6 e6;obtain⟨b6,k6,n6,de⟩:=aB av e6;obtain⟨h7,e7,b7,bf,k7,n7,aa⟩:=bP de (vs:=[.int .i64 kd,.int .i64 aT,.int .i64 E]) b6 k6 av (Uf _) rfl rfl;have ac:=kz.trans ax bf fF;have df:=an.trans af ac fF;have ca:=al.trans ag ac fF;have ad:=Kept.blk bf bz;have ah:=oz.keep bf fF;have dg:=bz.glt av;have rs:h7.cellsAt W.next 0 1=some [.int .i64 kd]/\h7.cellsAt W.next 1 1=some [.int .i64 aT]/\h7.cellsAt W.next 2 1=some [.int .i64 E]:=⟨b7.one rfl,b7.one rfl,b7.one rfl⟩;have same:∀(bb:Bool),∃m',aI m' (ls - j)/\Kn p ls h3.next hh tv [.bool bb,.int .u8 (kn:Int),.string s',.int .i64 e',.int .i64 (aG .i64 (j:Int) 1)] m' h7:=fun bb=>Kn.next ap (by omega) rfl a8 a9 ak ad ah O ac aa;refine⟨rfl,h7,e7,rfl,aT,⟨rfl,rs.2.1⟩,?_⟩;by_cases cc:cP aT (i:Int)=true
   ·rw[if_pos cc];exact same b'
   rw[if_neg cc];refine⟨rfl,kd,⟨rfl,rs.1⟩,?_⟩;by_cases cd:bX kd 1=true
   ·rw[if_pos cd];exact same true
   rw[if_neg cd];have pk:∀{G:Hp} {N':NodeT},Blk G h3.next (some h3.next) (triC tv)->OwnN G (fun y=>hh.next<=y/\y≠h3.next) tv N'->AD N'->Kept hh G->Wf G->
     C 44 [fr p w,.agg (Array.mk [.slice tv.a1 tv.l1 tv.c1,.slice tv.a2 tv.l2 tv.c2,.slice tv.a3 tv.l3 tv.c3])] G fun v h'=>∃(s2:BA) (n:Int),v = .tuple (Array.mk [.string s2,.int .i64 n])/\
      if bX n 0=true then ∃m',aI m' (ls - j)/\Kn p ls h3.next hh tv [.bool b',.int .u8 (kn:Int),.string s2,.int .i64 e',.int .i64 (aG .i64 (j:Int) 1)] m' h'
      else ∃m',aI m' (ls - j)/\Kn p ls h3.next hh tv [.bool b',.int .u8 (kn:Int),.string s',.int .i64 e',.int .i64 (aG .i64 (j:Int) 1)] m' h':=by
    intro G N' hb ho hs hk bg;refine(Gt (ho.at bg) hF hs).mono fun v h' ⟨⟨e,s2,ev,ae⟩,eh⟩=>⟨s2,e,ev,?_⟩;subst eh;by_cases he:bX e 0=true
    ·rw[if_pos he];rw[aV]at he;exact Kn.next ap (by omega) rfl a8 a9 (fun _=>ae he) hb ho hs hk bg
    ·rw[if_neg he];exact Kn.next ap (by omega) rfl a8 a9 ak hb ho hs hk bg
   by_cases ce:bX kd 2=true
   ·rw[if_pos ce];refine⟨rfl,E,⟨rfl,rs.2.2⟩,fun _=>rfl,E,fun _=>⟨rfl,rs.2.2⟩,?_⟩;by_cases ai:aR (iE E 0) (bO E (aE vs.length)) false=true
    ·rw[if_pos ai];rw[bN,cK,aC,aF]at ai;obtain⟨bn,rfl⟩:∃bn:Nat,E=(bn:Int):=⟨E.toNat,by omega⟩;obtain⟨bv,Nb,dh,di,cf⟩:=ar (i:=bn) (by omega);obtain⟨cg,ci⟩:=cf ca;have V:a.isSome=true/\bS (bn:Int) vs.length:=⟨di,Ui _,by omega⟩;refine⟨rfl,p,w,⟨rfl,aq df⟩,rfl,(bn:Int),⟨rfl,rs.2.2⟩,V,bv.a1,bv.l1,bv.c1,bv.a2,bv.l2,bv.c2,bv.a3,bv.l3,bv.c3,⟨rfl,by rw[a4];exact cg⟩,?_⟩;refine(Gt (ci.at (n0:=h7.next) fun y G=>by have:=ca.next;omega) hF dh).mono fun v h8 ⟨⟨e,s2,ev,ae⟩,eh⟩=>⟨s2,e,ev,?_⟩;subst eh;by_cases he:bX e 0=true
     ·rw[if_pos he];rw[aV]at he;refine⟨rfl,(bn:Int),⟨rfl,rs.2.2⟩,V,bv.a1,bv.l1,bv.c1,bv.a2,bv.l2,bv.c2,bv.a3,bv.l3,bv.c3,⟨rfl,by rw[a4];exact cg⟩,?_⟩;refine(NG bv.a1 bv.a2 bv.a3 bv.l1 bv.c1 bv.l2 bv.c2 bv.l3 bv.c3 h8).mono fun v h9 ⟨e2,eh⟩=>⟨_,e2,?_⟩;subst eh;by_cases hk:bv.l2=0/\bv.l3=0
      ·rw[if_pos hk];exact Kn.next ap (by omega) (kn:=1) rfl (by omega) (by omega) (fun _=>ae he) ad ah O ac aa
      ·rw[if_neg hk];exact Kn.next ap (by omega) (kn:=2) rfl (by omega) (by omega) (fun _=>ae he) ad ah O ac aa
     ·rw[if_neg he];exact same b'
    ·rw[if_neg ai];exact same b'
   rw[if_neg ce];by_cases cj:bX kd 3=true
   ·rw[if_pos cj];refine⟨rfl,E,⟨rfl,rs.2.2⟩,fun _=>rfl,E,fun _=>⟨rfl,rs.2.2⟩,?_⟩;by_cases ai:aR (iE E 1) (qA E 3) false=true
    ·rw[if_pos ai];rw[bN,cK,eV]at ai;obtain⟨bn,rfl⟩:∃bn:Nat,E=(bn:Int):=⟨E.toNat,by omega⟩;refine⟨rfl,(bn:Int),⟨rfl,rs.2.2⟩,?_⟩;exact Kn.next ap (by omega) (kn:=bn) (by rw[eF,Up (by omega)]) (by omega) (by omega) ak ad ah O ac aa
    ·rw[if_neg ai];exact same b'
   rw[if_neg cj];by_cases ck:bX kd 5=true
   ·rw[if_pos ck];have r1:h7.cellsAt h3.next 0 1=some [.slice tv.a1 tv.l1 tv.c1]:=ad.one rfl;refine⟨rfl,tv.a1,tv.l1,tv.c1,⟨rfl,r1⟩,?_⟩;by_cases hl:dB (aE tv.l1) 0=true
    ·rw[if_pos hl];rw[aS,aF]at hl;have ch:∀t:BA,∃h8 N',h7.store (blk tv.a1) (Cn.off tv.a1+1) [.string t]=some h8/\Blk h8 h3.next (some h3.next) (triC tv)/\OwnN h8 (fun y=>hh.next<=y/\y≠h3.next) tv N'/\AD N'/\Kept hh h8/\Wf h8:=by
      intro t;obtain⟨_,_,h8,N',e8,o8,k8,aj,m1,m2,m3⟩:=ah.setPair (by omega) t;exact⟨h8,N',e8,k8.blk ad fun y G hc=>by simp at G;subst G;exact hc.2 rfl,o8,⟨by rw[m1];exact O.1,by rw[m2];exact O.2.1,by rw[m3];exact O.2.2⟩,ac.trans ax k8 fun y G hc=>by omega,aj aa⟩
     obtain⟨dj,⟨s3,dk⟩,_⟩:=ah.setPair (by omega) .empty;have V:tv.a1.isSome=true/\bS 0 tv.l1:=⟨dj,by omega,by omega⟩;refine⟨rfl,tv.a1,tv.l1,tv.c1,⟨rfl,r1⟩,V,rfl,s3,⟨rfl,by rw[yH];exact dk⟩,?_⟩
     split
     ·obtain⟨h8,N',e8,b8,o8,s8,k8,aj⟩:=ch (ByteArray.mk (Array.mk []));exact⟨rfl,tv.a1,tv.l1,tv.c1,⟨rfl,r1⟩,V,rfl,rfl,h8,by rw[yH];exact e8,rfl,p,w,⟨rfl,aq (an.trans af k8 fF)⟩,tv.a1,tv.l1,tv.c1,tv.a2,tv.l2,tv.c2,tv.a3,tv.l3,tv.c3,⟨rfl,au b8⟩,pk b8 o8 s8 k8 aj⟩
     ·obtain⟨h8,N',e8,b8,o8,s8,k8,aj⟩:=ch (ByteArray.mk (Array.mk [97,110,111,116,104,101,114]));exact⟨rfl,tv.a1,tv.l1,tv.c1,⟨rfl,r1⟩,V,rfl,rfl,h8,by rw[yH];exact e8,rfl,p,w,⟨rfl,aq (an.trans af k8 fF)⟩,tv.a1,tv.l1,tv.c1,tv.a2,tv.l2,tv.c2,tv.a3,tv.l3,tv.c3,⟨rfl,au b8⟩,pk b8 o8 s8 k8 aj⟩
    ·rw[if_neg hl];exact same b'
   rw[if_neg ck];by_cases cl:bX kd 4=true
   ·rw[if_pos cl];have r1:h7.cellsAt h3.next 2 1=some [.slice tv.a3 tv.l3 tv.c3]:=ad.one rfl;refine⟨rfl,tv.a3,tv.l3,tv.c3,⟨rfl,r1⟩,?_⟩;by_cases hl:dB (aE tv.l3) 0=true
    ·rw[if_pos hl];rw[aS,aF]at hl;obtain⟨dl,u,hu,h8,N',e8,o8,k8,aj,m1,m2,m3⟩:=ah.setKid (by omega);have V:tv.a3.isSome=true/\bS 0 tv.l3:=⟨dl,by omega,by omega⟩;have b8:=k8.blk ad fun y G hc=>by simp at G;subst G;exact hc.2 rfl
     have cm:=ac.trans ax k8 fun y G hc=>by omega
     have cn:bS 0 32:=⟨by omega,by omega⟩;exact⟨rfl,tv.a3,tv.l3,tv.c3,⟨rfl,r1⟩,V,rfl,⟨rfl,cn⟩,(u.toNat:Int),⟨rfl,by rw[Hw];exact hu⟩,V,rfl,⟨rfl,cn⟩,rfl,h8,by rw[Hw,Mk];exact e8,rfl,p,w,⟨rfl,aq (an.trans af cm fF)⟩,tv.a1,tv.l1,tv.c1,tv.a2,tv.l2,tv.c2,tv.a3,tv.l3,tv.c3,⟨rfl,au b8⟩,pk b8 o8 ⟨by rw[m1];exact O.1,by rw[m2];exact O.2.1,by rw[m3];exact O.2.2⟩ cm (aj aa)⟩
    ·rw[if_neg hl];exact same b'
   rw[if_neg cl];exact same b'
  ·rw[if_neg ba];by_cases ay:aR (bX e' 0) (aD b') false=true
   ·rw[if_pos ay];have dn:e'=0:=by rw[bN,aV]at ay;exact ay.1
    have ae:=ak dn;intro h6 e6;rw[show aG .i64 (i:Int) 2=_ from cN 2 i (by omega),nP,Up (by omega)]at e6;have dp:=ow.keep kz fF;have eg:=pg.ln;obtain⟨a7,c7,g7,h7,e7,o7,dq,k7,aa⟩:=Ow.append1 av Pz dp (new:=pageC ⟨kn,i+2,1,s'⟩) e6 rfl rfl (bM (by omega));have dg:=kz.next;have ei:=al.next;refine⟨a7,L.length+1,c7,h7,e7,lb - (i+1),by simp only[aI];omega,i+1,a7,c7,g7,L++[⟨kn,i+2,1,s'⟩],?_,rfl,by omega,?_,fun y G=>?_,⟨?_,fun q hq=>?_,fun q hq=>?_,?_⟩,(kk.trans ag kz fun _ _ h=>h.elim).trans ag k7 fun y G hc=>hg y hc,aa⟩
    ·rw[Ug,show aG .i64 (i:Int) 1=_ from cN 1 i (by omega)];rfl
    ·rw[Ug,VX];simpa using o7
    ·rcases dq with hq | ⟨z,bh,hq⟩
     ·exact hg y (by rw[<-hq];exact G)
     ·rw[G]at bh;injection bh with bh;omega
    ·rw[Ug];simp;omega
    ·rw[VF,WC]at hq;rcases hq with hq | rfl
     ·exact pg.ok q hq
     ·refine⟨?_,by show s'.size<=8192;omega⟩;unfold pageErr;rw[if_neg (by simpa using hF),if_neg (by show ¬(kn < 1\/3 < kn);omega),if_neg (by show ¬((¬(2<=i+2/\i+2 < 2147483648)\/1 < 1)\/1099511627776 < 1);omega),if_neg (by show ¬(p - 32 < (s'.size:Int));omega)]
    ·rw[VF,WC]at hq;rcases hq with hq | rfl
     ·have:=pg.no q hq;omega
     ·show i+2 < i+1+2;omega
    ·rw[VY,List.nodup_append];refine⟨pg.nd,by simp,?_⟩;intro u hu u2 cp;simp at cp;subst cp;obtain⟨q,hq,rfl⟩:=Uu.1 hu;have:=pg.no q hq
     omega
   ·rw[if_neg ay];refine⟨lb - (i+1),by simp only[aI];omega,i+1,ao,co,g,L,?_,rfl,by omega,ow.keep kz fF,hg,⟨by have:=pg.ln;omega,pg.ok,fun q hq=>by have:=pg.no q hq;omega,pg.nd⟩,kk.trans ag kz fun _ _ h=>h.elim,av⟩;rw[show aG .i64 (i:Int) 1=_ from cN 1 i (by omega)]
 ·rw[if_neg hc];have dr:i=lb:=by
   have:¬i < lb:=fun h=>hc (by rw[bN,aC,aC,aF];omega)
   omega
  subst dr;exact⟨⟨ao,co,g,L,rfl,ow,fun y G=>by have:=hg y G;have:=bi.next;omega,by rw[az];exact pg⟩,bm⟩
end Go.Proofs.YtmapagggnigfpaaGreat.pk
namespace Go.Cn.Pk
def Cb:List BudT->Nat->Nat
 | [],n=>n
 | B::Bs,n=>if n<=100000 then Cb Bs (n+1+B.ps.length+B.kids.length+B.K.length) else n
theorem rF(B:BudT)(Bs:List BudT)(n:Nat):Cb (B::Bs) n=if n<=100000 then Cb Bs (n+1+B.ps.length+B.kids.length+B.K.length) else n:=rfl
theorem ID:∀(Bs:List BudT) (n:Nat),n<=Cb Bs n
 | [],n=>Uf _
 | B::Bs,n=>by
  rw[rF]
  split
  ·have:=ID Bs (n+1+B.ps.length+B.kids.length+B.K.length);omega
  ·exact Uf _
theorem yZ:∀(Bs:List BudT) (n:Nat),Cb Bs n<=100000->∀B∈Bs,B.ps.length<=100000/\B.K.length<=100000/\B.kids.length<=100000
 | [],n,h,B,E=>by simp at E
 | G::Bs,n,h,B,E=>by
  rw[rF]at h
  split at h
  ·have:=ID Bs (n+1+G.ps.length+G.kids.length+G.K.length);rcases VM.1 E with rfl | E
   ·omega
   ·exact yZ Bs _ h B E
  ·omega
def zB(Bs:List BudT)(Ss:List (Int×Int×Int)):Bool:=decide (Cb Bs 0<=100000/\Bs.length<=300/\Ss.length<=300)
theorem zA{Bs:List BudT}{Ss:List (Int×Int×Int)}(h:zB Bs Ss=true):Small Bs Ss:=by
 unfold zB at h;rw[decide_eq_true_eq]at h;exact⟨h.2.1,h.2.2,yZ Bs 0 h.1⟩
end Go.Cn.Pk
namespace Go.Proofs.YtmapagggnigfpaaGreat.pk
open Cn Cn.Pk vc
set_option maxRecDepth 20000 in
theorem TQ{h:Hp}{n0:Nat}{p w rt off:Int}{ab sa:OA}{lb cb ls cs:Nat}{tn:Bool}{Bs:List BudT}{Ss:List (Int×Int×Int)}(x:PlotAt h n0 ab lb cb sa ls cs Bs Ss)(V:lb<=140737488355327/\ls<=140737488355327/\∀B∈Bs,B.ps.length<=140737488355327/\B.K.length<=140737488355327/\B.kids.length<=140737488355327):
  C 6 [tJ p w ab lb cb rt sa ls cs tn off] h fun v h'=>v = .bool (zB Bs Ss)/\h'=h:=by
 refine uP ?_;refine sv OO fun wf=>?_;obtain⟨ae,af⟩:=x.len;obtain⟨ag,ah,aa⟩:=V;intro h1 e1;obtain⟨b1,k1,n1,ai⟩:=aB wf e1;have x1:=x.keep k1 fF;have rb:h1.cellsAt h.next 2 1=some [.slice ab lb cb]:=b1.one rfl;refine⟨fun vals m hh=>∃(i n:Nat),[.int .i64 (n:Int),.int .i64 (i:Int)]=vals/\m=lb - i/\i<=lb/\Cb (Bs.drop i) n=Cb Bs 0/\n<=500000000000000/\hh=h1,⟨_,0,0,rfl,rfl,Uk _,by rw[VC],by omega,rfl⟩,?_⟩;rintro nI iI m hh ⟨i,n,e,rfl,hi,hle,hn,rfl⟩;simp only[Ur,Value.int.injEq,true_and,and_true]at e;obtain⟨rfl,rfl⟩:=e;refine⟨rfl,ab,lb,cb,⟨rfl,rb⟩,?_⟩;by_cases hc:aR (bO (i:Int) (aE lb)) (qA (n:Int) 100000) false=true
 ·rw[if_pos hc];rw[bN,aC,aF,eV]at hc;obtain⟨B,U⟩:∃B,Bs[i]? = some B:=⟨_,Uh (by omega)⟩;obtain⟨⟨g,vs,q1,q2,q3,q4⟩,_⟩:=x1;obtain⟨bv,hv⟩:∃v,vs[i]? = some v:=⟨_,Uh (by omega)⟩;obtain⟨⟨_,_,r1⟩,⟨_,_,r2⟩,⟨_,_,r3⟩⟩:=q4 i bv B hv U;have z1:=r1.len;have z2:=r2.len;have z3:=r3.len;obtain⟨ha,ac⟩:=q2.get jB hv (j:=0) (m:=1) (by omega);obtain⟨_,PO⟩:=q2.get jB hv (j:=1) (m:=1) (by omega);obtain⟨_,ad⟩:=q2.get jB hv (j:=2) (m:=1) (by omega);have E:aA (Cn.off ab) (i:Int) 3=Cn.off ab+i * 3:=by unfold aA;rw[Uo]
  obtain⟨w1,w2,w3⟩:=aa B (Uy U);have G:ab.isSome=true/\bS (i:Int) lb:=⟨ha,Ui _,by omega⟩;refine⟨rfl,ab,lb,cb,⟨rfl,rb⟩,G,rfl,bv.a1,bv.l1,bv.c1,⟨rfl,by rw[E];exact ac⟩,rfl,ab,lb,cb,⟨rfl,rb⟩,G,rfl,bv.a3,bv.l3,bv.c3,⟨rfl,by rw[E];exact ad⟩,rfl,ab,lb,cb,⟨rfl,rb⟩,G,rfl,bv.a2,bv.l2,bv.c2,⟨rfl,by rw[E];exact PO⟩,?_⟩;refine⟨lb - (i+1),by simp only[aI];omega,i+1,n+1+bv.l1+bv.l3+bv.l2,?_,rfl,by omega,?_,by omega,rfl⟩
  ·rw[show aG .i64 (i:Int) 1=_ from cN 1 i (by omega),aF,aF,aF,show aG .i64 (n:Int) 1=_ from cN 1 n (by omega),addNat _ _ (by omega),addNat _ _ (by omega),addNat _ _ (by omega)]
  ·have O:Bs.drop i=B::Bs.drop (i+1):=by
    rw[<-List.getElem_cons_drop (by omega:i < Bs.length)];rw[Uh (by omega)]at U;injection U with U
    rw[U]
   rw[<-hle,O,rF,if_pos (by omega),z1,z2,z3]
 ·rw[if_neg hc];rw[bN,aC,aF,eV]at hc;refine⟨fun _=>rfl,ab,lb,cb,fun _=>⟨rfl,rb⟩,fun _=>rfl,sa,ls,cs,fun _=>⟨rfl,b1.one rfl⟩,?_,k1⟩;congr 1;rw[Va,bN,bN,eV,eV,eV,aF,aF];unfold zB;rw[decide_eq_true_eq];have W:Cb Bs 0<=100000↔n<=100000:=by
   rw[<-hle];by_cases aj:i < lb
   ·cases hd:Bs.drop i with
    | nil=>rfl
    | cons y ys=>rw[rF,if_neg (by omega)]
   ·rw[VV (by omega)]
    rfl
  rw[W]
  omega
structure MadeAt(h h':Hp)(t u c s sh mb:Nat)(p w:Int)(n:Nat)(L:List PageT)(bQ:Nat)(aM:LU):Prop where
 fr:Fr p w
 rs:aM.length=32
 no:bQ<=4294967295
 pg:PgsOk p w n L
 pn:n<=300
 sheet:SheetAt h' s c sh mb p w L
 tree:∃dS,Blk h' t (some t) (treeC s p w bQ aM dS 0)
 dtree:∃aL cL dS gr,Blk h' u (some u) (dtC p w aL L.length cL bQ aM dS 0)/\SlT pageC 4 h' gr aL L.length cL L/\(∀y,gr=some y->h.next<=y/\y < sh/\y < mb)
 ord:h.next<=sh/\h.next<=mb/\sh < c/\mb < c/\c < s/\s < t/\t < u/\u < h'.next
set_option maxRecDepth 20000 in
theorem Qd{h:Hp}{n0:Nat}{p w rt off:Int}{ab sa:OA}{lb cb ls cs:Nat}{tn:Bool}{Bs:List BudT}{Ss:List (Int×Int×Int)}(x:PlotAt h n0 ab lb cb sa ls cs Bs Ss)(bj:n0<=h.next)(sm:Small Bs Ss):
  C 8 [tJ p w ab lb cb rt sa ls cs tn off] h fun v h'=>((∃c,v = .tuple #[.pointer none,.pointer none,.pointer c,.bool true])\/(∃t u c s sh mb L bQ aM,v = .tuple #[pt t,pt u,pt c,.bool true]/\MadeAt h h' t u c s sh mb p w Bs.length L bQ aM))/\Kept h h':=by
 refine sv LL fun wf=>?_;have bk:=sm.buds;intro h1 e1;obtain⟨b1,k1,n1,O⟩:=aB wf e1;have x1:=x.keep k1 fF;have ac:∀{hz:Hp},Kept h1 hz->hz.cellsAt h.next 0 7=some [.int .i64 p,.int .i64 w,.slice ab lb cb,.int .i64 rt,.slice sa ls cs,.bool tn,.int .i64 off]:=fun k=>by rw[(Kept.blk k b1).cells (by simp)];rfl
 have E:∀{hz:Hp},Kept h1 hz->hz.cellsAt h.next 0 2=some [.int .i64 p,.int .i64 w]:=fun k=>by rw[(Kept.blk k b1).cells (by simp)];rfl
 refine⟨rfl,p,w,⟨rfl,E (Keep.refl _ _)⟩,?_⟩;refine(Cf p w h1).mono fun v bl ⟨e,eh⟩=>⟨_,e,?_⟩;subst eh;by_cases hF:Fr p w
 rotate_left
 ·rw[if_pos (by simp[aD,hF])];exact⟨.inl ⟨none,rfl⟩,k1⟩
 rw[if_neg (by simp[aD,hF])];obtain⟨bm,bn,bo,bp,aj⟩:=hF.nat;refine⟨p,w,ab,lb,cb,rt,sa,ls,cs,tn,off,⟨rfl,ac (Keep.refl _ _)⟩,?_⟩;refine(Rj (rt:=rt) (off:=off) (tn:=tn) hF x1 (by omega) sm).wf fun v h2 aa bq ⟨⟨aL,cL,gr,L,e,ad,a6,pg⟩,k2⟩=>⟨aL,L.length,cL,e,?_⟩;have ak:=k1.trans wf k2 fF;refine⟨rfl,p,w,⟨rfl,E k2⟩,?_⟩;have al:SlT pageC 4 h2 gr aL L.length cL L:=⟨ad.sl,rfl⟩;have br:=pg.ln;refine(Ka hF al (ad.glt aa) (by omega) (fun g hg=>(pg.ok g hg).1) pg.nd).wf fun v h3 an bv ⟨⟨sh,mb,e,bw,bx,bz,b3,b5,xs⟩,k3⟩=>⟨_,_,e,?_⟩;rw[if_neg (by simp[aR,cP,isN])];intro h4 e4;obtain⟨b4,k4,n4,a8⟩:=aB an e4;have ao:=k3.trans aa k4 fF;have ap:=k2.trans O ao fF;have a9:=ak.trans wf ao fF;refine⟨rfl,p,w,⟨rfl,E ap⟩,?_⟩;refine(TJ hF h3.next h4).wf fun v h5 aq b6 ⟨⟨s,e,b7,b9,bs⟩,k5⟩=>⟨some ⟨s,0,none⟩,0,e,fun _=>trivial,?_⟩;rw[if_neg (by simp[aR,cP,iR])];have ae:=ap.trans O k5 fF;have af:=a9.trans wf k5 fF;refine⟨rfl,p,w,⟨rfl,E ae⟩,p,w,ab,lb,cb,rt,sa,ls,cs,tn,off,⟨rfl,ac ae⟩,?_⟩
 obtain⟨R,hR⟩:∃R,R=pL p w Bs rt off tn:=⟨_,rfl⟩;have G:R.2.1.length=32:=by rw[hR];exact JU aj Bs rt off tn
 have ba:R.1<=4294967295:=by have:=Ll (p:=p) (w:=w) Bs rt off tn;rw[hR];omega
 refine(QP (rt:=rt) (off:=off) (tn:=tn) hF (x.keep af fF) (by have:=af.next;omega) sm).wf fun v h6 ca cc ⟨e,k6⟩=>?_;rw[<-hR]at e;have ar:=ae.trans O k6 fF;have bb:=af.trans wf k6 fF;refine⟨(R.1:Int),cV R.2.1,R.2.2,0,by rw[aH G];exact e,⟨rfl,E ar⟩,?_⟩;rw[aH G];refine(TD (T:=139) (sh:=s) (bQ:=R.1) (p:=p) (w:=w) (dS:=R.2.2) (ver:=0) G h6).wf fun v h7 bf cd ⟨au,k7⟩=>?_;have ag:=ar.trans O k7 fF;have ah:=bb.trans wf k7 fF;obtain⟨a7,n7,ev,U⟩:∃(a7:OA) (n7:Int),v = .tuple #[.pointer a7,.int .i64 n7]/\((¬Bb p w R.1 R.2.1 R.2.2/\a7=none/\n7=2)\/(Bb p w R.1 R.2.1 R.2.2/\n7=0/\∃t,a7=some ⟨t,0,none⟩/\h6.next<=t/\t < h7.next/\Blk h7 t (some t) (treeC s p w R.1 R.2.1 R.2.2 0))):=by
  rcases au with ⟨V,hv⟩ | ⟨W,t,hv,av,ax,bt⟩
  ·exact⟨none,2,hv,.inl ⟨V,rfl,rfl⟩⟩
  ·exact⟨_,0,hv,.inr ⟨W,rfl,t,rfl,av,ax,bt⟩⟩
 refine⟨a7,n7,ev,rfl,p,w,⟨rfl,E ag⟩,p,w,ab,lb,cb,rt,sa,ls,cs,tn,off,⟨rfl,ac ag⟩,?_⟩;refine(QP (rt:=rt) (off:=off) (tn:=tn) hF (x.keep ah fF) (by have:=ah.next;omega) sm).wf fun v h8 ce cf ⟨e8,k8⟩=>?_;rw[<-hR]at e8;have bg:=ag.trans O k8 fF;have bh:=ah.trans wf k8 fF;refine⟨(R.1:Int),cV R.2.1,R.2.2,0,by rw[aH G];exact e8,⟨rfl,E bg⟩,?_⟩;rw[aH G];refine(Sn (bQ:=R.1) (p:=p) (w:=w) (dS:=R.2.2) (ver:=0) G aL L.length cL h8).wf fun v h9 cg ci ⟨ai,k9⟩=>?_;have ay:=bh.trans wf k9 fF;rcases ai with ⟨V,hv⟩ | ⟨W,u,hv,cj,ck,bu⟩
 ·refine⟨none,2,hv,?_⟩;rcases U with ⟨_,rfl,rfl⟩ | ⟨W,_⟩
  ·exact⟨.inl ⟨_,rfl⟩,ay⟩
  ·exact absurd W V
 ·refine⟨_,0,hv,?_⟩;rcases U with ⟨V,_⟩ | ⟨_,rfl,t,rfl,av,ax,bt⟩
  ·exact absurd W V
  ·have az:=k8.trans bf k9 fF;have a0:=(k6.trans aq k7 fF).trans aq az fF;have a4:=k5.trans a8 a0 fF;have a5:=k4.trans an a4 fF;have bi:=k3.trans aa a5 fF;have j2:=ak.next;refine⟨.inr ⟨t,u,h3.next,s,sh,mb,L,R.1,R.2.1,rfl,hF,G,ba,?_,by omega,⟨Kept.blk a0 bs,⟨0,Kept.blk a4 b4⟩,(xs.keep a5 (fun h=>h) fun h=>h)⟩,⟨_,Kept.blk az bt⟩,⟨aL,cL,_,gr,bu,al.keep bi fF,fun y hy=>?_⟩,?_⟩,ay⟩
   ·exact pg
   ·have:=a6 y hy;have:=ad.glt aa y hy
    omega
   ·omega
theorem IS{h:Hp}{a b:OA}(E:a=none\/b=none)(G:a=none\/∃t sh p w dS ver bQ aM,a=some ⟨t,0,none⟩/\Blk h t (some t) (treeC sh p w bQ aM dS ver)/\aM.length=32/\Fr p w):
  C 9 [.pointer a,.pointer b] h fun v h'=>v = .tuple #[.int .i64 0,.int .i64 1]:=by
 refine sv uO fun wf=>?_;refine(SC E G).mono fun v h' ⟨e,O⟩=>⟨1,e,?_⟩;rw[if_pos (by simp[cP])]
theorem Ax{p w:Int}{n:Nat}{L:List PageT}(pg:PgsOk p w n L)(G:n<=300)(bQ:Nat)(aM:LU):(cZ (aY p w L) p w bQ aM).1.length<=1000000000:=by
 have O:=DE (src:=aY p w L) (p:=p) (w:=w) Lr bQ aM;have U:=EV (p:=p) (w:=w) (L:=L) fun g E=>(pg.ok g E).2;have V:=pg.ln
 omega
def OC(lb ls:Nat)(Bs:List BudT):Prop:=lb<=140737488355327/\ls<=140737488355327/\∀B∈Bs,B.ps.length<=140737488355327/\B.K.length<=140737488355327/\B.kids.length<=140737488355327
set_option maxRecDepth 20000 in
theorem Kb{h:Hp}{p w rt off p' w' V E:Int}{ab sa ad ae:OA}{lb cb ls cs W af aa ag:Nat}{tn ac:Bool}{Bs U:List BudT}{Ss ah:List (Int×Int×Int)}(x:PlotAt h h.next ab lb cb sa ls cs Bs Ss)(y:PlotAt h h.next ad W af ae aa ag U ah)(hx:OC lb ls Bs)(hy:OC W aa U):
  C 3 [tJ p w ab lb cb rt sa ls cs tn off,tJ p' w' ad W af V ae aa ag ac E] h fun v h'=>v = .bool true:=by
 refine sv JJ fun wf=>?_;intro h1 e1 h2 e2;obtain⟨b1,k1,n1,bi⟩:=aB wf e1;obtain⟨b2,k2,n2,b3⟩:=aB bi e2;have aj:=k1.trans wf k2 fF;have x2:=x.keep aj fF;have y2:=y.keep aj fF;have uL:∀{hz:Hp},Kept h2 hz->hz.cellsAt h.next 0 7=some [.int .i64 p,.int .i64 w,.slice ab lb cb,.int .i64 rt,.slice sa ls cs,.bool tn,.int .i64 off]:=fun k=>by rw[(Kept.blk k (Kept.blk k2 b1)).cells (by simp)];rfl
 have av:∀{hz:Hp},Kept h2 hz->hz.cellsAt h1.next 0 7=some [.int .i64 p',.int .i64 w',.slice ad W af,.int .i64 V,.slice ae aa ag,.bool ac,.int .i64 E]:=fun k=>by rw[(Kept.blk k b2).cells (by simp)];rfl
 have ap:Kept h2 h2:=Keep.refl _ _;refine⟨p,w,ab,lb,cb,rt,sa,ls,cs,tn,off,⟨rfl,uL ap⟩,?_⟩;refine(TQ (p:=p) (w:=w) (rt:=rt) (off:=off) (tn:=tn) x2 hx).mono fun v ax ⟨e,eh⟩=>⟨_,e,?_⟩;subst eh;refine⟨p',w',ad,W,af,V,ae,aa,ag,ac,E,fun _=>⟨rfl,av ap⟩,zB U ah,fun _=>TQ (p:=p') (w:=w') (rt:=V) (off:=E) (tn:=ac) y2 hy,?_⟩;by_cases G:aR (aD (zB Bs Ss)) true (aD (zB U ah))=true
 ·rw[if_pos G];exact(Ny ax).mono fun v h' ⟨e,_⟩=>⟨true,e,rfl⟩
 rw[if_neg G];have ay:zB Bs Ss=true:=by cases hb:zB Bs Ss <;> simp[hb,aR,aD]at G ⊢
 have bj:zB U ah=true:=by rw[ay]at G;cases hb:zB U ah <;> simp[hb,aR,aD]at G ⊢
 have bk:=zA ay;have bl:=zA bj;refine⟨p,w,ab,lb,cb,rt,sa,ls,cs,tn,off,⟨rfl,uL ap⟩,?_⟩;refine(Qd (p:=p) (w:=w) (rt:=rt) (off:=off) (tn:=tn) x2 (by have:=aj.next;omega) bk).wf fun v h3 b4 b6 ⟨aq,k3⟩=>?_;obtain⟨pa,pu,pc,ev,aq⟩:∃pa pu pc,v = .tuple #[.pointer pa,.pointer pu,.pointer pc,.bool true]/\((pa=none/\pu=none)\/∃t u c s sh mb L bQ aM,pa=some ⟨t,0,none⟩/\pu=some ⟨u,0,none⟩/\MadeAt ax h3 t u c s sh mb p w Bs.length L bQ aM):=by
  rcases aq with ⟨c,e⟩ | ⟨t,u,c,s,sh,mb,L,bQ,aM,e,m⟩
  ·exact⟨_,_,_,e,.inl ⟨rfl,rfl⟩⟩
  ·exact⟨_,_,_,e,.inr ⟨t,u,c,s,sh,mb,L,bQ,aM,rfl,rfl,m⟩⟩
 refine⟨pa,pu,pc,true,ev,p',w',ad,W,af,V,ae,aa,ag,ac,E,⟨rfl,av k3⟩,?_⟩;have az:=aj.trans wf k3 fF;refine(Qd (p:=p') (w:=w') (rt:=V) (off:=E) (tn:=ac) (y.keep az fF) (by have:=az.next;omega) bl).wf fun v h4 b7 b9 ⟨ar,k4⟩=>?_;obtain⟨pb,pv,pd,ev,ar⟩:∃pa pu pc,v = .tuple #[.pointer pa,.pointer pu,.pointer pc,.bool true]/\((pa=none/\pu=none)\/∃t u c s sh mb L bQ aM,pa=some ⟨t,0,none⟩/\pu=some ⟨u,0,none⟩/\MadeAt h3 h4 t u c s sh mb p' w' U.length L bQ aM):=by
  rcases ar with ⟨c,e⟩ | ⟨t,u,c,s,sh,mb,L,bQ,aM,e,m⟩
  ·exact⟨_,_,_,e,.inl ⟨rfl,rfl⟩⟩
  ·exact⟨_,_,_,e,.inr ⟨t,u,c,s,sh,mb,L,bQ,aM,rfl,rfl,m⟩⟩
 refine⟨pb,pv,pd,true,ev,fun v hh=>v = .bool true/\hh=h4,fun _=>(Ny h4).mono fun v h' ⟨e,eh⟩=>⟨true,e,rfl,eh⟩,fun hc=>by simp[aR,aD]at hc,?_⟩;rintro b5 ca ⟨au,rfl⟩;injection au with au
 subst au;rw[if_neg (by simp[aR,aD])];rcases aq with ⟨rfl,rfl⟩ | ⟨t,u,c,s,sh,mb,L,bQ,aM,rfl,rfl,mx⟩
 ·refine(IS (.inl rfl) (.inl rfl)).mono fun v h5 e=>⟨0,1,e,?_⟩;rw[if_pos (by simp[aR,isN])]
  rfl
 have a0:=Kept.blk k4 mx.tree.choose_spec;rcases ar with ⟨rfl,rfl⟩ | ⟨t',u',c',s',bm,bn,L',al,ai,rfl,rfl,O⟩
 ·refine(IS (.inr rfl) (.inr ⟨t,s,p,w,_,0,bQ,aM,rfl,a0,mx.rs,mx.fr⟩)).mono fun v h5 e=>⟨0,1,e,?_⟩;rw[if_pos (by simp[aR,isN])]
  rfl
 obtain⟨cc,cd,ce,cf,cg,ci,cj,ck⟩:=mx.ord;obtain⟨cl,cm,cn,co,cp,cq,cr,ct⟩:=O.ord;have a4:∀g∈L,g.body.size<=8192:=fun g hg=>(mx.pg.ok g hg).2;have a5:∀g∈L',g.body.size<=8192:=fun g hg=>(O.pg.ok g hg).2;have a6:=Am (s:=s) (c:=c) (sh:=sh) (mb:=mb) (w:=w) mx.fr a4 (by omega) (by omega) (by omega);have bo:=Am (s:=s') (c:=c') (sh:=bm) (mb:=bn) (w:=w') O.fr a5 (by omega) (by omega) (by omega);have bp:=a6.keep mx.sheet k4 fF;have a7:=Ax mx.pg mx.pn bQ aM;have a8:=Ax O.pg O.pn al ai;refine(Ry a6 bo mx.fr O.fr mx.rs O.rs mx.no O.no (fun g hg=>by omega) (fun g hg=>by omega) bp O.sheet a0 O.tree.choose_spec a7 a8).wf fun v h5 cu cv ⟨ev,k5⟩=>?_;obtain⟨aL,cL,dS,gr,bu,bq,a9⟩:=mx.dtree;obtain⟨br,bt,ba,bv,bw,bb,an⟩:=O.dtree;have bf:=k5.blk (Kept.blk k4 bu) fun y hy hc=>by simp at hy;omega
 have ao:=k5.blk bw fun y hy hc=>by simp at hy;omega
 have bx:=(bq.keep k4 fF).keep k5 fun y hy hc=>by have:=a9 y hy;omega
 have bg:=bb.keep k5 fun y hy hc=>by have:=an y hy;omega
 have rf:h5.cellsAt u 0 2=some [.int .i64 p,.int .i64 w]:=by rw[bf.cells (by unfold dtC;simp)];rfl
 have bh:h5.cellsAt u' 0 2=some [.int .i64 p',.int .i64 w']:=by rw[ao.cells (by unfold dtC;simp)];rfl
 by_cases ak:p=p'/\w=w'
 ·rw[if_pos ak]at ev;refine⟨_,_,ev,?_⟩;rw[if_neg (by simp[aR,isN])];refine⟨rfl,rfl,p,w,⟨rfl,rf⟩,rfl,rfl,p',w',⟨rfl,bh⟩,?_⟩;obtain⟨rfl,rfl⟩:=ak;rw[if_neg (by simp[aD,dJ,bX])];have cy:=mx.pg.ln;have bz:=O.pg.ln;have cz:=mx.pn;have c0:=O.pn;have dx:DTree h5 h5.next u p w L bQ aM:=⟨⟨aL,L.length,cL,dS,0,gr,by omega,bf,bx,fun y hy=>by have:=a9 y hy;omega⟩,mx.fr,mx.rs,a4,by omega,mx.no⟩;have dy:DTree h5 h5.next u' p w L' al ai:=⟨⟨br,L'.length,bt,ba,0,bv,by omega,ao,bg,fun y hy=>by have:=an y hy;omega⟩,O.fr,O.rs,a5,by omega,O.no⟩;refine(PZ dx dy (Uf _) a7 a8).mono fun v h6 ⟨e,_⟩=>⟨_,_,e,?_⟩;simp[aR,bX]
 ·rw[if_neg ak]at ev;refine⟨0,2,ev,?_⟩;rw[if_neg (by simp[aR,isN])];refine⟨rfl,rfl,p,w,⟨rfl,rf⟩,rfl,rfl,p',w',⟨rfl,bh⟩,?_⟩;rw[if_pos (by simp only[aD,dJ,bX,Bool.and_true,VL,<-Vr,Uw,beq_iff_eq,decide_eq_true_eq];exact ak)]
  rfl
theorem SlT.len_le{α:Type}{enc:α->LV}{w:Nat}{h:Hp}{g:ON}{a:OA}{l c:Nat}{L:List α}(s:SlT enc w h g a l c L):L.length<=c:=by rw[s.len];exact s.sl.le
def Te(h:Hp)(N:Nat):Type:={x:TriV×BudT//BudAt h h.next x.1 x.2/\x.2.ps.length<=N/\x.2.K.length<=N/\x.2.kids.length<=N}
theorem Mr{h:Hp}{N m:Nat}{cs:LV}(W:fN Tryz.prog h N m 68 cs):∃x:Te h N,cs=triC x.1.1:=by
 obtain⟨m,rfl,x1,x2,rfl,f1,y1,y2,rfl,f2,z1,z2,rfl,f3,G⟩:=W.struct Tryz.underlying68;have G:z2=[]:=G;subst G;obtain⟨a1,l1,c1,O,rfl,h1,s1⟩:=f1.slice (enc:=pairC) (w:=2) Tryz.underlying59 (by kernel_rfl) fun m cs E=>by
  obtain⟨m,rfl,u1,u2,rfl,g1,v1,v2,rfl,g2,g3⟩:=E.struct Tryz.underlying104;have g3:v2=[]:=g3;subst g3;obtain⟨k,rfl,_⟩:=g1.string Tryz.underlying9;obtain⟨v,rfl,_⟩:=g2.string Tryz.underlying9;exact⟨(k,v),rfl⟩
 obtain⟨a2,l2,c2,U,rfl,h2,s2⟩:=f2.slice (enc:=strc) (w:=1) Tryz.underlying65 (by kernel_rfl) fun m cs E=>by
  obtain⟨k,rfl,_⟩:=E.string Tryz.underlying9;exact⟨k,rfl⟩
 obtain⟨a3,l3,c3,V,rfl,h3,s3⟩:=f3.slice (enc:=Rg) (w:=1) Tryz.underlying66 (by kernel_rfl) fun m cs E=>by
  obtain⟨k,rfl,_⟩:=E.int Tryz.underlying3;exact⟨k,rfl⟩
 have q1:=SlT.len_le s1;have q2:=SlT.len_le s2;have q3:=SlT.len_le s3;exact⟨⟨(⟨a1,l1,c1,a2,l2,c2,a3,l3,c3⟩,⟨O,U,V⟩),⟨⟨none,by simp,s1⟩,⟨none,by simp,s2⟩,⟨none,by simp,s3⟩⟩,by show O.length<=N;omega,by show U.length<=N;omega,by show V.length<=N;omega⟩,rfl⟩
theorem BO{h:Hp}{N n:Nat}(hN:N<=140737488355327){cs:LV}(hG:fN Tryz.prog h N n 27 cs):∃(p w:Int) (ab:OA) (lb cb:Nat) (rt:Int) (sa:OA) (ls E:Nat) (tn:Bool) (off:Int) (Bs:List BudT) (Ss:List (Int×Int×Int)),
  cs=[.int .i64 p,.int .i64 w,.slice ab lb cb,.int .i64 rt,.slice sa ls E,.bool tn,.int .i64 off]/\PlotAt h h.next ab lb cb sa ls E Bs Ss/\OC lb ls Bs:=by
 obtain⟨m,rfl,u1,o1,rfl,f1,u2,o2,rfl,f2,u3,o3,rfl,f3,u4,o4,rfl,f4,u5,o5,rfl,f5,u6,o6,rfl,f6,U⟩:=hG.struct Tryz.underlying27;have U:o6=[]:=U;subst U;obtain⟨m2,rfl,x1,x2,rfl,g1,y1,y2,rfl,g2,g3⟩:=f1.struct Tryz.underlying23;have g3:y2=[]:=g3;subst g3;obtain⟨p,rfl,_⟩:=g1.int Tryz.underlying3;obtain⟨w,rfl,_⟩:=g2.int Tryz.underlying3;obtain⟨rt,rfl,_⟩:=f3.int Tryz.underlying3;obtain⟨tn,rfl⟩:=f5.bool Tryz.underlying4;obtain⟨off,rfl,_⟩:=f6.int Tryz.underlying3;obtain⟨ab,lb,cb,V,rfl,hb,sb⟩:=f2.slice (enc:=fun x:Te h N=>triC x.1.1) (w:=3) Tryz.underlying24 (by kernel_rfl) fun m cs W=>Mr W;obtain⟨sa,ls,E,SS,rfl,hs,ss⟩:=f4.slice (enc:=spoilC) (w:=3) Tryz.underlying25 (by kernel_rfl) fun m cs W=>by
  obtain⟨m,rfl,x1,x2,rfl,g1,y1,y2,rfl,g2,z1,z2,rfl,g3,g4⟩:=W.struct Tryz.underlying129;have g4:z2=[]:=g4;subst g4;obtain⟨i,rfl,_⟩:=g1.int Tryz.underlying3;obtain⟨j,rfl,_⟩:=g2.int Tryz.underlying3;obtain⟨k,rfl,_⟩:=g3.int Tryz.underlying3;exact⟨(i,j,k),rfl⟩
 have aa:SlT triC 3 h none ab lb cb (V.map fun x=>x.1.1):=⟨by rw[List.flatMap_map];exact sb.sl,by rw[VP];exact sb.len⟩;refine⟨p,w,ab,lb,cb,rt,sa,ls,E,tn,off,V.map fun x=>x.1.2,SS,rfl,⟨⟨none,_,by simp,aa,by simp,fun i v B G O=>?_⟩,⟨none,by simp,ss⟩⟩,⟨by have:=sb.sl.le;omega,by have:=ss.sl.le;omega,fun B O=>?_⟩⟩
 ·rw[VB]at G O
  cases hx:V[i]? with
  | none=>rw[hx]at G;simp at G
  | some x =>
   rw[hx]at G O;simp only[Uv,Um]at G O;subst G;subst O;exact x.2.1
 ·obtain⟨x,_,rfl⟩:=Uu.1 O;obtain⟨_,q1,q2,q3⟩:=x.2;exact⟨by omega,by omega,by omega⟩
end Go.Proofs.YtmapagggnigfpaaGreat.pk
namespace Go.Proofs.YtmapagggnigfpaaGreat.sb
open Go Go.Cn Go.Cn.Pk Go.Proofs Go.Proofs.YtmapagggnigfpaaGreat.pk
set_option maxRecDepth 100000 in
theorem main_DiffNodes(N:Nat)(W:N<=140737488355327)(h:Hp)(vs:LV)(wf:Wf h)(hg:uJ Tryz.prog h N Tryz.f3.params.toList vs):
  SCalls Tryz.prog 3 vs h fun v _=>v = .bool true:=by
 rw[Tryz.params3]at hg;obtain⟨v,ad,n,cs,rfl,hG,O,v2,U,n2,kH,rfl,V,G,E⟩:=hg;have O:v = .agg cs.toArray:=O;have G:v2 = .agg kH.toArray:=G;have E:U=[]:=E;subst E;obtain⟨p,w,ab,lb,cb,rt,sa,ls,ae,tn,off,Bs,Ss,rfl,x,hx⟩:=BO W hG;obtain⟨p',w',af,ag,ah,ai,aj,ak,aa,al,ac,an,ao,rfl,y,hy⟩:=BO W V;subst O G;exact Kb x y hx hy
end Go.Proofs.YtmapagggnigfpaaGreat.sb
