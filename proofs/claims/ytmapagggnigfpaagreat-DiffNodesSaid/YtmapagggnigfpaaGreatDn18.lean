/- Joined: RefJ, RefK, MapA, PlnB, DifA, DifB, DifC, DifD, DifE, RefL, RefM, RefN. -/
import Derived.Test.YtmapagggnigfpaaGreatDn17
import Derived.KernelRfl
set_option linter.unusedVariables false
set_option linter.unusedSectionVars false
set_option linter.unusedSimpArgs false
namespace Go.Proofs.YtmapagggnigfpaaGreat.pk
open Cn Cn.Pk vc
theorem Py:AppT Tryz.prog 156 156 155 5 104:=AppT.of _ (by kernel_rfl)
set_option maxRecDepth 20000 in
theorem Sw{p w:Int}{L:List PageT}{bQ:Nat}{aM:LU}{n0 t:Nat}:∀(n:Nat) {h:Hp} {x:Plc} {aw:OA} {cw:Nat} {gw:ON} {a:OA} {c:Nat} {g:ON} {vs:List SpV} {Ns:List NodeT},
  DTree h n0 t p w L bQ aM->n0<=h.next->33<=n+x.way.length->x.way.length<=33->x.sum.length=32->SlT intc 1 h gw aw x.way.length cw x.way->(∀y,gw=some y->y < h.next/\g≠some y)->Ow h 5 g a vs.length c (vs.flatMap QI)->(∀y,g=some y->n0<=y)->
  lE h (fun y=>n0<=y/\y < h.next/\g≠some y) vs Ns->Ns.length+(cW (aY p w L) p w n x).1.length<=1000000000->x.no<=4294967295->
  C 88 [pt t,.slice a vs.length c,.agg (plcC aw x.way.length cw x).toArray] h fun v h' =>
   (∃(a':OA) (c':Nat) (g':ON) (U:List SpV),v = .tuple #[.slice a' U.length c',.int .i64 (cW (aY p w L) p w n x).2]/\Ow h' 5 g' a' U.length c' (U.flatMap QI)/\(g'=g\/∃y,g'=some y/\h.next<=y)/\
    lE h' (fun y=>n0<=y/\y < h'.next/\g'≠some y) U (Ns++(cW (aY p w L) p w n x).1.map (·.2)))/\Keep (fun y=>g=some y) h h':=by
 intro n
 induction n with
 | zero =>
  intro h x aw cw gw a c g vs Ns dt bg hn bh hs sw al ow hg sp hle bi;have ep:plcC aw x.way.length cw x=[.slice aw x.way.length cw,.int .u32 (x.no:Int)]++aK .u8 32 (cV x.sum)++[.string (x.lo.getD .empty),.string (x.hi.getD .empty),.bool x.lo.isSome,.bool x.hi.isSome]:=by rw[aH hs];rfl
  have hE:iW (aY p w L) p w x=8:=by unfold iW oU;rw[if_pos (by omega)]
  rw[ep];refine sv xV fun wf=>?_;intro h1 e1;rw[<-ep]at e1;obtain⟨b1,k1,n1,bj⟩:=aB wf e1;refine⟨aw,x.way.length,cw,(x.no:Int),cV x.sum,_,_,_,_,⟨rfl,lH b1 hs⟩,?_⟩;rw[<-ep];refine(Sv (dt.keep k1 fF) (by omega) aw cw hs).wf fun v h2 ad bk ⟨⟨a1,l1,c1,a2,l2,c2,a3,l3,c3,ev,_⟩,k2⟩=>⟨a1,l1,c1,a2,l2,c2,a3,l3,c3,_,ev,?_⟩;intro h3 e3;obtain⟨b3,k3,n3,au⟩:=aB ad e3;obtain⟨V,e4,b4,k4,n4,aa⟩:=b3.store (o:=0) (vs:=[.slice a1 l1 c1,.slice a2 l2 c2,.slice a3 l3 c3]) (by simp) rfl;have O:Kept h V:=((k1.trans wf k2 fF).trans wf k3 fF).trans wf k4 fun y G E=>by omega
  refine⟨rfl,V,e4,?_⟩;rw[if_pos (by rw[hE];simp[cP])];have av:=O.next;refine⟨⟨a,c,g,vs,by rw[hE];rfl,ow.keep O fF,.inl rfl,?_⟩,O.mono wf (S':=fun y=>g=some y) fun _ _ h=>h.elim⟩;simpa[cW]using (sp.keep O fF).mono fun y G=>⟨G.1,by have:=G.2.1;omega,G.2.2⟩
 | succ n ih =>
  intro h x aw cw gw a c g vs Ns dt bg hn bh hs sw al ow hg sp hle bi;have ep:plcC aw x.way.length cw x=[.slice aw x.way.length cw,.int .u32 (x.no:Int)]++aK .u8 32 (cV x.sum)++[.string (x.lo.getD .empty),.string (x.hi.getD .empty),.bool x.lo.isSome,.bool x.hi.isSome]:=by rw[aH hs];rfl
  rw[ep];refine sv xV fun wf=>?_;intro h1 e1;rw[<-ep]at e1;obtain⟨b1,k1,n1,bj⟩:=aB wf e1;refine⟨aw,x.way.length,cw,(x.no:Int),cV x.sum,_,_,_,_,⟨rfl,lH b1 hs⟩,?_⟩;rw[<-ep];refine(Sv (dt.keep k1 fF) (by omega) aw cw hs).wf fun v h2 ad bk ⟨⟨a1,l1,c1,a2,l2,c2,a3,l3,c3,ev,hx⟩,k2⟩=>⟨a1,l1,c1,a2,l2,c2,a3,l3,c3,_,ev,?_⟩;intro h3 e3;obtain⟨b3,k3,n3,au⟩:=aB ad e3;obtain⟨V,e4,b4,k4,n4,aa⟩:=b3.store (o:=0) (vs:=[.slice a1 l1 c1,.slice a2 l2 c2,.slice a3 l3 c3]) (by simp) rfl;rw[aO (by rfl)]at b4;have aa:=aa au;have ac:Kept h2 V:=k3.trans ad k4 fun y G E=>by omega
  have O:Kept h V:=(k1.trans wf k2 fF).trans wf ac fF;have av:=O.next;have glt:=ow.glt wf;refine⟨rfl,V,e4,?_⟩;by_cases hE:iW (aY p w L) p w x=0
  ·rw[if_neg (by simp[cP,hE])];obtain⟨b6,b7,hH⟩:=rB hE;have an:cW (aY p w L) p w (n+1) x=((x,(aY p w L x.no).2)::(dA (cW (aY p w L) p w n) (eW x (aY p w L x.no).2)).1,(dA (cW (aY p w L) p w n) (eW x (aY p w L x.no).2)).2):=by
    unfold cW;rw[if_neg (by simp[hE])]
   rw[an]at hle ⊢;obtain⟨hN,ae⟩:=hx hE;generalize ca:(aY p w L x.no).2=N at hN ae hH hle ⊢;obtain⟨q1,q2,q3⟩:=hN.lens;have ao:=Kept.blk ac (Kept.blk k2 b1);have r4:V.cellsAt h2.next 0 3=some [.slice a1 l1 c1,.slice a2 l2 c2,.slice a3 l3 c3]:=by rw[b4.cells (by simp)];rfl
   refine⟨rfl,aw,x.way.length,cw,⟨rfl,CI ao hs⟩,rfl,(x.no:Int),⟨rfl,MJ ao hs⟩,a1,l1,c1,a2,l2,c2,a3,l3,c3,⟨rfl,r4⟩,?_⟩;intro h5 e5
   let sv:SpV:=⟨aw,x.way.length,cw,x.no,a1,l1,c1,a2,l2,c2,a3,l3,c3⟩
   have cc:=sp.1;simp only[Ux]at hle;obtain⟨a6,c6,g6,h6,e6,o6,ax,k6,bl⟩:=Ow.append1 aa Py (ow.keep O fF) (new:=QI sv) e5 (Bv sv) rfl (bM (by omega));have b9:=k6.next;have ay:NodeS V (fun y=>h1.next<=y/\y < h2.next) (SpV.nd sv) N:=hN.keep ac fF;have bm:NodeS h6 (fun y=>h1.next<=y/\y < h2.next) (SpV.nd sv) N:=ay.keep k6 fun y G E=>by have:=glt y E;omega
   have G6:∀y,g6=some y->g=some y\/V.next<=y:=fun y G=>by
    rcases ax with hq | ⟨z,W,hq⟩
    ·left;rw[<-hq];exact G
    ·rw[G]at W;injection W with W;right;omega
   have bn:lE h6 (fun y=>n0<=y/\y < h6.next/\g6≠some y) (vs++[sv]) (Ns++[N]):=by
    have A:lE h6 (fun y=>n0<=y/\y < h6.next/\g6≠some y) vs Ns:=((sp.keep O fF).keep k6 fun y G E=>G.2.2 E).mono fun y G=>⟨G.1,by have:=G.2.1;omega,fun E=>by
     rcases G6 y E with h | h
     ·exact G.2.2 h
     ·have:=G.2.1;omega⟩
    exact lE.snoc A (bm.mono fun y G=>⟨by omega,by omega,fun E=>by
     rcases G6 y E with h | h
     ·have:=glt y h;omega
     ·omega⟩) ae
   have bo:Ow h6 5 g6 a6 (vs++[sv]).length c6 ((vs++[sv]).flatMap QI):=by
    rw[Ug,VX];simpa using o6
   have cd:(eW x N).length=l3:=by rw[xZ,q3]
   have ce:Keep (fun y=>g=some y) h h6:=(O.mono wf (S':=fun y=>g=some y) fun _ _ h=>h.elim).trans wf k6 fF;refine⟨a6,_,c6,h6,by simpa using e6,?_⟩;refine⟨fun vals m hh=>∃(i:Nat) (a':OA) (c':Nat) (g':ON) (U:List SpV),[.slice a' U.length c',.int .i64 (i:Int)]=vals/\m=l3 - i/\i<=l3/\(dA (cW (aY p w L) p w n) ((eW x N).take i)).2=0/\Ow hh 5 g' a' U.length c' (U.flatMap QI)/\(∀y,g'=some y->g=some y\/V.next<=y)/\
     (g'=g\/∃y,g'=some y/\h.next<=y)/\lE hh (fun y=>n0<=y/\y < hh.next/\g'≠some y) U (Ns++N::(dA (cW (aY p w L) p w n) ((eW x N).take i)).1.map (·.2))/\Keep (fun y=>g=some y\/V.next<=y) V hh/\Wf hh,
    ⟨l3,0,a6,c6,g6,vs++[sv],by simp,rfl,Uk _,rfl,bo,G6,?_,by simpa[dA]using bn,k6.mono aa fun _ _ h=>.inl h,bl⟩,?_⟩
   ·rcases ax with hq | ⟨z,W,hq⟩
    ·exact .inl hq
    ·exact .inr ⟨z,W,by omega⟩
   rintro a0 l0 c0 cf m hh ⟨i,a',c',g',U,e,rfl,hi,h0,o',G',az,ap,kk,bp⟩;simp only[Ur,Value.slice.injEq,Value.int.injEq,true_and,and_true]at e;obtain⟨⟨rfl,rfl,rfl⟩,rfl⟩:=e;have cg:=kk.next;have bq:=kk.blk ao fun y G E=>by
    simp at G;subst G;rcases E with E | E
    ·have:=glt _ E;omega
    ·omega
   have a4:=kk.blk b4 fun y G E=>by
    simp at G;subst G;rcases E with E | E
    ·have:=glt _ E;omega
    ·omega
   have a5:Keep (fun y=>g=some y) h hh:=(O.mono wf (S':=fun y=>g=some y) fun _ _ h=>h.elim).trans wf kk fun y G E=>by
    rcases E with E | E
    ·exact E
    ·omega
   refine⟨rfl,a3,l3,c3,⟨rfl,a4.one rfl⟩,?_⟩;by_cases E:bO (i:Int) (aE l3)=true
   ·rw[if_pos E];have ci:i < l3:=by rw[aC,aF]at E;omega
    obtain⟨k,hk⟩:∃k,N.ks[i]? = some k:=⟨_,Uh (by omega)⟩;have es:=Db (x:=x) hk;have br:=hH.seps hk;refine⟨aw,x.way.length,cw,(x.no:Int),cV x.sum,_,_,_,_,⟨rfl,lH bq hs⟩,a1,l1,c1,a2,l2,c2,a3,l3,c3,⟨rfl,by rw[a4.cells (by simp)];rfl⟩,?_⟩;rw[<-ep];have a7:=o'.glt bp;have bt:∀y,gw=some y->¬(g=some y\/V.next<=y):=fun y G E=>by
     have:=al y G;rcases E with E | E
     ·exact this.2 E
     ·omega
    refine(Ro hs ((sw.keep O fF).keep kk bt) (fun y G=>by have:=(al y G).1;omega) (by omega) (S:=fun y=>h1.next<=y/\y < h2.next) (ay.keep kk fun y G E=>by
     rcases E with E | E
     ·have:=glt _ E;omega
     ·have:=ac.next;omega) (fun y G=>by have:=ac.next;omega) ae hk br).wf fun v h7 cj ck ⟨⟨af,ag,bu,e,bv,aj⟩,k7⟩=>?_
    have aq:(x.below N i k).sum.length=32:=k.hs;refine⟨af,(x.below N i k).way.length,ag,((x.below N i k).no:Int),cV (x.below N i k).sum,((x.below N i k).lo.getD .empty),((x.below N i k).hi.getD .empty),(x.below N i k).lo.isSome,(x.below N i k).hi.isSome,?_,?_⟩
    ·rw[e,aH aq];rfl
    have ah:=yP (f:=cW (aY p w L) p w n) es h0;have a9:=ER (f:=cW (aY p w L) p w n) (eW x N) (i+1);rw[ah,Ug]at a9;have ar:=ih (h:=h7) (x:=x.below N i k) (aw:=af) (cw:=ag) (gw:=bu) (a:=a') (c:=c') (g:=g') (vs:=U) (Ns:=Ns++N::(dA (cW (aY p w L) p w n) ((eW x N).take i)).1.map (·.2))
     ((dt.keep a5 fun y G E=>by have:=hg y E;omega).keep k7 fF) (by omega) (by simp[Plc.below];omega) (by simp[Plc.below];omega) aq bv (fun y G=>⟨(aj y G).2,fun E=>by have:=a7 y E;have:=(aj y G).1;omega⟩) (o'.keep k7 fF) (fun y G=>by
      rcases G' y G with h | h
      ·exact hg y h
      ·omega) ((ap.keep k7 fF).mono fun y G=>⟨G.1,by have:=G.2.1;omega,G.2.2⟩) (by simp only[Ug,Ux,VP];omega) k.hp
    have e7:([Value.slice af (x.below N i k).way.length ag,Value.int IntKind.u32 ((x.below N i k).no:Int)]++aK .u8 32 (cV (x.below N i k).sum)++[Value.string ((x.below N i k).lo.getD .empty),Value.string ((x.below N i k).hi.getD .empty),Value.bool (x.below N i k).lo.isSome,Value.bool (x.below N i k).hi.isSome])=plcC af (x.below N i k).way.length ag (x.below N i k):=by rw[aH aq];rfl
    rw[e7];refine ar.wf fun v h8 bw cl ⟨⟨a8,c8,g8,ba,ev,o8,bb,ai⟩,k8⟩=>⟨a8,_,c8,_,ev,?_⟩;have G8:∀y,g8=some y->g=some y\/V.next<=y:=fun y G=>by
     rcases bb with hq | ⟨z,W,hq⟩
     ·exact G' y (by rw[<-hq];exact G)
     ·rw[G]at W;injection W with W;right;omega
    have ak:g8=g\/∃y,g8=some y/\h.next<=y:=by
     rcases bb with hq | ⟨z,W,hq⟩
     ·rw[hq];exact az
     ·exact .inr ⟨z,W,by omega⟩
    have bf:Keep (fun y=>g=some y\/V.next<=y) V h8:=(kk.trans aa k7 fun _ _ h=>h.elim).trans aa k8 fun y G E=>G' y E;have bx:Keep (fun y=>g=some y) h h8:=(O.mono wf (S':=fun y=>g=some y) fun _ _ h=>h.elim).trans wf bf fun y G E=>by
     rcases E with E | E
     ·exact E
     ·omega
    have bz:(Ns++N::(dA (cW (aY p w L) p w n) ((eW x N).take i)).1.map (·.2))++(cW (aY p w L) p w n (x.below N i k)).1.map (·.2)=Ns++N::(dA (cW (aY p w L) p w n) ((eW x N).take (i+1))).1.map (·.2):=by
     rw[ah];simp
    rw[bz]at ai;by_cases W:(cW (aY p w L) p w n (x.below N i k)).2=0
    ·rw[if_neg (by simp[cP,W])];refine⟨l3 - (i+1),by simp only[aI];omega,i+1,a8,c8,g8,ba,?_,rfl,by omega,by rw[ah];exact W,o8,G8,ak,ai,bf,bw⟩;have:l3<=1073741824:=by rw[<-q3];exact ae.2.2
     rw[show aG .i64 (i:Int) 1=_ from cN 1 i (by omega)]
    ·rw[if_pos (by rw[bA];exact W)];have dN:=sO es h0 W;refine⟨⟨a8,c8,g8,ba,?_,o8,ak,?_⟩,bx⟩
     ·rw[dN]
     ·rw[dN];rw[ah]at ai;simpa using ai
   ·rw[if_neg E];have b5:i=l3:=by
     have:¬i < l3:=fun h=>E (by rw[aC,aF];omega)
     omega
    subst b5;rw[Uj (by omega)]at h0 ap;exact⟨⟨a',c',g',U,by rw[h0],o',az,by simpa using ap⟩,a5⟩
  ·rw[if_pos (by rw[bA];exact hE)];have an:cW (aY p w L) p w (n+1) x=([],iW (aY p w L) p w x):=by unfold cW;rw[if_pos hE]
   rw[an];refine⟨⟨a,c,g,vs,rfl,ow.keep O fF,.inl rfl,?_⟩,O.mono wf (S':=fun y=>g=some y) fun _ _ h=>h.elim⟩;simpa using (sp.keep O fF).mono fun y G=>⟨G.1,by have:=G.2.1;omega,G.2.2⟩
theorem Sm{h:Hp}{n0 t:Nat}{p w:Int}{L:List PageT}{bQ:Nat}{aM:LU}(dt:DTree h n0 t p w L bQ aM)(ae:n0<=h.next)(G:(cZ (aY p w L) p w bQ aM).1.length<=1000000000) :
  C 56 [pt t] h fun v h' =>
   (∃(a':OA) (c':Nat) (V:ON) (E:List SpV),v = .tuple #[.slice a' E.length c',.int .i64 (cZ (aY p w L) p w bQ aM).2]/\Ow h' 5 V a' E.length c' (E.flatMap QI)/\(∀y,V=some y->h.next<=y)/\
    lE h' (fun y=>n0<=y/\y < h'.next) E ((cZ (aY p w L) p w bQ aM).1.map (·.2)))/\Kept h h':=by
 have U:=dt;obtain⟨⟨aL,lL,cL,dS,ver,gr,q1,q2,q3,q4⟩,hF,W,af,ag,aa⟩:=dt;refine sv Fl fun wf=>?_;refine⟨rfl,rfl,rfl,(bQ:Int),⟨rfl,q2.one rfl⟩,?_⟩;unfold cZ at G ⊢;by_cases h0:bQ=0
 ·rw[if_pos (by rw[aV];omega),if_pos h0];exact⟨⟨none,0,none,[],rfl,Ow.nil _ _,by simp,⟨rfl,by simp⟩⟩,Keep.refl _ _⟩
 ·rw[if_neg (by rw[aV];omega)];rw[if_neg h0]at G ⊢;refine(Tx U).wf fun v h1 ah ai ⟨e,k1⟩=>?_;have dN:(topP bQ aM).sum.length=32:=W;have ez:([Value.slice none 0 0,Value.int IntKind.u32 ((topP bQ aM).no:Int)]++aK .u8 32 (cV (topP bQ aM).sum)++[Value.string ((topP bQ aM).lo.getD .empty),Value.string ((topP bQ aM).hi.getD .empty),Value.bool (topP bQ aM).lo.isSome,Value.bool (topP bQ aM).hi.isSome])=plcC none 0 0 (topP bQ aM):=by rw[aH dN];rfl
  refine⟨none,0,0,((topP bQ aM).no:Int),cV (topP bQ aM).sum,((topP bQ aM).lo.getD .empty),((topP bQ aM).hi.getD .empty),(topP bQ aM).lo.isSome,(topP bQ aM).hi.isSome,?_,?_⟩
  ·rw[ez];exact e
  rw[ez];refine(Sw 33 (x:=topP bQ aM) (vs:=[]) (Ns:=[]) (g:=none) (gw:=none) (c:=0) (a:=none) (aw:=none) (cw:=0) (U.keep k1 fF) (by omega) (by simp[topP]) (by simp[topP]) dN (SlT.nil _ _) (by simp) (Ow.nil _ _) (by simp) ⟨rfl,by simp⟩ (by simpa using G) aa).wf fun v h2 aj ak ⟨⟨a',c',V,E,ev,o',ac,ad⟩,k2⟩=>⟨a',_,c',_,ev,⟨a',c',V,E,rfl,o',?_,by simpa using ad.mono fun y O=>⟨O.1,O.2.1⟩⟩,k1.trans wf k2 fun y O hc=>by simp at hc⟩;intro y O;rcases ac with hq | ⟨z,hz,hq⟩
  ·rw[hq]at O;simp at O
  ·rw[O]at hz;injection hz with hz;omega
end Go.Proofs.YtmapagggnigfpaaGreat.pk
namespace Go.Cn.Pk
theorem BC{α β:Type}{f:α->List β×Int}{z:β}:∀{L:List α},z∈(dA f L).1->∃y∈L,z∈(f y).1
 | [],h=>by simp[dA]at h
 | y::L,h=>by
  simp only[dA]at h;by_cases E:(f y).2≠0
  ·rw[if_pos E]at h;exact⟨y,by simp,h⟩
  ·rw[if_neg E]at h;rcases VF.1 h with h | h
   ·exact⟨y,by simp,h⟩
   ·obtain⟨u,hu,E⟩:=BC h;exact⟨u,by simp[hu],E⟩
theorem xS{src:Src}{p w:Int}:∀(n:Nat) (x:Plc) (z:Plc×NodeT),z∈(cW src p w n x).1->MayIs p w z.2 0/\z.2=(src z.1.no).2
 | 0,x,z,h=>by simp[cW]at h
 | n+1,x,z,h=>by
  unfold cW at h;by_cases E:iW src p w x=0
  ·rw[if_neg (by simp[E])]at h;obtain⟨_,_,G⟩:=rB E;rcases VM.1 h with rfl | h
   ·exact⟨G.1,rfl⟩
   ·obtain⟨y,_,O⟩:=BC h;exact xS n y z O
  ·rw[if_pos E]at h;simp at h
theorem DC{src:Src}{p w:Int}{bQ:Nat}{aM:LU}{z:Plc×NodeT}(h:z∈(cZ src p w bQ aM).1):MayIs p w z.2 0:=by
 unfold cZ at h
 split at h
 ·simp at h
 ·exact(xS _ _ _ h).1
structure FN where
 sum:LU
 hs:sum.length=32
 form:BA
def FL(f:FN):LV:=bc f.sum++[.string f.form]
theorem Ca(f:FN):(FL f).length=33:=by unfold FL;rw[Ug,aJ,f.hs];rfl
theorem KL(f:FN):(FL f).all isCell=true:=by unfold FL;rw[Vt,aZ];rfl
def wZ{α:Type}[DecidableEq α] (S T:List α):Nat:=S.countP (fun d=>!decide (d∈T))+T.countP (fun d=>!decide (d∈S))
theorem wL{α:Type}{f:α->Bool}{L:List α}{i:Nat}{x:α}(E:L[i]? = some x):(L.take (i+1)).countP f=(L.take i).countP f+(if f x=true then 1 else 0):=by
 rw[VG,E,List.countP_append];simp[List.countP_cons]
end Go.Cn.Pk
namespace Go.Proofs.YtmapagggnigfpaaGreat.pk
open Cn Cn.Pk vc
theorem TW:AppT Tryz.prog 93 93 98 33 48:=AppT.of _ (by kernel_rfl)
theorem IH{h:Hp}{n0 t:Nat}{p w:Int}{L:List PageT}{bQ:Nat}{aM:LU}(dt:DTree h n0 t p w L bQ aM)(au:n0<=h.next)(ak:(cZ (aY p w L) p w bQ aM).1.length<=1000000000) :
  C 29 [pt t] h fun v h' =>
   (((cZ (aY p w L) p w bQ aM).2≠0/\v = .tuple #[.slice none 0 0,.int .i64 (cZ (aY p w L) p w bQ aM).2])\/((cZ (aY p w L) p w bQ aM).2=0/\∃(a:OA) (c:Nat) (g:ON) (V:List FN),v = .tuple #[.slice a V.length c,.int .i64 0]/\Ow h' 33 g a V.length c (V.flatMap FL)/\(∀y,g=some y->h.next<=y)/\
    V.map (·.sum)=(cZ (aY p w L) p w bQ aM).1.map (fun z=>sumN w z.2)))/\Kept h h':=by
 have av:=dt;obtain⟨⟨aL,lL,cL,dS,ver,gr,q1,q2,q3,q4⟩,hF,ax,bk,bl,bm⟩:=dt;obtain⟨bn,bo,bp,bq,al⟩:=hF.nat;refine sv DN fun wf=>?_;refine(Sm av au ak).wf fun v E aa br ⟨⟨a,c,g,vs,ev,ow,hg,sp⟩,k1⟩=>⟨a,vs.length,c,_,ev,?_⟩;have af:∀z∈(cZ (aY p w L) p w bQ aM).1,MayIs p w z.2 0:=fun z G=>DC G;generalize hW:cZ (aY p w L) p w bQ aM=W at ak sp af ⊢;by_cases G:W.2=0
 ·rw[if_neg (by simp[cP,G])];have ay:=sp.1;rw[VP]at ay;have glt:=ow.glt aa;refine⟨fun vals m hh=>∃(i:Nat) (a2:OA) (c2:Nat) (g2:ON) (V:List FN),[.slice a2 V.length c2,.int .i64 (i:Int)]=vals/\m=vs.length - i/\i<=vs.length/\Ow hh 33 g2 a2 V.length c2 (V.flatMap FL)/\(∀y,g2=some y->E.next<=y)/\V.map (·.sum)=(W.1.take i).map (fun z=>sumN w z.2)/\V.length=i/\Keep (fun y=>E.next<=y) E hh/\Wf hh,
   ⟨vs.length,0,none,0,none,[],rfl,rfl,Uk _,Ow.nil _ _,by simp,rfl,rfl,Keep.refl _ _,aa⟩,?_⟩
  rintro a0 l0 c0 n m hh ⟨i,a2,c2,g2,V,e,rfl,hi,o2,ag,ah,az,kk,ac⟩;simp only[Ur,Value.slice.injEq,Value.int.injEq,true_and,and_true]at e;obtain⟨⟨rfl,rfl,rfl⟩,rfl⟩:=e;have bt:=kk.next;by_cases hc:bO (i:Int) (aE vs.length)=true
  ·rw[if_pos hc];have a4:i < vs.length:=by rw[aC,aF]at hc;omega
   obtain⟨sv,ai⟩:∃q,vs[i]? = some q:=⟨_,Uh a4⟩;obtain⟨z,aj⟩:∃q,W.1[i]? = some q:=⟨_,Uh (by omega)⟩;obtain⟨hN,a5⟩:=sp.2 i sv z.2 ai (by rw[VB,aj];rfl);have hm:=af z (Uy aj);intro h2 e2;rw[dU]at e2;obtain⟨b2,k2,n2,a6⟩:=aB ac e2;have ad:Keep (fun y=>E.next<=y) E h2:=kk.trans aa k2 fun _ _ h=>h.elim;have t1:Keep (fun y=>E.next<=y) h E->True:=fun _=>trivial;have tree:∀{G:Hp},Keep (fun y=>E.next<=y) E G->G.cellsAt t 0 2=some [.int .i64 p,.int .i64 w]:=fun kz=>by
    have b:=kz.blk (Kept.blk k1 q2) fun y O hc=>by simp at O;omega
    rw[b.cells (by unfold dtC;rw[Ug,eO ax];simp)];rfl
   have an:∀{G:Hp},Keep (fun y=>E.next<=y) E G->SlT QI 5 G g a vs.length c vs:=fun kz=>⟨(ow.keep kz fun y O hc=>by have:=glt y O;omega).sl,rfl⟩;have ao:a.isSome=true/\bS (i:Int) vs.length:=⟨((an (Keep.refl _ _)).get Bv ai (j:=0) (m:=1) (by omega)).1,Ui _,by omega⟩;have a8:cI (aA (off a) (i:Int) 5) 2=off a+i * 5+2:=by unfold cI aA;rw[Uo]
   have ap:∀{G:Hp},Keep (fun y=>E.next<=y) E G->G.cellsAt (blk a) (cI (aA (off a) (i:Int) 5) 2) 3=some [.slice sv.a1 sv.l1 sv.c1,.slice sv.a2 sv.l2 sv.c2,.slice sv.a3 sv.l3 sv.c3]:=fun kz=>by
    rw[a8];exact((an kz).get Bv ai (j:=2) (m:=3) (by omega)).2
   have aq:∀{G:Hp},Keep (fun y=>E.next<=y) E G->NodeAt G E.next (SpV.nd sv) z.2:=fun kz=>(hN.keep kz fun y O hc=>by omega).at fun y O=>O.2;obtain⟨bu,bv,bw⟩:=a5;refine⟨rfl,rfl,p,w,⟨rfl,tree ad⟩,ao,rfl,sv.a1,sv.l1,sv.c1,sv.a2,sv.l2,sv.c2,sv.a3,sv.l3,sv.c3,⟨rfl,ap ad⟩,?_⟩;refine(Ei (aq ad) p w (by omega) (by omega) (by omega)).mono fun v h3 ⟨⟨d,D,e,a9,ba,bx⟩,eh⟩=>?_;subst eh;have bb:d=0:=a9.uniq hm;have hD:=ba bb;subst hD;have U:(sumN w z.2).length=32:=gA al _;obtain⟨h4,e4,b4,k4,n4,bf⟩:=b2.store (o:=0) (vs:=bc (sumN w z.2)) (by rw[aJ,aJ,U,bI];exact Uf _) (aZ _);rw[aO (by rw[aJ,aJ,U,bI])]at b4;have ae:Keep (fun y=>E.next<=y) E h4:=ad.trans aa k4 fun y O hc=>by omega
   refine⟨cV (sumN w z.2),d,by rw[aH U];exact e,rfl,h4,by rw[aH U];exact e4,rfl,rfl,p,w,⟨rfl,tree ae⟩,ao,rfl,sv.a1,sv.l1,sv.c1,sv.a2,sv.l2,sv.c2,sv.a3,sv.l3,sv.c3,⟨rfl,ap ae⟩,?_⟩;refine(NC (aq ae) p w (by omega) (by omega) (by omega)).mono fun v h5 ⟨⟨e5,s,bg,_⟩,eh⟩=>?_;subst eh;refine⟨s,e5,bg,cV (sumN w z.2),⟨rfl,cH b4 U⟩,?_⟩;intro h6 e6;rw[aH U]at e6;have ar:Keep (fun y=>hh.next<=y) hh h5:=(k2.mono ac (S':=fun y=>hh.next<=y) fun _ _ h=>h.elim).trans ac k4 fun y O hc=>by omega
   have bj:=ar.next
   let fv:FN:=⟨sumN w z.2,U,s⟩
   obtain⟨a7,c7,g7,h7,e7,o7,bh,k7,bi⟩:=Ow.append1 (bf a6) TW (o2.keep ar fun y O hc=>by have:=o2.glt ac y O;omega) (new:=FL fv) e6 (Ca fv) (KL fv) (bM (by omega));refine⟨a7,_,c7,h7,e7,vs.length - (i+1),by simp only[aI];omega,i+1,a7,c7,g7,V++[fv],?_,rfl,by omega,?_,?_,?_,by simp[az],?_,bi⟩
   ·rw[show aG .i64 (i:Int) 1=_ from cN 1 i (by omega)];simp
   ·rw[Ug,VX];simpa using o7
   ·intro y O;rcases bh with hq | ⟨u,hu,hq⟩
    ·exact ag y (by rw[<-hq];exact O)
    ·rw[O]at hu;injection hu with hu;omega
   ·rw[VY,ah,VG,aj,VY]
    rfl
   ·exact ae.trans aa k7 fun y O hc=>ag y hc
  ·rw[if_neg hc];have bz:i=vs.length:=by
    have:¬i < vs.length:=fun h=>hc (by rw[aC,aF];omega)
    omega
   rw[Uj (by omega)]at ah;exact⟨.inr ⟨G,a2,c2,g2,V,rfl,o2,fun y O=>by have:=ag y O;omega,ah⟩,k1.trans wf kk fun y O hc=>by omega⟩
 ·rw[if_pos (by rw[bA];exact G)];exact⟨.inl ⟨G,rfl⟩,k1⟩
theorem Su{h:Hp}{a:OA}{c:Nat}{g:ON}{E:List FN}(ow:Ow h 33 g a E.length c (E.flatMap FL))(hl:E.length<=1000000000){d:LU}(V:d.length=32):
  C 30 [.slice a E.length c,.agg (bc d).toArray] h fun v h'=>v = .bool (decide (d∈E.map (·.sum)))/\h'=h:=by
 refine uP ?_;rw[<-aH V];refine sv Iw fun wf=>?_;intro h1 e1;rw[aH V]at e1;obtain⟨b1,k1,n1,ag⟩:=aB wf e1;have sl:SlT FL 33 h1 g a E.length c E:=⟨(ow.keep k1 fF).sl,rfl⟩;refine⟨fun vals m hh=>∃i:Nat,[.int .i64 (i:Int)]=vals/\m=E.length - i/\i<=E.length/\(∀j f,j < i->E[j]? = some f->f.sum≠d)/\hh=h1,⟨_,0,rfl,rfl,Uk _,fun j f hj=>by omega,rfl⟩,?_⟩;rintro n m hh ⟨i,e,rfl,hi,U,rfl⟩;simp only[Ur,Value.int.injEq,true_and,and_true]at e;subst e;by_cases hc:bO (i:Int) (aE E.length)=true
 ·rw[if_pos hc];have ac:i < E.length:=by rw[aC,aF]at hc;omega
  obtain⟨f,W⟩:∃q,E[i]? = some q:=⟨_,Uh ac⟩;obtain⟨ha,G⟩:=sl.get Ca W (j:=0) (m:=32) (by omega);have ad:aA (off a) (i:Int) 33=off a+i * 33+0:=by unfold aA;rw[Uo];omega
  have aa:((FL f).drop 0).take 32=bc f.sum:=by
   unfold FL;rw[VC,Vz (by rw[aJ,f.hs];exact Uf _),Uj (by rw[aJ,f.hs];exact Uf _)]
  rw[aa]at G;refine⟨⟨ha,Ui _,by omega⟩,rfl,cV f.sum,⟨rfl,by rw[ad,aH f.hs];exact G⟩,cV d,⟨rfl,cH b1 V⟩,?_⟩;rw[aH f.hs,aH V];by_cases hq:f.sum=d
  ·rw[if_pos ((jE _ _ (by rw[f.hs,V])).2 hq)];refine⟨?_,k1⟩;congr 1
   symm
   rw[decide_eq_true_eq];exact Uu.2 ⟨f,Uy W,hq⟩
  ·rw[if_neg (fun h=>hq ((jE _ _ (by rw[f.hs,V])).1 h))];refine⟨E.length - (i+1),by simp only[aI];omega,i+1,?_,rfl,by omega,fun j f' hj O=>?_,rfl⟩
   ·rw[show aG .i64 (i:Int) 1=_ from cN 1 i (by omega)]
   ·by_cases ae:j=i
    ·subst ae;rw[W]at O;injection O with O;subst O;exact hq
    ·exact U j f' (by omega) O
 ·rw[if_neg hc];refine⟨?_,k1⟩;congr 1
  symm
  rw[decide_eq_false_iff_not];intro hm;obtain⟨f,W,af⟩:=Uu.1 hm;obtain⟨j,hj⟩:=WD W;have ah:=(Us.1 hj).1;have:¬i < E.length:=fun h=>hc (by rw[aC,aF];omega);exact U j f (by omega) hj af
def lG(w:Int)(A B:List (Plc×NodeT)×Int):Nat×Int :=
 if A.2≠0 then(0,A.2) else if B.2≠0 then(0,B.2) else(wZ (A.1.map fun z=>sumN w z.2) (B.1.map fun z=>sumN w z.2),0)
theorem Mo{E:List FN}{S:List LU}(h:E.map (·.sum)=S):E.length=S.length:=by rw[<-h,VP]
theorem PZ{h:Hp}{n0 t u:Nat}{p w:Int}{L M:List PageT}{bQ aa:Nat}{aM V:LU}(dt:DTree h n0 t p w L bQ aM)(du:DTree h n0 u p w M aa V)(ay:n0<=h.next)(aj:(cZ (aY p w L) p w bQ aM).1.length<=1000000000) (ag:(cZ (aY p w M) p w aa V).1.length<=1000000000) :
  C 10 [pt t,pt u] h fun v h'=>v = .tuple #[.int .i64 ((lG w (cZ (aY p w L) p w bQ aM) (cZ (aY p w M) p w aa V)).1:Int),.int .i64 (lG w (cZ (aY p w L) p w bQ aM) (cZ (aY p w M) p w aa V)).2]/\Kept h h':=by
 obtain⟨a9,ba,bb,bf,a7⟩:=dt.fr.nat;refine sv Bk fun wf=>?_;refine(IH dt ay aj).wf fun v h1 bg ak ⟨W,k1⟩=>?_;generalize hA:cZ (aY p w L) p w bQ aM=A at aj W ⊢;generalize hB:cZ (aY p w M) p w aa V=B at ag ⊢;unfold lG;rcases W with ⟨hz,rfl⟩ | ⟨hz,a,c,g,E,rfl,ow,hg,al⟩
 ·refine⟨none,0,0,_,rfl,?_⟩;rw[if_pos (by rw[bA];exact hz),if_pos hz];exact⟨rfl,k1⟩
 ·refine⟨a,E.length,c,0,rfl,?_⟩;rw[if_neg (by simp[cP]),if_neg (by simp[hz])];have a8:=k1.next;refine(IH (du.keep k1 fF) (by omega) (by rw[hB];exact ag)).wf fun v h2 bh bi ⟨W,k2⟩=>?_;rw[hB]at W;have an:=k1.trans wf k2 fF;rcases W with ⟨ad,rfl⟩ | ⟨ad,a2,c2,g2,O,rfl,ao,bj,ap⟩
  ·refine⟨none,0,0,_,rfl,?_⟩;rw[if_pos (by rw[bA];exact ad),if_pos ad];exact⟨rfl,an⟩
  ·refine⟨a2,O.length,c2,0,rfl,?_⟩;rw[if_neg (by simp[cP]),if_neg (by simp[ad])];have aq:=ow.keep k2 fF;have az:=Mo al;have a0:=Mo ap;rw[VP]at az a0;rw[<-al,<-ap];have sl:SlT FL 33 h2 g a E.length c E:=⟨aq.sl,rfl⟩;have a4:SlT FL 33 h2 g2 a2 O.length c2 O:=⟨ao.sl,rfl⟩;have rd:∀{a:OA} {c:Nat} {g:ON} {E:List FN} (sl:SlT FL 33 h2 g a E.length c E) {i:Nat} {f:FN},E[i]? = some f->(a.isSome=true/\bS (i:Int) E.length)/\h2.cellsAt (blk a) (aA (off a) (i:Int) 33) 32=some (aK .u8 32 (cV f.sum)):=by
    intro a c g E sl i f hf;have ae:=(Us.1 hf).1;obtain⟨ha,G⟩:=sl.get Ca hf (j:=0) (m:=32) (by omega);have a5:aA (off a) (i:Int) 33=off a+i * 33+0:=by unfold aA;rw[Uo];omega
    have ar:((FL f).drop 0).take 32=bc f.sum:=by
     unfold FL;rw[VC,Vz (by rw[aJ,f.hs];exact Uf _),Uj (by rw[aJ,f.hs];exact Uf _)]
    rw[ar]at G;exact⟨⟨ha,Ui _,by omega⟩,by rw[a5,aH f.hs];exact G⟩
   unfold wZ;generalize au:(fun d:LU=>!decide (d∈O.map (·.sum)))=P1;generalize av:(fun d:LU=>!decide (d∈E.map (·.sum)))=P2;have ah:∀(P:LU->Bool) (X:List FN) (i:Nat),((X.map (·.sum)).take i).countP P<=X.length:=fun P X i=>by
    refine Nat.le_trans (List.countP_le_length (p:=P)) ?_;rw[Uq,VP];omega
   refine⟨fun vals m hh=>∃i:Nat,[.int .i64 (((E.map (·.sum)).take i).countP P1:Int),.int .i64 (i:Int)]=vals/\m=E.length - i/\i<=E.length/\hh=h2,⟨_,0,by simp,rfl,Uk _,rfl⟩,?_⟩;rintro n1 n2 m hh ⟨i,e,rfl,hi,rfl⟩;simp only[Ur,Value.int.injEq,true_and,and_true]at e;obtain⟨rfl,rfl⟩:=e;by_cases hc:bO (i:Int) (aE E.length)=true
   ·rw[if_pos hc];have ae:i < E.length:=by rw[aC,aF]at hc;omega
    obtain⟨f,hf⟩:∃q,E[i]? = some q:=⟨_,Uh ae⟩;obtain⟨ai,G⟩:=rd sl hf;have U:=wL (f:=P1) (L:=E.map (·.sum)) (i:=i) (x:=f.sum) (by rw[VB,hf];rfl);have hb:=ah P1 E i;refine⟨ai,rfl,cV f.sum,⟨rfl,G⟩,?_⟩;rw[aH f.hs];refine(Su ao (by omega) f.hs).mono fun v h3 ⟨e,eh⟩=>⟨_,e,?_⟩;subst eh;have ac:P1 f.sum = !decide (f.sum∈O.map (·.sum)):=by rw[<-au]
    by_cases hq:f.sum∈O.map (·.sum)
    ·rw[if_neg (by simp only[decide_eq_true hq];simp[aD])];rw[ac,decide_eq_true hq]at U;refine⟨E.length - (i+1),by simp only[aI];omega,i+1,?_,rfl,by omega,rfl⟩;rw[show aG .i64 (i:Int) 1=_ from cN 1 i (by omega),U];simp
    ·rw[if_pos (by rw[decide_eq_false hq];rfl)];rw[ac,decide_eq_false hq]at U;refine⟨E.length - (i+1),by simp only[aI];omega,i+1,?_,rfl,by omega,rfl⟩;rw[show aG .i64 (i:Int) 1=_ from cN 1 i (by omega),U,show aG .i64 ((((E.map (·.sum)).take i).countP P1:Nat):Int) 1=_ from cN 1 _ (by omega)];simp
   ·rw[if_neg hc];have a6:i=E.length:=by
     have:¬i < E.length:=fun h=>hc (by rw[aC,aF];omega)
     omega
    have af:(E.map (·.sum)).take i=E.map (·.sum):=Uj (by rw[VP];omega);rw[af];have ax:=ah P1 E i;rw[af]at ax;generalize ak:(E.map (·.sum)).countP P1=n1 at ax ⊢;refine⟨fun vals m hz=>∃i:Nat,[.int .i64 ((n1+((O.map (·.sum)).take i).countP P2:Nat):Int),.int .i64 (i:Int)]=vals/\m=O.length - i/\i<=O.length/\hz=hh,⟨_,0,by simp,rfl,Uk _,rfl⟩,?_⟩;rintro m1 m2 m hz ⟨i,e,rfl,hi,rfl⟩;simp only[Ur,Value.int.injEq,true_and,and_true]at e;obtain⟨rfl,rfl⟩:=e;by_cases hc:bO (i:Int) (aE O.length)=true
    ·rw[if_pos hc];have ae:i < O.length:=by rw[aC,aF]at hc;omega
     obtain⟨f,hf⟩:∃q,O[i]? = some q:=⟨_,Uh ae⟩;obtain⟨ai,G⟩:=rd a4 hf;have U:=wL (f:=P2) (L:=O.map (·.sum)) (i:=i) (x:=f.sum) (by rw[VB,hf];rfl);have hb:=ah P2 O i;refine⟨ai,rfl,cV f.sum,⟨rfl,G⟩,?_⟩;rw[aH f.hs];refine(Su aq (by omega) f.hs).mono fun v h3 ⟨e,eh⟩=>⟨_,e,?_⟩;subst eh;have ac:P2 f.sum = !decide (f.sum∈E.map (·.sum)):=by rw[<-av]
     by_cases hq:f.sum∈E.map (·.sum)
     ·rw[if_neg (by simp only[decide_eq_true hq];simp[aD])];rw[ac,decide_eq_true hq]at U;refine⟨O.length - (i+1),by simp only[aI];omega,i+1,?_,rfl,by omega,rfl⟩;rw[show aG .i64 (i:Int) 1=_ from cN 1 i (by omega),U];simp
     ·rw[if_pos (by rw[decide_eq_false hq];rfl)];rw[ac,decide_eq_false hq]at U;refine⟨O.length - (i+1),by simp only[aI];omega,i+1,?_,rfl,by omega,rfl⟩;rw[show aG .i64 (i:Int) 1=_ from cN 1 i (by omega),U,show aG .i64 ((n1+((O.map (·.sum)).take i).countP P2:Nat):Int) 1=_ from cN 1 _ (by omega)];simp[Vw]
    ·rw[if_neg hc];have a6:i=O.length:=by
      have:¬i < O.length:=fun h=>hc (by rw[aC,aF];omega)
      omega
     have af:(O.map (·.sum)).take i=O.map (·.sum):=Uj (by rw[VP];omega);rw[af];refine⟨?_,an⟩;subst ak;subst au;subst av;have ec:∀(S T:List LU) (i1 i2:∀d:LU,Decidable (d∈T)),S.countP (fun d=>!@decide (d∈T) (i1 d))=S.countP (fun d=>!@decide (d∈T) (i2 d)):=fun S T i1 i2=>by
      congr 1;funext d;congr
     refine congrArg (fun n:Nat=>Value.tuple #[.int .i64 (n:Int),.int .i64 0]) ?_;exact congr (congrArg HAdd.hAdd (ec _ _ _ _)) (ec _ _ _ _)
end Go.Proofs.YtmapagggnigfpaaGreat.pk
namespace Go.Cn
theorem CK{h G:Hp}(wf:Wf h){o:Ob}(U:o.isOth=true)(he:G=h.newOb o):G.ob h.next=some o/\Kept h G/\G.next=h.next+1/\Wf G:=by
 subst he;have E:∀{b o'},h.ob b=some o'->b≠h.next:=fun hb V=>by have:=wf.lt hb;omega
 refine⟨by rw[Hp.ob_newOb,if_pos rfl],⟨by rw[Hp.next_newOb];omega,fun b cs t hb=>?_,fun b cs t g hb _=>⟨?_,rfl⟩,fun b o' hb _ _=>?_⟩,rfl,?_,?_,?_⟩
 ·rw[Hp.ob_newOb,if_neg (E hb)];exact hb
 ·rw[Hp.ob_newOb,if_neg (E hb)];exact hb
 ·rw[Hp.ob_newOb,if_neg (E hb)];exact hb
 ·intro b hb;rw[Hp.next_newOb]at hb;rw[Hp.ob_newOb,if_neg (by omega),Hp.gs_newOb];exact wf.fresh b (by omega)
 ·intro b cs t g hb;rw[Hp.next_newOb];rw[Hp.ob_newOb]at hb
  split at hb
  ·injection hb with hb;subst hb;simp[Ob.isOth]at U
  ·have:=wf.grp _ _ _ _ hb;omega
 ·intro g l O b hb;rw[Hp.gs_newOb]at O;obtain⟨cs,t,G⟩:=wf.stack g l O b hb;exact⟨cs,t,by rw[Hp.ob_newOb,if_neg (E G)];exact G⟩
theorem qY{h G:Hp}{b:Nat}{o o':Ob}(hb:h.ob b=some o)(W:o.isOth=true)(U:o'.isOth=true)(he:G=h.setOb b o'):G.ob b=some o'/\Keep (· = b) h G/\G.next=h.next/\(Wf h->Wf G):=by
 subst he;have O:∀{x cs t g},h.ob x=some (.cells cs t g)->x≠b:=by
  intro x cs t g E hc;subst hc;rw[hb]at E;injection E with E
  subst E;simp[Ob.isOth]at W
 refine⟨by rw[Hp.ob_setOb,if_pos rfl],⟨Uf _,fun x cs t E=>?_,fun x cs t g E _=>⟨?_,rfl⟩,fun x o2 E _ hn=>?_⟩,rfl,fun wf=>⟨?_,?_,?_⟩⟩
 ·rw[Hp.ob_setOb,if_neg (O E)];exact E
 ·rw[Hp.ob_setOb,if_neg (O E)];exact E
 ·rw[Hp.ob_setOb,if_neg hn];exact E
 ·intro x E;rw[Hp.next_setOb]at E;rw[Hp.ob_setOb,if_neg (by have:=wf.lt hb;omega),Hp.gs_setOb];exact wf.fresh x E
 ·intro x cs t g E;rw[Hp.next_setOb];rw[Hp.ob_setOb]at E
  split at E
  ·injection E with E;subst E;simp[Ob.isOth]at U
  ·exact wf.grp _ _ _ _ E
 ·intro g l V x E;rw[Hp.gs_setOb]at V;obtain⟨cs,t,G⟩:=wf.stack g l V x E;exact⟨cs,t,by rw[Hp.ob_setOb,if_neg (O G)];exact G⟩
section
variable {κ β:Type} [DecidableEq κ]
def bU(ek:κ->Value)(ev:β->Value):Nat->List (κ×β)->List MapEntry
 | _,[]=>[]
 | i,(k,v)::l=>{key:=ek k,val:=ev v,born:=i}::bU ek ev (i+1) l
def MapAt(ek:κ->Value)(ev:β->Value)(h:Hp)(b:Nat)(l:List (κ×β)):Prop:=h.ob b=some (.map (bU ek ev 0 l) l.length)
def fAt:List (κ×β)->κ->Nat->Option (Nat×β)
 | [],_,_=>none
 | (k',v)::l,k,i=>if k=k' then some (i,v) else fAt l k (i+1)
def tP(l:List (κ×β))(k:κ):Option β:=(fAt l k 0).map (·.2)
structure KeyT(P:Program)(kt:TI)(ek:κ->Value):Prop where
 ok:∀k,keyOk P kt (ek k)=true
 same:∀k,Instr.sameBits 10000 (ek k) (ek k)=true
 find:∀(es:List MapEntry) (l:List (κ×Value)) (i:Nat) (k:κ),es.map (fun e=>(e.key,e.val))=l.map (fun e=>(ek e.1,e.2))->findK P kt (ek k) es=some (fAt l k 0)
theorem Eg(ek:κ->Value)(ev:β->Value):∀(i:Nat) (l:List (κ×β)),(bU ek ev i l).map (fun e=>(e.key,e.val))=(l.map fun e=>(e.1,ev e.2)).map fun e=>(ek e.1,e.2)
 | _,[]=>rfl
 | i,(k,v)::l=>by simp[bU,Eg ek ev (i+1) l]
theorem IE(ev:β->Value)(k:κ):∀(l:List (κ×β)) (i:Nat),fAt (l.map fun e=>(e.1,ev e.2)) k i=(fAt l k i).map fun x=>(x.1,ev x.2)
 | [],_=>rfl
 | (E,v)::l,i=>by
  simp only[VO,fAt]
  split
  ·rfl
  ·exact IE ev k l (i+1)
theorem KeyT.at{P:Program}{kt:TI}{ek:κ->Value}(K:KeyT P kt ek)(ev:β->Value)(l:List (κ×β))(k:κ):findK P kt (ek k) (bU ek ev 0 l)=some ((fAt l k 0).map fun x=>(x.1,ev x.2)):=by
 rw[K.find _ _ 0 k (Eg ek ev 0 l),IE]
theorem zF{k:κ}{v:β}:∀{l:List (κ×β)} {i j:Nat},fAt l k i=some (j,v)->i<=j/\l[j - i]? = some (k,v)
 | [],_,_,h=>by simp[fAt]at h
 | (G,v')::l,i,j,h=>by
  simp only[fAt]at h
  split at h
  ·rename_i e
   simp only[Um,Un]at h;obtain⟨rfl,rfl⟩:=h;subst e;exact⟨Uf _,by simp⟩
  ·obtain⟨O,E⟩:=zF h;refine⟨by omega,?_⟩;obtain⟨m,rfl⟩:∃m,j=i+1+m:=⟨j - (i+1),by omega⟩;rw[show i+1+m - i=m+1 by omega,Vd];rw[show i+1+m - (i+1)=m by omega]at E;exact E
theorem zG{k:κ}:∀{l:List (κ×β)} {i:Nat},fAt l k i=none↔∀e∈l,e.1≠k
 | [],_=>by simp[fAt]
 | (O,v')::l,i=>by
  simp only[fAt]
  split
  ·rename_i e;subst e;simp
  ·rename_i e
   rw[zG]
   constructor
   ·intro h x E;rcases VM.1 E with rfl | E
    ·exact fun G=>e G.symm
    ·exact h x E
   ·intro h x E;exact h x (WL _ E)
theorem zL{ek:κ->Value}{ev:β->Value}:∀{l:List (κ×β)} {i j:Nat} {e:κ×β},l[j]? = some e->(bU ek ev i l)[j]? = some {key:=ek e.1,val:=ev e.2,born:=i+j}
 | [],_,_,_,h=>by simp at h
 | (k,v)::l,i,0,e,h=>by simp at h;subst h;rfl
 | (k,v)::l,i,j+1,e,h=>by
  rw[Vd]at h;simp only[bU,Vd];rw[zL h];congr 2
  omega
theorem qK(ek:κ->Value)(ev:β->Value)(k:κ)(v:β):∀(i:Nat) (l:List (κ×β)),bU ek ev i (l++[(k,v)])=bU ek ev i l++[{key:=ek k,val:=ev v,born:=i+l.length}]
 | _,[]=>rfl
 | i,(E,v')::l=>by
  simp only[List.cons_append,bU,qK ek ev k v (i+1) l,Ux];rw[show i+1+l.length=i+(l.length+1) by omega]
variable {P:Program} {kt et t:TI} {ek:κ->Value} {ev:β->Value} {h:Hp} {b:Nat} {l:List (κ×β)}
theorem MapAt.keep{S:NP}{h':Hp}(m:MapAt ek ev h b l)(k:Keep S h h')(hb:¬S b):MapAt ek ev h' b l:=k.oth b _ m rfl hb
theorem MapAt.lt(wf:Wf h)(m:MapAt ek ev h b l):b < h.next:=wf.lt m
theorem MapAt.new{E:Hp}(wf:Wf h)(he:E=h.newOb (.map [] 0)):MapAt ek ev E h.next ([]:List (κ×β))/\Kept h E/\E.next=h.next+1/\Wf E:=CK wf rfl he
theorem MapAt.look(m:MapAt ek ev h b l)(hu:P.underlying t=some (.map kt et))(K:KeyT P kt ek){z:Value}(E:zero? P et=some z)(hp:plainV 100 z=true)(k:κ)(ok:Bool):
  dY P t (.map (some b)) (ek k) ok h=some (if ok then .tuple #[((tP l k).map ev).getD z,.bool (tP l k).isSome] else((tP l k).map ev).getD z):=by
 unfold dY;rw[hu];simp only[K.ok k,Bool.not_true,VA,if_false,mapOf];have G:h.ob b=_:=m;rw[G];simp only;rw[K.at];unfold tP
 cases O:fAt l k 0 with
 | none=>simp[E,hp]
 | some x=>simp
theorem pZ{k:κ}:tP l k=none↔∀e∈l,e.1≠k:=by
 unfold tP;rw[Option.map_eq_none_iff];exact zG
theorem MapAt.add(m:MapAt ek ev h b l)(hu:P.underlying t=some (.map kt et))(K:KeyT P kt ek){k:κ}(v:β)(G:tP l k=none):
  ∃h',iS P t (.map (some b)) (ek k) (ev v) h=some h'/\MapAt ek ev h' b (l++[(k,v)])/\Keep (· = b) h h'/\h'.next=h.next/\(Wf h->Wf h'):=by
 have O:fAt l k 0=none:=zG.2 (pZ.1 G);unfold iS;rw[hu];simp only[K.ok k,Bool.not_true,VA,if_false];have E:h.ob b=_:=m;rw[E];simp only;rw[K.at,O];simp only[Option.map_none];obtain⟨U,V,W,q4⟩:=qY (o':=.map (bU ek ev 0 l++[{key:=ek k,val:=ev v,born:=l.length}]) (l.length+1)) E rfl rfl rfl;refine⟨_,rfl,?_,V,W,q4⟩;unfold MapAt;rw[U,qK,Nat.zero_add,Ug]
 rfl
theorem EE{α:Type}{L:List α}{i:Nat}{f:α->α}{x:α}(G:L[i]? = some x)(O:f x=x):L.modify i f=L:=by
 apply Vi;intro j;rw[List.getElem?_modify];by_cases E:i=j
 ·subst E;rw[G];simp[O]
 ·simp[E]
theorem MapAt.entry(m:MapAt ek ev h b l)(hu:P.underlying t=some (.map kt et))(K:KeyT P kt ek){z:Value}(hz:zero? P et=some z)(hp:plainV 100 z=true){v0:β}(G:ev v0=z)(k:κ):
  ∃(l':List (κ×β)) (i:Nat) (v:β) (h':Hp),jU P t (.map (some b)) (ek k) h=some (.tuple #[ev v,.int .i64 (i:Int)],h')/\MapAt ek ev h' b l'/\l'[i]? = some (k,v)/\v=(tP l k).getD v0/\(l'=l/\tP l k=some v\/l'=l++[(k,v0)]/\tP l k=none/\i=l.length)/\Keep (· = b) h h'/\h'.next=h.next/\(Wf h->Wf h'):=by
 unfold jU;rw[hu];simp only[K.ok k,Bool.not_true,VA,if_false];have O:h.ob b=_:=m;rw[O];simp only;rw[K.at]
 cases U:fAt l k 0 with
 | none =>
  simp only[Option.map_none,hz,hp,if_true];obtain⟨V,W,q3,q4⟩:=qY (o':=.map (bU ek ev 0 l++[{key:=ek k,val:=z,born:=l.length}]) (l.length+1)) O rfl rfl rfl;have hl:tP l k=none:=by unfold tP;rw[U];rfl
  refine⟨l++[(k,v0)],l.length,v0,_,by rw[G],?_,by simp,by rw[hl];rfl,.inr ⟨rfl,hl,rfl⟩,W,q3,q4⟩;unfold MapAt;rw[V,qK,Nat.zero_add,Ug,G]
  rfl
 | some x =>
  obtain⟨i,v⟩:=x;obtain⟨_,hg⟩:=zF U;rw[Nat.sub_zero]at hg;have E:=zL (ek:=ek) (ev:=ev) (i:=0) hg;rw[Nat.zero_add]at E;have aa:oB (bU ek ev 0 l) i (ek k)=true:=by unfold oB;rw[E];exact K.same k
  have ac:GY (bU ek ev 0 l) i (ek k)=bU ek ev 0 l:=EE E rfl;have hl:tP l k=some v:=by unfold tP;rw[U];rfl
  simp only[Uv,aa,Bool.not_true,VA,if_false,E,ac];obtain⟨V,W,q3,q4⟩:=qY (o':=.map (bU ek ev 0 l) l.length) O rfl rfl rfl;exact⟨l,i,v,_,rfl,V,hg,by rw[hl];rfl,.inl ⟨rfl,hl⟩,W,q3,q4⟩
theorem Eh:∀{l:List (κ×β)} {i j:Nat},j < l.length->(bU ek ev i l).findIdx? (fun e=>((e.born:Nat):Int)==((i+j:Nat):Int))=some j
 | [],_,_,h=>by simp at h
 | (k,v)::l,i,0,h=>by simp[bU,List.findIdx?_cons]
 | (k,v)::l,i,j+1,h=>by
  simp only[bU,List.findIdx?_cons];have E:(((i:Nat):Int)==((i+(j+1):Nat):Int))=false:=by
   rw[beq_eq_false_iff_ne];omega
  rw[E];have:=Eh (l:=l) (i:=i+1) (j:=j) (by simp at h;omega);rw[show i+1+j=i+(j+1) by omega]at this;rw[this]
  rfl
theorem Ef{v':β}:∀{l:List (κ×β)} {i j:Nat},(bU ek ev i l).modify j (fun e=>{e with val:=ev v'})=bU ek ev i (l.modify j fun e=>(e.1,v'))
 | [],_,j=>by cases j <;> rfl
 | (k,v)::l,i,0=>rfl
 | (k,v)::l,i,j+1=>by
  simp only[bU,List.modify_succ_cons];rw[Ef]
theorem MapAt.set(m:MapAt ek ev h b l){i:Nat}(hi:i < l.length)(v:β):
  ∃h',gV (.map (some b)) (.int .i64 (i:Int)) (ev v) h=some h'/\MapAt ek ev h' b (l.modify i fun e=>(e.1,v))/\Keep (· = b) h h'/\h'.next=h.next/\(Wf h->Wf h'):=by
 unfold gV;have E:h.ob b=_:=m;simp only[E];have:=Eh (ek:=ek) (ev:=ev) (l:=l) (i:=0) hi;rw[Nat.zero_add]at this;rw[this];obtain⟨G,O,U,V⟩:=qY (o':=.map ((bU ek ev 0 l).modify i fun e=>{e with val:=ev v}) l.length) E rfl rfl rfl
 refine⟨_,rfl,?_,O,U,V⟩;unfold MapAt;rw[G,Ef,List.length_modify]
def lC(h:Hp)(it b n:Nat)(seen:LN):Prop:=h.ob it=some (.iter (some b) n seen n)
theorem lC.keep{S:NP}{h':Hp}{it n:Nat}{seen:LN}(m:lC h it b n seen)(k:Keep S h h')(hb:¬S it):lC h' it b n seen:=k.oth it _ m rfl hb
theorem MapAt.range(wf:Wf h)(m:MapAt ek ev h b l)(hu:P.underlying t=some (.map kt et)):
  ∃h',qM P t (.map (some b)) h=some (ptr h.next 0,h')/\lC h' h.next b l.length []/\Kept h h'/\h'.next=h.next+1/\Wf h':=by
 unfold qM;rw[hu];have E:h.ob b=_:=m;simp only[E];obtain⟨G,O,U,V⟩:=CK wf (o:=.iter (some b) l.length [] l.length) rfl rfl;exact⟨_,rfl,G,O,U,V⟩
theorem vK:∀{l:List (κ×β)} {i:Nat} {e:MapEntry},e∈bU ek ev i l->∃j x,l[j]? = some x/\e={key:=ek x.1,val:=ev x.2,born:=i+j}
 | [],_,_,h=>by simp[bU]at h
 | (k,v)::l,i,e,h=>by
  simp only[bU,VM]at h;rcases h with rfl | h
  ·exact⟨0,(k,v),rfl,rfl⟩
  ·obtain⟨j,x,E,G⟩:=vK h;exact⟨j+1,x,by simpa using E,by rw[G];congr 1;omega⟩
theorem lC.next(m:MapAt ek ev h b l){it:Nat}{seen:LN}(r:lC h it b l.length seen):
  ∃L:List (Value×Hp),wM (ptr it 0) h=some L/\∀x∈L,(x=(.tuple #[.bool false],h)/\∀j,j < l.length->j∈seen)\/
   ∃(j:Nat) (e:κ×β),l[j]? = some e/\j∉seen/\x.1 = .tuple #[.bool true,ek e.1,ev e.2]/\lC x.2 it b l.length (seen++[j])/\Keep (· = it) h x.2/\x.2.next=h.next/\(Wf h->Wf x.2):=by
 have m':h.ob b=_:=m;have r':h.ob it=_:=r;have O:∀e∈bU ek ev 0 l,e.born < l.length:=by
  intro e he;obtain⟨j,x,G,W⟩:=vK he;have:=(Us.1 G).1;rw[W];show 0+j < _
  omega
 show ∃L,(match h.ob it with | some (.iter none _ _ _)=>_ | some (.iter (some m) since seen last)=>_ | _=>_)=some L/\_
 rw[r'];simp only[m'];have hc:(!seen.isEmpty && !(bU ek ev 0 l).isEmpty&&(bU ek ev 0 l).all (fun e=>decide (e.born>=l.length)))=false:=by
  cases hE:bU ek ev 0 l with
  | nil=>simp
  | cons e es =>
   have:=O e (by rw[hE];simp);simp only[List.all_cons,Bool.and_eq_false_iff]
   right;left
   simp;omega
 rw[if_neg (by rw[hc];simp)];refine⟨_,rfl,?_⟩;intro x E;rw[VF]at E;rcases E with E | E
 ·split at E
  ·rename_i U
   simp only[WC]at E;refine .inl ⟨E,fun j hj=>?_⟩;apply Classical.byContradiction;intro aa;have hg:=zL (ek:=ek) (ev:=ev) (i:=0) (Uh hj);rw[Nat.zero_add]at hg;have V:=Uy hg;rw[List.isEmpty_iff,List.filter_eq_nil_iff]at U;exact U _ (WG.2 ⟨V,by simpa using aa⟩) (by simpa using hj)
  ·simp at E
 ·rw[Uu]at E;obtain⟨e,he,rfl⟩:=E;have ac:e∈bU ek ev 0 l/\seen.contains e.born=false:=by
   rw[VF]at he;have G:e∈(bU ek ev 0 l).filter fun e=>!seen.contains e.born:=by
    rcases he with he | he
    ·exact(WG.1 he).1
    ·exact(WG.1 he).1
   exact⟨(WG.1 G).1,by simpa using (WG.1 G).2⟩
  obtain⟨G,W⟩:=ac;obtain⟨j,y,h3,h4⟩:=vK G;subst h4;obtain⟨q1,q2,q3,q4⟩:=qY (o':=.iter (some b) l.length (seen++[0+j]) l.length) r' rfl rfl rfl;rw[Nat.zero_add]at q1 W;refine .inr ⟨j,y,h3,by simpa using W,rfl,?_,?_,?_,?_⟩
  ·simp only[Nat.zero_add];exact q1
  ·simp only[Nat.zero_add]at q2 ⊢;exact q2
  ·exact q3
  ·simp only[Nat.zero_add]at q4 ⊢;exact q4
theorem lC.last(m:MapAt ek ev h b l){it:Nat}{seen:LN}{j:Nat}{e:κ×β}(r:lC h it b l.length (seen++[j]))(G:l[j]? = some e):jV (ptr it 0) h=some (.tuple #[ek e.1,ev e.2]):=by
 have O:h.ob b=_:=m;have r':h.ob it=_:=r;show(match h.ob it with | some (.iter (some m) _ seen Bu)=>_ | _=>_)=_
 rw[r'];simp only[List.getLast?_append,List.getLast?_singleton,Option.some_or,O];rw[if_neg (by simp)];have E:∀{l:List (κ×β)} {i j:Nat} {e:κ×β},l[j]? = some e->(bU ek ev i l).find? (fun x=>x.born==i+j)=some {key:=ek e.1,val:=ev e.2,born:=i+j}:=by
  intro l
  induction l with
  | nil=>intro i j e h;simp at h
  | cons x l U =>
   intro i j e h
   cases j with
   | zero=>simp at h;subst h;simp[bU]
   | succ j =>
    rw[Vd]at h;simp only[bU,Wk];have V:(i==i+(j+1))=false:=by rw[beq_eq_false_iff_ne];omega
    rw[V];have:=U (i:=i+1) h;rw[show i+1+j=i+(j+1) by omega]at this;exact this
 have:=E (i:=0) G;rw[Nat.zero_add]at this;rw[this]
 rfl
end
theorem Mi{P:Program}{kt:TI}{k:IntKind}(hu:P.underlying kt=some (.int k)):KeyT P kt fun n:Nat=>Value.int k (n:Int):=by
 refine⟨fun n=>by unfold keyOk;rw[hu],fun n=>by simp[Instr.sameBits],fun es l i n he=>?_⟩;unfold findK;rw[hu];simp only;have key:∀(es:List MapEntry) (l:List (Nat×Value)) (i:Nat),es.map (fun e=>(e.key,e.val))=l.map (fun e=>(Value.int k (e.1:Int),e.2))->Instr.findNow (.int k) (.int k (n:Int)) es i=some (fAt l n i):=by
  intro es
  induction es with
  | nil =>
   intro l i h
   cases l with
   | nil=>rfl
   | cons x l=>simp at h
  | cons e es G =>
   intro l i h
   cases l with
   | nil=>simp at h
   | cons x l =>
    obtain⟨a,v⟩:=x;simp only[VO,Ur,Un]at h;obtain⟨⟨O,U⟩,V⟩:=h;unfold Instr.findNow;rw[O];simp only[Instr.sameNow,if_true,fAt];by_cases E:n=a
    ·subst E;simp[U]
    ·have hb:(((n:Nat):Int)==((a:Nat):Int))=false:=by rw[beq_eq_false_iff_ne];omega
     rw[hb,if_neg E];exact G l (i+1) V
 exact key es l 0 he
section
variable {κ:Type} [DecidableEq κ]
structure TallyOf(L:List κ)(l:List (κ×Nat)):Prop where
 nodup:(l.map (·.1)).Nodup
 val:∀e∈l,e.2=L.count e.1
 all:∀d∈L,∃e∈l,e.1=d
theorem TallyOf.nil:TallyOf ([]:List κ) []:=⟨by simp,by simp,by simp⟩
theorem TallyOf.look{L:List κ}{l:List (κ×Nat)}(t:TallyOf L l)(d:κ):(tP l d).getD 0=L.count d:=by
 cases E:tP l d with
 | none =>
  have h:=pZ.1 E
  symm
  show L.count d=0;rw[List.count_eq_zero];intro U;obtain⟨e,he,G⟩:=t.all d U;exact h e he G
 | some v =>
  unfold tP at E
  cases O:fAt l d 0 with
  | none=>rw[O]at E;simp at E
  | some x =>
   obtain⟨i,v'⟩:=x;rw[O]at E;simp at E;subst E;obtain⟨_,V⟩:=zF O;exact t.val _ (Uy V)
theorem Jz{l:List (κ×Nat)}(h:(l.map (·.1)).Nodup) {i j:Nat} {e f:κ×Nat} (he:l[i]? = some e) (E:l[j]? = some f) (G:e.1=f.1):i=j:=by
 have hi:=(Us.1 he).1;have O:=(Us.1 E).1;refine(List.getElem?_inj (by simpa using hi) h).1 ?_;rw[VB,VB,he,E];simp[G]
theorem TallyOf.bump{L:List κ}{l l':List (κ×Nat)}(t:TallyOf L l){d:κ}{i v:Nat}(hg:l'[i]? = some (d,v))(hv:v=(tP l d).getD 0)(hl:l'=l/\tP l d=some v\/l'=l++[(d,0)]/\tP l d=none/\i=l.length):TallyOf (L++[d]) (l'.modify i fun e=>(e.1,v+1)):=by
 have ad:v=L.count d:=by rw[hv,t.look]
 have aa:(l'.map (·.1)).Nodup:=by
  rcases hl with ⟨rfl,_⟩ | ⟨rfl,hn,_⟩
  ·exact t.nodup
  ·rw[VY,List.nodup_append];refine⟨t.nodup,by simp,?_⟩;intro a V b hb;simp only[VO,List.map_nil,WC]at hb;subst hb;obtain⟨e,he,rfl⟩:=Uu.1 V;exact pZ.1 hn e he
 have ac:∀e∈l',e.1≠d->e.2=L.count e.1:=by
  intro e he O;rcases hl with ⟨rfl,_⟩ | ⟨rfl,_,_⟩
  ·exact t.val e he
  ·rcases VF.1 he with he | he
   ·exact t.val e he
   ·simp at he;subst he;exact absurd rfl O
 have E:(l'.modify i fun e=>(e.1,v+1)).map (·.1)=l'.map (·.1):=by
  apply Vi;intro j;rw[VB,VB,List.getElem?_modify]
  cases l'[j]? with
  | none=>simp
  | some x=>by_cases G:i=j <;> simp[G]
 refine⟨by rw[E];exact aa,?_,?_⟩
 ·intro e he;obtain⟨j,W⟩:=WD he;rw[List.getElem?_modify]at W
  cases hx:l'[j]? with
  | none=>rw[hx]at W;simp at W
  | some x =>
   rw[hx]at W;by_cases G:i=j
   ·subst G;rw[hg]at hx;injection hx with hx
    subst hx;simp at W;subst W;show v+1=(L++[d]).count d;rw[List.count_append,List.count_singleton_self,ad]
   ·simp[G]at W;subst W;have O:x.1≠d:=fun hc=>G (Jz aa hg hx hc.symm);rw[List.count_append,ac x (Uy hx) O];have:List.count x.1 [d]=0:=by rw[List.count_eq_zero];simpa using O
    omega
 ·intro a V;have h1:∃e∈l',e.1=a:=by
   rcases VF.1 V with V | V
   ·obtain⟨e,he,U⟩:=t.all a V;rcases hl with ⟨rfl,_⟩ | ⟨rfl,_,_⟩
    ·exact⟨e,he,U⟩
    ·exact⟨e,WW _ he,U⟩
   ·simp at V;subst V;exact⟨_,Uy hg,rfl⟩
  obtain⟨e,he,U⟩:=h1;have:a∈(l'.modify i fun e=>(e.1,v+1)).map (·.1):=by rw[E,<-U];exact List.mem_map_of_mem he
  obtain⟨f,hf,ae⟩:=Uu.1 this;exact⟨f,hf,ae⟩
theorem El{L:List κ}{P:κ->Bool}(d:κ):L.countP P=(if P d=true then L.count d else 0)+(L.filter fun x=>!decide (x=d)).countP P:=by
 induction L with
 | nil=>simp
 | cons x L G =>
  rw[List.countP_cons,List.count_cons,Wj];by_cases E:x=d
  ·subst E;simp only[decide_true,Bool.not_true,VA,if_false,beq_self_eq_true,if_true]
   split
   ·rename_i h;rw[if_pos h]at G;omega
   ·rename_i h;rw[if_neg h]at G;omega
  ·simp only[E,decide_false,Bool.not_false,if_true,List.countP_cons];have:(x==d)=false:=by rw[beq_eq_false_iff_ne];exact E
   simp only[this,VA,if_false,Vk]
   omega
theorem Ai{P:κ->Bool}:∀{l:List (κ×Nat)} {L:List κ},(l.map (·.1)).Nodup->(∀e∈l,e.2=L.count e.1)->(∀d∈L,∃e∈l,e.1=d)->(l.map fun e=>if P e.1=true then e.2 else 0).sum=L.countP P
 | [],L,_,_,O=>by
  cases L with
  | nil=>rfl
  | cons d L=>obtain⟨e,he,_⟩:=O d (by simp);simp at he
 | e::l,L,hn,hv,O=>by
  rw[VO,List.nodup_cons]at hn;obtain⟨U,V⟩:=hn;have W:∀f∈l,f.1≠e.1:=fun f E hc=>U (by rw[<-hc];exact List.mem_map_of_mem E);have ih:=Ai (P:=P) (l:=l) (L:=L.filter fun x=>!decide (x=e.1)) V (fun f E=>by
   rw[hv f (WL _ E),List.count_filter];simpa using W f E) (fun d hd=>by
   obtain⟨h1,h2⟩:=WG.1 hd;obtain⟨f,E,G⟩:=O d h1;rcases VM.1 E with rfl | E
   ·simp[G]at h2
   ·exact⟨f,E,G⟩)
  rw[VO,List.sum_cons,ih,El (L:=L) (P:=P) e.1,hv e (by simp)]
theorem TallyOf.sum{L:List κ}{l:List (κ×Nat)}(t:TallyOf L l)(P:κ->Bool):(l.map fun e=>if P e.1=true then e.2 else 0).sum=L.countP P:=Ai t.nodup t.val t.all
def kO(n:Nat)(g:Nat->Nat)(seen:LN):Nat:=((List.range n).map fun x=>if x∈seen then g x else 0).sum
theorem qW{g:Nat->Nat}{seen:LN}{j:Nat}(O:j∉seen):∀n:Nat,kO n g (seen++[j])=kO n g seen+(if j < n then g j else 0)
 | 0=>rfl
 | n+1=>by
  have U:=qW (g:=g) O n;unfold kO at U ⊢;simp only[List.range_succ,VY,VO,List.map_nil,List.sum_append,List.sum_cons,List.sum_nil,Vk,U];by_cases E:n=j
  ·subst E;simp[O]
  ·have W:(n∈seen++[j])↔n∈seen:=by simp[E]
   simp only[W];by_cases V:j < n
   ·have G:j < n+1:=by omega
    simp only[V,G,if_true];omega
   ·have G:¬j < n+1:=by omega
    simp only[V,G,if_false];omega
theorem Dp(n:Nat)(g:Nat->Nat):kO n g []=0:=by
 induction n with
 | zero=>rfl
 | succ n E =>
  unfold kO at E ⊢;simp only[List.range_succ,VY,List.sum_append,E];simp
theorem Hl(n:Nat)(g:Nat->Nat)(seen:LN):kO n g seen<=((List.range n).map g).sum:=by
 induction n with
 | zero=>exact Uf _
 | succ n E =>
  unfold kO at E ⊢;simp only[List.range_succ,VY,List.sum_append,VO,List.map_nil,List.sum_cons,List.sum_nil]
  split <;> omega
theorem Dq{n:Nat}{g:Nat->Nat}{seen:LN}(h:∀j,j < n->j∈seen):kO n g seen=((List.range n).map g).sum:=by
 unfold kO;congr 1;apply WV;intro x E;rw[if_pos (h x (List.mem_range.1 E))]
theorem Od(n:Nat):((List.range n).map fun _=>1).sum=n:=by
 induction n with
 | zero=>rfl
 | succ n E=>simp only[List.range_succ,VY,List.sum_append,E];rfl
theorem AS{α:Type}(l:List α)(f:α->Nat)(d:α):((List.range l.length).map fun j=>f (l.getD j d))=l.map f:=by
 apply Vi;intro i;rw[VB,VB];by_cases hi:i < l.length
 ·rw[List.getElem?_range hi,Uh hi];simp[Uz,hi]
 ·rw[VI (by simp;omega),VI (by omega)];rfl
end
end Go.Cn
namespace Go.Cn.Pk
theorem PI{L:List PageT}(no:Nat):tP (L.map fun g=>(g.no,g)) no=L.find? (fun g=>g.no==no):=by
 have key:∀(L:List PageT) (i:Nat),(fAt (L.map fun g=>(g.no,g)) no i).map (·.2)=L.find? (fun g=>g.no==no):=by
  intro L
  induction L with
  | nil=>intro i;rfl
  | cons g L G =>
   intro i;simp only[VO,fAt,Wk];by_cases E:no=g.no
   ·rw[if_pos E];have:(g.no==no)=true:=by simp[E]
    rw[this];rfl
   ·rw[if_neg E];have:(g.no==no)=false:=by rw[beq_eq_false_iff_ne];exact fun h=>E h.symm
    rw[this];exact G (i+1)
 exact key L 0
def ekN(n:Nat):Value:=.int .u32 (n:Int)
def evP(g:PageT):Value:=.agg (pageC g).toArray
end Go.Cn.Pk
namespace Go.Proofs.YtmapagggnigfpaaGreat.pk
open Cn Cn.Pk vc
theorem Rf:KeyT Tryz.prog 39 ekN:=Mi Tryz.underlying39
theorem QG:zero? Tryz.prog 133 = some (.agg #[.int .u8 0,.int .u32 0,.int .u64 0,.string ⟨#[]⟩]):=by kernel_rfl
theorem Ko:plainV 100 (.agg #[.int .u8 0,.int .u32 0,.int .u64 0,.string ⟨#[]⟩])=true:=by kernel_rfl
abbrev Gi:PageT:=⟨0,0,0,⟨#[]⟩⟩
structure ShelfAt(h:Hp)(sh mb:Nat)(p w:Int)(L:List PageT):Prop where
 blk:Blk h sh (some sh) [.int .i64 p,.int .i64 w,.map (some mb)]
 map:MapAt ekN evP h mb (L.map fun g=>(g.no,g))
theorem ShelfAt.keep{h h':Hp}{S:NP}{sh mb:Nat}{p w:Int}{L:List PageT}(x:ShelfAt h sh mb p w L)(k:Keep S h h')(G:¬S sh)(O:¬S mb):ShelfAt h' sh mb p w L :=
 ⟨k.blk x.blk fun y E=>by simp at E;subst E;exact G,x.map.keep k O⟩
theorem Ka{p w:Int}(hF:Fr p w){a:OA}{l c:Nat}{gr:ON}{L:List PageT}{h:Hp}(sl:SlT pageC 4 h gr a l c L)(hg:∀y,gr=some y->y < h.next)(hl:L.length<=1000000)(an:∀g∈L,pageErr p w g.kind g.no g.ver g.body.size=0)(ao:(L.map (·.no)).Nodup) :
  C 22 [fr p w,.slice a l c] h fun v h'=>(∃sh mb,v = .tuple #[pt sh,.int .i64 0]/\h.next<=sh/\sh < h'.next/\h.next<=mb/\mb < h'.next/\sh≠mb/\ShelfAt h' sh mb p w L)/\Kept h h':=by
 refine sv DJ fun wf=>?_;have a7:=sl.len;intro h1 e1;obtain⟨b1,k1,n1,af⟩:=aB wf e1;have aa:∀{O:Hp},Blk O h.next (some h.next) [.int .i64 p,.int .i64 w]->O.cellsAt h.next 0 2=some [.int .i64 p,.int .i64 w]:=fun hb=>by rw[hb.cells (by simp)];rfl
 refine⟨p,w,⟨rfl,aa b1⟩,?_⟩;refine(TL p w h1).mono fun v E ⟨e,eh⟩=>⟨_,e,?_⟩;subst eh;rw[if_neg (by simp[aD,hF])];refine⟨p,w,⟨rfl,aa b1⟩,?_⟩;intro h2 e2 h3 e3;obtain⟨m2,k2,n2,ap⟩:=MapAt.new (ek:=ekN) (ev:=evP) af e2;obtain⟨b3,k3,n3,V⟩:=aB ap e3;have ac:=(k1.trans wf k2 fF).trans wf k3 fF;have aq:=k2.trans af k3 fF;have hT:∀{O:Hp} {S:NP},Keep S h3 O->(∀y,y < E.next->¬S y)->Blk O h.next (some h.next) [.int .i64 p,.int .i64 w]:=fun k hS=>k.blk (Kept.blk aq b1) fun y G=>by simp at G;subst G;exact hS _ (by omega)
 refine⟨fun vals m O=>∃i:Nat,[.int .i64 (i:Int)]=vals/\m=l - i/\i<=l/\MapAt ekN evP O E.next ((L.take i).map fun g=>(g.no,g))/\Keep (fun y=>y=E.next\/h3.next<=y) h3 O/\Wf O,⟨l,0,rfl,rfl,Uk _,m2.keep k3 (fun h=>h),Keep.refl _ _,V⟩,?_⟩;rintro n m O ⟨i,e,rfl,hi,mh,kk,ag⟩;simp only[Ur,Value.int.injEq,true_and,and_true]at e;subst e;have a8:=kk.next;have a6:=ac.next;have ar:=kk.blk b3 fun y G U=>by simp at G;omega
 by_cases U:bO (i:Int) (aE l)=true
 ·rw[if_pos U];have a9:i < l:=by rw[aC,aF]at U;omega
  obtain⟨g,eb⟩:∃q,L[i]? = some q:=⟨_,Uh (by omega)⟩;have au:=(sl.keep ac fF).keep kk fun y G U=>by have:=hg y G;omega
  obtain⟨ha,ad⟩:=au.get uX eb (j:=0) (m:=4) (by omega);have av:aA (off a) (i:Int) 4=off a+i * 4+0:=by unfold aA;rw[Uo];omega
  refine⟨⟨ha,Ui _,by omega⟩,(g.kind:Int),(g.no:Int),(g.ver:Int),g.body,⟨rfl,by rw[av];exact ad⟩,?_⟩;intro h4 e4;obtain⟨b4,k4,n4,ax⟩:=aB ag e4;obtain⟨h5,e5,b5,k5,_,n5,ah⟩:=bP ax (vs:=pageC g) b4 k4 ag (Uf _) rfl rfl;have ae:Keep (fun y=>y=E.next\/h3.next<=y) h3 h5:=kk.trans V k5 fun _ _ h=>h.elim;have r5:∀{hz:Hp},Kept h5 hz->Blk hz O.next (some O.next) [.int .u8 (g.kind:Int),.int .u32 (g.no:Int),.int .u64 (g.ver:Int),.string g.body]:=fun k=>Kept.blk k b5;refine⟨rfl,h5,e5,p,w,⟨rfl,aa (hT ae fun y G U=>by omega)⟩,(g.kind:Int),(g.no:Int),(g.ver:Int),g.body,⟨rfl,by rw[b5.cells (by simp[pageC])];rfl⟩,?_⟩;refine(Po p w g.kind g.no g.ver g.body h5).mono fun v ba ⟨e,eh⟩=>⟨_,e,?_⟩;subst eh;rw[an g (Uy eb),if_neg (by simp[cP])];intro h6 e6;obtain⟨b6,k6,n6,ay⟩:=aB ah e6;have az:Keep (fun y=>y=E.next\/h3.next<=y) h3 h6:=ae.trans V k6 fun _ _ h=>h.elim;have m6:=(mh.keep k5 fun h=>h).keep k6 fun h=>h;have ai:=az.blk b3 fun y G U=>by simp at G;omega
  have aj:tP ((L.take i).map fun g=>(g.no,g)) g.no=none:=by
   rw[pZ];intro x hx a0;obtain⟨q,hq,rfl⟩:=Uu.1 hx;obtain⟨j,hj⟩:=WD hq;rw[VZ]at hj
   split at hj
   ·rename_i bb
    have:=(List.getElem?_inj (l:=L.map (·.no)) (i:=j) (j:=i) (by rw[VP];omega) ao).1 (by rw[VB,VB,hj,eb];simpa using a0)
    omega
   ·simp at hj
  have W:=m6.look Tryz.underlying134 Rf QG Ko g.no true;rw[aj]at W;refine⟨rfl,rfl,some E.next,⟨rfl,ai.one rfl⟩,rfl,(g.no:Int),⟨rfl,(r5 k6).one rfl⟩,0,0,0,⟨#[]⟩,false,W,rfl,?_⟩;obtain⟨h7,e7,b7,k7,_,n7,a4⟩:=bP ay (vs:=[.int .u8 0,.int .u32 0,.int .u64 0,.string ⟨#[]⟩]) b6 k6 ah (Uf _) rfl rfl;refine⟨h7,e7,?_⟩;rw[if_neg (by simp)];have ak:Keep (fun y=>y=E.next\/h3.next<=y) h3 h7:=ae.trans V k7 fun _ _ h=>h.elim;have al:=ak.blk b3 fun y G U=>by simp at G;omega
  have m7:=(mh.keep k5 fun h=>h).keep k7 fun h=>h;obtain⟨h8,e8,m8,k8,n8,a5⟩:=m7.add Tryz.underlying134 Rf g aj;refine⟨rfl,rfl,some E.next,⟨rfl,al.one rfl⟩,rfl,(g.no:Int),⟨rfl,(r5 k7).one rfl⟩,(g.kind:Int),(g.no:Int),(g.ver:Int),g.body,⟨rfl,by rw[(r5 k7).cells (by simp)];rfl⟩,h8,e8,l - (i+1),by simp only[aI];omega,i+1,?_,rfl,by omega,?_,ak.trans V k8 fun y G U=>.inl U,a5 a4⟩
  ·rw[show aG .i64 (i:Int) 1=_ from cN 1 i (by omega)]
  ·rw[VG,eb,VY];exact m8
 ·rw[if_neg U];have bf:i=l:=by
   have:¬i < l:=fun h=>U (by rw[aC,aF];omega)
   omega
  rw[Uj (by omega)]at mh;exact⟨⟨h2.next,E.next,rfl,by omega,by omega,by omega,by omega,by omega,ar,mh⟩,ac.trans wf kk fun y G U=>by omega⟩
theorem HO{h:Hp}{sh mb:Nat}{p w:Int}{L:List PageT}(x:ShelfAt h sh mb p w L):C 209 [pt sh] h fun v h'=>v = .bool false/\h'=h:=by
 refine sv Bi fun wf=>?_;exact⟨fun _=>rfl,fun _=>rfl,some mb,fun _=>⟨rfl,x.blk.one rfl⟩,rfl,rfl⟩
theorem pV{h:Hp}{b:Nat}{g:ON}{x:PageT}(hb:Blk h b g (pageC x)):h.cellsAt b 0 4=some [.int .u8 (x.kind:Int),.int .u32 (x.no:Int),.int .u64 (x.ver:Int),.string x.body]:=by rw[hb.cells (by simp[pageC])];rfl
theorem HN{h:Hp}{sh mb:Nat}{p w:Int}{L:List PageT}(x:ShelfAt h sh mb p w L)(no:Nat):C 234 [pt sh,.int .u32 (no:Int)] h fun v h' =>
  v=(match L.find? (fun g=>g.no==no) with | some g=>.tuple #[evP g,.int .i64 0] | none=>.tuple #[evP Gi,.int .i64 55])/\Kept h h':=by
 refine sv Bh fun wf=>?_;intro h1 e1;obtain⟨b1,k1,n1,G⟩:=aB wf e1;have b1:Blk h1 h.next (some h.next) (pageC Gi):=b1;have x1:=x.keep k1 (fun h=>h) fun h=>h;refine(HO x1).mono fun v ac ⟨e,eh⟩=>⟨_,e,?_⟩;subst eh;rw[if_neg (by simp)];have E:=x1.map.look Tryz.underlying134 Rf QG Ko no true;rw[PI]at E
 cases hf:L.find? (fun g=>g.no==no) with
 | none =>
  rw[hf]at E;refine⟨rfl,rfl,some mb,⟨rfl,x1.blk.one rfl⟩,0,0,0,⟨#[]⟩,false,E,?_⟩;intro h2 e2;obtain⟨b2,k2,n2,O⟩:=aB G e2;obtain⟨h3,e3,b3,W,_,n3,U⟩:=bP O (vs:=pageC Gi) b2 k2 G (Uf _) rfl rfl;refine⟨rfl,h3,e3,?_⟩;rw[if_pos (by rfl)];have V:=k1.trans wf W fF;obtain⟨h4,e4,b4,k4,_,n4,aa⟩:=bP U (vs:=pageC Gi) (Kept.blk W b1) V wf (Uf _) rfl rfl;exact⟨rfl,h4,e4,_,_,_,_,⟨rfl,pV b4⟩,rfl,k4⟩
 | some g =>
  rw[hf]at E;refine⟨rfl,rfl,some mb,⟨rfl,x1.blk.one rfl⟩,(g.kind:Int),(g.no:Int),(g.ver:Int),g.body,true,E,?_⟩;intro h2 e2;obtain⟨b2,k2,n2,O⟩:=aB G e2;obtain⟨h3,e3,b3,W,_,n3,U⟩:=bP O (vs:=pageC g) b2 k2 G (Uf _) rfl rfl;refine⟨rfl,h3,e3,?_⟩;rw[if_neg (by simp[aD])];have V:=k1.trans wf W fF;obtain⟨h4,e4,b4,k4,_,n4,aa⟩:=bP U (vs:=pageC g) (Kept.blk W b1) V wf (Uf _) rfl rfl;exact⟨_,_,_,_,⟨rfl,pV b3⟩,rfl,h4,e4,_,_,_,_,⟨rfl,pV b4⟩,rfl,k4⟩
def CountAt(h:Hp)(c sh:Nat):Prop:=∃n:Int,Blk h c (some c) [.iface 73 (.pointer (some ⟨sh,0,none⟩)),.int .i64 n]
theorem CountAt.keep{h h':Hp}{S:NP}{c sh:Nat}(x:CountAt h c sh)(k:Keep S h h')(G:¬S c):CountAt h' c sh:=by
 obtain⟨n,b⟩:=x;exact⟨n,k.blk b fun y E=>by simp at E;subst E;exact G⟩
theorem HT{h:Hp}{c sh mb:Nat}{p w:Int}{L:List PageT}(x:ShelfAt h sh mb p w L)(y:CountAt h c sh)(h1:sh≠c)(h2:mb≠c)(no:Nat):C 207 [pt c,.int .u32 (no:Int)] h fun v h' =>
  v=(match L.find? (fun g=>g.no==no) with | some g=>.tuple #[evP g,.int .i64 0] | none=>.tuple #[evP Gi,.int .i64 55])/\Keep (· = c) h h'/\CountAt h' c sh:=by
 obtain⟨n,b⟩:=y;refine sv Bo fun wf=>?_;have ae:=b.glt wf;intro af e1;obtain⟨b1,k1,n1,aa⟩:=aB wf e1;have E:=Kept.blk k1 b;obtain⟨ac,e2,b2,k2,n2,G⟩:=E.set (o:=1) (v:=.int .i64 (aG .i64 n 1)) (by simp) rfl;have G:=G aa;refine⟨rfl,rfl,n,⟨rfl,E.one rfl⟩,rfl,rfl,rfl,ac,e2,rfl,rfl,some ⟨sh,0,none⟩,⟨rfl,b2.one rfl⟩,?_⟩;have x2:=(x.keep k1 (fun h=>h) fun h=>h).keep k2 h1 h2;refine(HN x2 no).wf fun v h3 ag ah ⟨e,k3⟩=>?_;have O:Keep (· = c) h h3:=((k1.mono wf (S':=(· = c)) fun _ _ h=>h.elim).trans wf k2 fF).trans wf k3 fun _ _ h=>h.elim;have U:=Kept.blk k3 (k2.blk b1 fun y hy hc=>by simp at hy;omega);have V:CountAt h3 c sh:=⟨_,Kept.blk k3 b2⟩
 cases hf:L.find? (fun g=>g.no==no) with
 | none =>
  rw[hf]at e;obtain⟨h4,e4,W,k4,n4,ad⟩:=U.store (o:=0) (vs:=pageC Gi) (by simp[pageC]) rfl;rw[aO (by rfl)]at W;exact⟨0,0,0,⟨#[]⟩,55,e,rfl,h4,e4,_,_,_,_,⟨rfl,pV W⟩,rfl,O.trans wf k4 fun y hy hc=>by omega,V.keep k4 (by omega)⟩
 | some g =>
  rw[hf]at e;obtain⟨h4,e4,W,k4,n4,ad⟩:=U.store (o:=0) (vs:=pageC g) (by simp[pageC]) rfl;rw[aO (by rfl)]at W;exact⟨(g.kind:Int),(g.no:Int),(g.ver:Int),g.body,0,e,rfl,h4,e4,_,_,_,_,⟨rfl,pV W⟩,rfl,O.trans wf k4 fun y hy hc=>by omega,V.keep k4 (by omega)⟩
theorem TJ{p w:Int}(V:Fr p w)(c:Nat)(h:Hp):C 23 [fr p w,.iface 32 (.pointer (some ⟨c,0,none⟩))] h fun v h'=>(∃s,v = .tuple #[.iface 139 (.pointer (some ⟨s,0,none⟩)),.int .i64 0]/\h.next<=s/\s < h'.next/\Blk h' s (some s) [.int .i64 p,.int .i64 w,.iface 32 (.pointer (some ⟨c,0,none⟩))])/\Kept h h':=by
 refine sv OM fun wf=>?_;intro O e1;obtain⟨b1,W,n1,E⟩:=aB wf e1;have U:O.cellsAt h.next 0 2=some [.int .i64 p,.int .i64 w]:=by rw[b1.cells (by simp)];rfl
 refine⟨p,w,⟨rfl,U⟩,?_⟩;refine(zS p w O).mono fun v G ⟨e,eh⟩=>⟨_,e,?_⟩;subst eh;rw[if_neg (by simp[aD,V])];refine⟨trivial,?_⟩;rw[if_neg (by simp[iR])];refine⟨p,w,⟨rfl,U⟩,?_⟩;intro h2 e2;obtain⟨b2,k2,n2,aa⟩:=aB E e2;exact⟨⟨G.next,rfl,by omega,by omega,b2⟩,W.trans wf k2 fF⟩
structure SheetAt(h:Hp)(s c sh mb:Nat)(p w:Int)(L:List PageT):Prop where
 sheet:Blk h s (some s) [.int .i64 p,.int .i64 w,.iface 32 (.pointer (some ⟨c,0,none⟩))]
 count:CountAt h c sh
 shelf:ShelfAt h sh mb p w L
set_option maxRecDepth 20000 in
theorem Am{s c sh mb:Nat}{p w:Int}{L:List PageT}(hF:Fr p w)(a7:∀g∈L,g.body.size<=8192)(h1:sh≠c)(h2:mb≠c)(h3:s≠c):SrcAt (fun y=>y=s\/y=c\/y=sh\/y=mb) (fun h=>SheetAt h s c sh mb p w L) s (aY p w L):=by
 refine⟨fun {S h h'} x k hS=>⟨k.blk x.sheet fun y V=>by simp at V;subst V;exact hS _ (.inl rfl),x.count.keep k (hS _ (.inr (.inl rfl))),x.shelf.keep k (hS _ (.inr (.inr (.inl rfl)))) (hS _ (.inr (.inr (.inr rfl))))⟩,fun {h} x wf g hg=>?_,fun h no bp x=>?_⟩
 ·obtain⟨n,aj⟩:=x.count;rcases hg with rfl | rfl | rfl | rfl
  ·exact x.sheet.glt wf
  ·exact aj.glt wf
  ·exact x.shelf.blk.glt wf
  ·exact x.shelf.map.lt wf
 refine sv Bj fun wf=>?_;have x0:=x;obtain⟨bs,E,xs⟩:=x;have bq:=bs.glt wf;have br:c < h.next:=by obtain⟨n,aj⟩:=E;exact aj.glt wf
 intro a8 e1;obtain⟨b1,k1,n1,bt⟩:=aB wf e1;have a9:=Kept.blk k1 bs;refine⟨rfl,rfl,some ⟨c,0,none⟩,⟨rfl,a9.one rfl⟩,?_⟩;refine(HT (xs.keep k1 (fun h=>h) fun h=>h) (E.keep k1 fun h=>h) h1 h2 no).wf fun v ba ae bu ⟨e,k2,af⟩=>?_;have inv:∀{hz:Hp},Keep (fun y=>y=c\/h.next<=y) h hz->CountAt hz c sh->SheetAt hz s c sh mb p w L:=fun k ak=>⟨k.blk bs fun y V E=>by
  simp at V;subst V;rcases E with h | h
  ·exact h3 h
  ·omega,ak,xs.keep k (fun E=>by have:=xs.blk.glt wf;rcases E with h | h;exact h1 h;omega) (fun E=>by have:=xs.map.lt wf;rcases E with h | h;exact h2 h;omega)⟩
 have av:Keep (fun y=>y=c\/h.next<=y) h ba:=(k1.mono wf (S':=fun y=>y=c\/h.next<=y) fun _ _ h=>h.elim).trans wf k2 fun y V E=>.inl E;have fin:∀(hz:Hp) (err:Int) (W:OA) (m1 d1:Nat) (x2:OA) (G d2:Nat) (x3:OA) (O d3:Nat),Wf hz->Keep (fun y=>y=c\/h.next<=y) h hz->Blk hz h.next (some h.next) [.slice none 0 0,.slice none 0 0,.slice none 0 0]->CountAt hz c sh->(aY p w L no).1=err->(err=0->NodeS hz (fun y=>a8.next<=y/\y < hz.next) (.agg #[.slice W m1 d1,.slice x2 G d2,.slice x3 O d3]) (aY p w L no).2/\Short (aY p w L no).2)->
   ∃h':Hp,hz.store h.next 0 [.slice W m1 d1,.slice x2 G d2,.slice x3 O d3]=some h'/\
   ∃(a:OA) (l ax:Nat) (a1:OA) (l1 c1:Nat) (a2:OA) (l2 c2:Nat),(aN (some (Addr.mk h.next 0 none))=true/\h'.cellsAt h.next 0 3=some [.slice a l ax,.slice a1 l1 c1,.slice a2 l2 c2])/\
   ((∃W m1 d1 x2 G d2 x3 O d3,Value.tuple #[.agg #[.slice a l ax,.slice a1 l1 c1,.slice a2 l2 c2],.int .i64 err] = .tuple #[.agg #[.slice W m1 d1,.slice x2 G d2,.slice x3 O d3],.int .i64 (aY p w L no).1]/\((aY p w L no).1=0->NodeS h' (fun y=>h.next<=y/\y < h'.next) (.agg #[.slice W m1 d1,.slice x2 G d2,.slice x3 O d3]) (aY p w L no).2/\Short (aY p w L no).2))/\Keep (fun y=>y=s\/y=c\/y=sh\/y=mb) h h'/\SheetAt h' s c sh mb p w L):=by
  intro hz err W m1 d1 x2 G d2 x3 O d3 bv kz bz ak he hx;obtain⟨h',e',b',k',n',bw⟩:=bz.store (o:=0) (vs:=[.slice W m1 d1,.slice x2 G d2,.slice x3 O d3]) (by simp) rfl;rw[aO (by rfl)]at b';have ay:Keep (fun y=>y=c\/h.next<=y) h h':=kz.trans wf k' fun y V E=>by omega
  refine⟨h',e',W,m1,d1,x2,G,d2,x3,O,d3,⟨rfl,by rw[b'.cells (by simp)];rfl⟩,⟨_,_,_,_,_,_,_,_,_,by rw[he],fun h0=>?_⟩,ay.mono wf (fun y V E=>by
   rcases E with E | E
   ·exact .inr (.inl E)
   ·omega),inv ay (ak.keep k' (by omega))⟩
  obtain⟨z1,z2⟩:=hx (by omega);exact⟨(z1.keep k' fun y V E=>by omega).mono fun y V=>by omega,z2⟩
 have al:=k2.blk b1 fun y V E=>by simp at V;omega
 cases hf:L.find? (fun g=>g.no==no) with
 | none =>
  rw[hf]at e;have U:(aY p w L no).1=55:=by unfold aY;rw[hf]
  refine⟨0,0,0,⟨#[]⟩,55,e,?_⟩;intro bb e3;obtain⟨b3,k3,n3,an⟩:=aB ae e3;obtain⟨h4,e4,b4,k4,_,n4,aa⟩:=bP an (vs:=pageC Gi) b3 k3 ae (Uf _) rfl rfl;refine⟨rfl,h4,e4,?_⟩;rw[if_pos (by simp[cP])];obtain⟨h',e',post⟩:=fin h4 55 none 0 0 none 0 0 none 0 0 aa (av.trans wf k4 fun _ _ h=>h.elim) (Kept.blk k4 al) (af.keep k4 fun h=>h) U fun h=>by omega
  exact⟨rfl,h',e',post⟩
 | some g =>
  rw[hf]at e;have U:aY p w L no=oR p w g:=by unfold aY;rw[hf]
  have bf:=List.mem_of_find?_eq_some hf;have bx:=a7 g bf;refine⟨(g.kind:Int),(g.no:Int),(g.ver:Int),g.body,0,e,?_⟩;intro bb e3;obtain⟨b3,k3,n3,an⟩:=aB ae e3;obtain⟨h4,e4,b4,k4,_,n4,aa⟩:=bP an (vs:=pageC g) b3 k3 ae (Uf _) rfl rfl;refine⟨rfl,h4,e4,?_⟩;rw[if_neg (by simp[cP])];have ao:=av.trans wf k4 fun _ _ h=>h.elim;refine⟨rfl,(g.kind:Int),⟨rfl,b4.one rfl⟩,fun _=>rfl,(g.kind:Int),fun _=>⟨rfl,b4.one rfl⟩,?_⟩;by_cases hk:aR (cP (g.kind:Int) 1) (cP (g.kind:Int) 2) false=true
  ·rw[if_pos hk];rw[bN,bA,bA]at hk;obtain⟨h',e',post⟩:=fin h4 8 none 0 0 none 0 0 none 0 0 aa ao (Kept.blk k4 al) (af.keep k4 fun h=>h) (by
    rw[U,nX];rintro N ⟨q,_⟩
    omega) fun h=>by omega
   exact⟨rfl,h',e',post⟩
  ·rw[if_neg hk];have az:g.kind=1\/g.kind=2:=by
    rw[bN,bA,bA]at hk
    omega
   intro h5 e5;obtain⟨b5,k5,n5,b6⟩:=aB aa e5;have bg:=ao.trans wf k5 fun _ _ h=>h.elim;have bh:=(inv bg ((af.keep k4 fun h=>h).keep k5 fun h=>h)).sheet;refine⟨rfl,rfl,p,w,⟨rfl,by rw[bh.cells (by simp)];rfl⟩,rfl,g.body,⟨rfl,(Kept.blk k5 b4).one rfl⟩,?_⟩;refine(Ph p w g.body h5 (by omega)).wf fun v h6 bi b9 ⟨⟨nv,e,ev,a0,ai⟩,k6⟩=>?_;have bj:∃a1 l1 c1 a2 l2 c2 a3 l3 c3,nv = .agg #[.slice a1 l1 c1,.slice a2 l2 c2,.slice a3 l3 c3]:=by
    by_cases h0:e=0
    ·rcases ai with ⟨_,h⟩ | ⟨_,h,_⟩ | ⟨_,_,N,_,hN⟩
     ·omega
     ·omega
     ·obtain⟨a1,l1,c1,a2,l2,c2,a3,l3,c3,hh,_⟩:=hN;exact⟨_,_,_,_,_,_,_,_,_,hh⟩
    ·exact⟨_,_,_,_,_,_,_,_,_,a0 h0⟩
   obtain⟨W,m1,d1,x2,G,d2,x3,O,d3,env⟩:=bj;subst env;have bk:=Kept.blk k6 b5;obtain⟨h7,e7,b7,k7,n7,ac⟩:=bk.store (o:=0) (vs:=[.slice W m1 d1,.slice x2 G d2,.slice x3 O d3]) (by simp) rfl;rw[aO (by rfl)]at b7;have ac:=ac bi;have ag:Kept h4 h7:=(k5.trans aa k6 fF).trans aa k7 fun y V E=>by omega
   have ap:=ao.trans wf ag fun _ _ h=>h.elim;have a4:=Kept.blk ag b4;have aq:=Kept.blk ag (Kept.blk k4 al);have ar:=(af.keep k4 fun h=>h).keep ag fun h=>h;have r7:h7.cellsAt h4.next 0 3=some [.slice W m1 d1,.slice x2 G d2,.slice x3 O d3]:=by rw[b7.cells (by simp)];rfl
   refine⟨W,m1,d1,x2,G,d2,x3,O,d3,e,ev,rfl,h7,e7,W,m1,d1,x2,G,d2,x3,O,d3,fun _=>⟨rfl,r7⟩,fun _=>rfl,(g.kind:Int),fun _=>⟨rfl,a4.one rfl⟩,decide (G=0/\O=0),fun _=>IP _ _ _ _ _ _ _ _ _ _,fun _=>⟨rfl,a4.one rfl⟩,?_⟩;have bad:(∀N,¬qS p w g N)->(aY p w L no).1=8:=fun hN=>by rw[U,nX hN]
   rcases ai with ⟨E,_⟩ | ⟨_,he,a5⟩ | ⟨_,he,N,hU,hN⟩
   ·exact absurd hF E
   ·rw[if_pos (by rw[cG,bA];left;omega)];obtain⟨h',e',post⟩:=fin h7 8 none 0 0 none 0 0 none 0 0 ac ap aq ar (bad fun N hN=>a5 N hN.2.1) fun h=>by omega
    exact⟨rfl,h',e',post⟩
   ·subst he;obtain⟨q1,q2,q3⟩:=hN.lens;have au:N.leaf=true↔G=0/\O=0:=by rw[<-fG q2 q3,decide_eq_true_eq]
    have ad:(aR (cP (0:Int) 0) true (aD (zK (decide (G=0/\O=0)) (bX (g.kind:Int) 1)))=true)↔¬(N.leaf=true↔g.kind=1):=by
     rw[cG,au];have h1:cP (0:Int) 0=true↔False:=by simp[cP]
     have h2:bX (g.kind:Int) 1=decide (g.kind=1):=by rw[Va,aV,decide_eq_true_eq];omega
     rw[h1,h2];by_cases qa:G=0/\O=0 <;> by_cases qb:g.kind=1 <;> simp[qa,qb,zK,aD]
    by_cases ah:N.leaf=true↔g.kind=1
    ·rw[if_neg (fun h=>ad.1 h ah)];have a6:aY p w L no=(0,N):=by rw[U,sL (by omega) ⟨az,hU,ah⟩]
     obtain⟨t1,t2,t3⟩:=oM (by omega) hU;have bl:=k5.next;have bm:=k7.next;have bn:=k2.next;have bo:=k4.next;obtain⟨h',e',post⟩:=fin h7 0 W m1 d1 x2 G d2 x3 O d3 ac ap aq ar (by rw[a6]) fun _=>by
      rw[a6];exact⟨(hN.keep k7 fun y V E=>by omega).mono fun y V=>by omega,by show N.ps.length<=_;omega,by show N.K.length<=_;omega,by show N.ks.length<=_;omega⟩
     exact⟨W,m1,d1,x2,G,d2,x3,O,d3,⟨rfl,r7⟩,rfl,h',e',post⟩
    ·rw[if_pos (ad.2 ah)];obtain⟨h',e',post⟩:=fin h7 8 none 0 0 none 0 0 none 0 0 ac ap aq ar (bad fun M hM=>by
      have:=hU.uniq (by omega) hM.2.1;subst this;exact ah hM.2.2) fun h=>by omega
     exact⟨rfl,h',e',post⟩
end Go.Proofs.YtmapagggnigfpaaGreat.pk
namespace Go.Cn.Pk
abbrev Dg:={d:LU//d.length=32}
def ekD(d:Dg):Value:=.agg (bc d.1).toArray
def evW(n:Nat):Value:=.int .i64 (IntKind.i64.wrap (n:Int))
theorem Kg:∀d:LU,nO .u8 (bc d)=true:=by
 intro d;rw[eU]
 induction d with
 | nil=>rfl
 | cons x d E=>simp only[VO,nO,E,Bool.and_true];rfl
end Go.Cn.Pk
namespace Go.Proofs.YtmapagggnigfpaaGreat.pk
open Cn Cn.Pk vc
theorem Pw:∀(d:LU) (n:Nat),((bc d).zip (bc d)).all (fun x=>Instr.sameBits (n+1) x.1 x.2)=true:=by
 intro d n;rw[VK];intro x E;have he:x.1=x.2:=by
  have:∀(l:LV) (x:Value×Value),x∈l.zip l->x.1=x.2:=by
   intro l
   induction l with
   | nil=>intro x E;simp at E
   | cons a l G =>
    intro x E;simp only[List.zip_cons_cons,VM]at E;rcases E with rfl | E
    ·rfl
    ·exact G x E
  exact this _ _ E
 have hm:x.1∈bc d:=(List.of_mem_zip (a:=x.1) (b:=x.2) E).1;rw[<-he];rw[eU]at hm;obtain⟨y,_,O⟩:=Uu.1 hm;rw[<-O];simp[Instr.sameBits]
theorem Rp(a b:Dg):pN Tryz.prog Op.maxDepth 41 (ekD a) (ekD b)=some (decide (a=b)):=by
 refine lX _ ?_;have hm:Op.maxDepth=Op.maxDepth - 1+1:=rfl;rw[hm];unfold DG ekD;rw[show Tryz.prog.underlying 41 = some (.array 32 5) from Tryz.underlying41];simp only;have hr:MA Tryz.prog (Op.maxDepth - 1) 32 5 (bc a.1).toArray (bc b.1).toArray=true:=by
  unfold MA;rw[show Tryz.prog.underlying 5 = some (.int .u8) from Tryz.underlying5,show size? Tryz.prog 5 = some 1 by kernel_rfl,show Op.maxDepth - 1=Op.maxDepth - 2+1 from rfl];simp only[Kg,aJ,a.2,b.2]
  rfl
 rw[hr];simp only[Um];rw[Va,jE _ _ (by rw[a.2,b.2]),decide_eq_true_eq];exact⟨fun h=>Subtype.ext h,fun h=>congrArg _ h⟩
theorem Tj:KeyT Tryz.prog 41 ekD:=by
 refine⟨fun d=>?_,fun d=>?_,fun es l i k he=>?_⟩
 ·unfold keyOk ekD;rw[show Tryz.prog.underlying 41 = some (.array 32 5) from Tryz.underlying41];simp only;rw[show Tryz.prog.underlying 5 = some (.int .u8) from Tryz.underlying5];rw[show size? Tryz.prog 5 = some 1 by kernel_rfl];simp[aJ,d.2]
 ·unfold ekD;rw[show(10000:Nat)=9999+1 from rfl];unfold Instr.sameBits;simp only[beq_self_eq_true,Bool.true_and];exact Pw d.1 9998
 ·unfold findK;rw[show Tryz.prog.underlying 41 = some (.array 32 5) from Tryz.underlying41];simp only;rw[show(xD Tryz.prog 41 && Cd Tryz.prog 41)=true by kernel_rfl,if_pos rfl];have key:∀(es:List MapEntry) (l:List (Dg×Value)) (i:Nat),es.map (fun e=>(e.key,e.val))=l.map (fun e=>(ekD e.1,e.2))->findEq Tryz.prog 41 (ekD k) es i=some (fAt l k i):=by
   intro es
   induction es with
   | nil =>
    intro l i h
    cases l with
    | nil=>rfl
    | cons x l=>simp at h
   | cons e es G =>
    intro l i h
    cases l with
    | nil=>simp at h
    | cons x l =>
     obtain⟨a,v⟩:=x;simp only[VO,Ur,Un]at h;obtain⟨⟨O,U⟩,V⟩:=h;unfold findEq;rw[O,Rp];simp only[fAt];by_cases E:k=a
     ·rw[if_pos E,decide_eq_true E,U]
     ·rw[if_neg E,decide_eq_false E];exact G l (i+1) V
  exact key es l 0 he
def dgOf(l:LU):Dg:=if h:l.length=32 then⟨l,h⟩ else⟨bH,bI⟩
theorem tZ{l:LU}(h:l.length=32):(dgOf l).1=l:=by unfold dgOf;rw[dif_pos h]
theorem PU(n:Nat):Value.int .i64 (aG .i64 (IntKind.i64.wrap (n:Int)) 1)=evW (n+1):=by
 unfold evW aG;congr 1;unfold IntKind.wrap;simp only[show IntKind.i64.bits=64 from rfl,show IntKind.i64.signed=true from rfl,Bool.true_and]
 split <;> split <;> split <;> simp_all <;> omega
theorem oE{n:Nat}(h:n<=9000000000000000000):evW n = .int .i64 (n:Int):=by
 unfold evW;rw[wrap_i64 (Ui _) (by show(n:Int)<=9223372036854775807;omega)]
theorem Ee:evW 0 = .int .i64 0:=oE (by omega)
theorem OF:zero? Tryz.prog 3 = some (.int .i64 0):=by kernel_rfl
theorem Ha:plainV 100 (.int .i64 0)=true:=by kernel_rfl
theorem Cq{h:Hp}{t sh:Nat}{p w dS ver:Int}{bQ:Nat}{aM:LU}(O:Blk h t (some t) (treeC sh p w bQ aM dS ver))(hr:aM.length=32):C 53 [pt t] h fun v h'=>v=fr p w/\h'=h:=by
 refine uP ?_;refine sv Ij fun wf=>?_;intro h1 e1;obtain⟨b1,G,n1,E⟩:=aB wf e1;have t1:=Kept.blk G O;refine(Nh t1 hr).mono fun v U ⟨e,V⟩=>⟨_,e,?_⟩;subst V;rw[if_neg (by simp)];obtain⟨W,e2,b2,k2,_,n2,aa⟩:=bP E (vs:=[.int .i64 p,.int .i64 w]) b1 G wf (Uf _) rfl rfl;exact⟨rfl,rfl,p,w,⟨rfl,by rw[t1.cells (by rw[lO hr];omega)];rfl⟩,rfl,W,e2,p,w,⟨rfl,by rw[b2.cells (by simp)];rfl⟩,rfl,k2⟩
theorem HL{h:Hp}{t sh:Nat}{p w dS ver:Int}{bQ:Nat}{aM:LU}(E:Blk h t (some t) (treeC sh p w bQ aM dS ver))(hr:aM.length=32):C 52 [pt t] h fun v h'=>v = .bool (decide (Fr p w))/\h'=h:=by
 refine sv Ag fun wf=>?_;exact⟨p,w,fun _=>Cq E hr,decide (Fr p w),fun _=>zS p w h,by simp[aR,aD,isN],rfl⟩
theorem IM(h:Hp):C 52 [.pointer none] h fun v h'=>v = .bool false/\h'=h:=by
 refine sv Ag fun wf=>?_;exact⟨0,0,fun h=>by simp[aD,isN]at h,false,fun h=>by simp[aD,isN]at h,by simp[aR,aD,isN],rfl⟩
theorem Qc{h:Hp}{t sh t' ac:Nat}{p w dS ver G w' O U:Int}{bQ V:Nat}{aM E:LU}(ht:Blk h t (some t) (treeC sh p w bQ aM dS ver))(hr:aM.length=32)(W:Blk h t' (some t') (treeC ac G w' V E O U))(aa:E.length=32)(hF:Fr p w)(ad:Fr G w'):
  C 27 [pt t,pt t'] h fun v h'=>v = .int .i64 (if p=G/\w=w' then 0 else 2)/\h'=h:=by
 refine sv Hg fun wf=>?_;refine(HL ht hr).mono fun v h' ⟨e,eh⟩=>⟨_,e,?_⟩;subst eh;refine⟨decide (Fr G w'),fun _=>HL W aa,?_⟩;rw[if_neg (by simp[aR,aD,hF,ad])];refine(Cq ht hr).mono fun v h1 ⟨e,eh⟩=>⟨p,w,e,?_⟩;subst eh;refine(Cq W aa).mono fun v h1 ⟨e,eh⟩=>⟨G,w',e,?_⟩;subst eh;by_cases hq:p=G/\w=w'
 ·rw[if_neg (by simp[aD,dJ,bX,hq.1,hq.2]),if_pos hq];exact⟨rfl,rfl⟩
 ·rw[if_pos (by simp only[aD,dJ,bX,Bool.and_true,VL,<-Vr,Uw,beq_iff_eq,decide_eq_true_eq];exact hq),if_neg hq];exact⟨rfl,rfl⟩
theorem SC{h:Hp}{a b:OA}(E:a=none\/b=none)(O:a=none\/∃t sh p w dS ver bQ aM,a=some ⟨t,0,none⟩/\Blk h t (some t) (treeC sh p w bQ aM dS ver)/\aM.length=32/\Fr p w):
  C 27 [.pointer a,.pointer b] h fun v h'=>v = .int .i64 1/\h'=h:=by
 refine sv Hg fun wf=>?_;rcases O with rfl | ⟨t,sh,p,w,dS,ver,bQ,aM,rfl,U,hr,V⟩
 ·refine(IM h).mono fun v h' ⟨e,G⟩=>⟨_,e,?_⟩;subst G;refine⟨false,fun h=>by simp[aD]at h,?_⟩;rw[if_pos (by simp[aR,aD])];exact⟨rfl,rfl⟩
 ·have hb:b=none:=E.resolve_left (by simp);subst hb;refine(HL U hr).mono fun v h' ⟨e,G⟩=>⟨_,e,?_⟩;subst G;refine⟨false,fun _=>IM h',?_⟩;rw[if_pos (by simp[aR,aD])];exact⟨rfl,rfl⟩
theorem nZ{h h':Hp}{S:NP}{l:Nat}{r:Lp}(hl:loopAt h l=some r)(k:Keep S h h')(E:¬S l):loopAt h' l=some r:=by
 have:=k.oth l _ (gD hl) rfl E;unfold loopAt;rw[this]
theorem nY{h h':Hp}{l:Nat}{r r':Lp}(hl:loopAt h l=some r)(e:h'=h.setOb l (.loop r')):loopAt h' l=some r'/\Keep (· = l) h h'/\h'.next=h.next/\(Wf h->Wf h'):=by
 obtain⟨E,G,O,U⟩:=qY (o':=.loop r') (gD hl) rfl rfl e;refine⟨?_,G,O,U⟩;unfold loopAt;rw[E]
theorem Mb{l:List (Dg×Nat)}{k:Dg}{v:Nat}(h:tP l k=none):tP (l++[(k,v)]) k=some v:=by
 have key:∀(l:List (Dg×Nat)) (i:Nat),(∀e∈l,e.1≠k)->(fAt (l++[(k,v)]) k i).map (·.2)=some v:=by
  intro l
  induction l with
  | nil=>intro i _;simp[fAt]
  | cons x l G =>
   intro i E;obtain⟨a,b⟩:=x;have:k≠a:=fun O=>E (a,b) (by simp) O.symm;simp only[List.cons_append,fAt,if_neg this];exact G (i+1) fun e he=>E e (by simp[he])
 exact key l 0 (pZ.1 h)
structure SumQ(F:NP)(w:Int)(cs:LV)(tv rm re mm mv l t:Nat)(r0:Lp)(M:NP)(d:List (Plc×NodeT))(h:Hp):Prop where
 loop:loopAt h l=some r0
 btv:Blk h tv (some tv) [.pointer (some ⟨t,0,none⟩)]
 brm:Blk h rm (some rm) [.map none]
 bre:Blk h re (some re) [.int .i64 0]
 bmv:Blk h mv (some mv) [.map (some mm)]
 btr:Blk h t (some t) cs
 tally:∃tl,MapAt ekD evW h mm tl/\TallyOf (d.map fun z=>dgOf (sumN w z.2)) tl
 off:∀g,g=rm\/g=re\/g=mm\/g=l->¬M g/\g < h.next/\¬F g
 notF:¬F tv/\¬F mv/\¬F t
 dist:tv < rm/\rm < re/\re < mm/\mm < mv/\mv < l/\t < tv
theorem SumQ.move{F:NP}{w:Int}{cs:LV}{tv rm re mm mv l t:Nat}{r0:Lp}{M M' S:NP}{d:List (Plc×NodeT)}{h h':Hp}(q:SumQ F w cs tv rm re mm mv l t r0 M d h)(k:Keep S h h')(E:∀g,(g=tv\/g=mv\/g=t\/g=rm\/g=re\/g=mm\/g=l)->¬S g)(V:∀g,g < h.next->M' g->M g\/F g):SumQ F w cs tv rm re mm mv l t r0 M' d h':=by
 have hb:∀{b:Nat} {c:LV},Blk h b (some b) c->(b=tv\/b=mv\/b=t\/b=rm\/b=re\/b=mm\/b=l)->Blk h' b (some b) c:=fun hb G=>k.blk hb fun y O=>by simp at O;subst O;exact E _ G
 obtain⟨tl,W,m2⟩:=q.tally;refine⟨nZ q.loop k (E _ (by simp)),hb q.btv (by simp),hb q.brm (by simp),hb q.bre (by simp),hb q.bmv (by simp),hb q.btr (by simp),⟨tl,W.keep k (E _ (by simp)),m2⟩,fun g G=>?_,q.notF,q.dist⟩;obtain⟨o1,o2,U⟩:=q.off g G;have:=k.next;refine⟨fun hc=>?_,by omega,U⟩;rcases V g o2 hc with h | h
 ·exact o1 h
 ·exact U h
set_option maxRecDepth 20000 in
theorem QX{F:NP}{Inv:Hp->Prop}{sh:Nat}{src:Src}(so:SrcAt F Inv sh src){p w:Int}{h:Hp}{t:Nat}{dS ver:Int}{bQ:Nat}{aM:LU}(hr:aM.length=32)(di:bQ<=4294967295)(hw:w.toNat<=32)(hF:¬F t)(hI:Inv h)(ht:Blk h t (some t) (treeC sh p w bQ aM dS ver)):
  C 28 [pt t] h fun v h'=>(((cZ src p w bQ aM).2≠0/\v = .tuple #[.map none,.int .i64 (cZ src p w bQ aM).2])\/((cZ src p w bQ aM).2=0/\∃mm tl,v = .tuple #[.map (some mm),.int .i64 0]/\h.next<=mm/\mm < h'.next/\MapAt ekD evW h' mm tl/\TallyOf ((cZ src p w bQ aM).1.map fun z=>dgOf (sumN w z.2)) tl))/\Keep F h h'/\Inv h':=by
 refine sv LO fun wf=>?_;have ay:=so.lt hI wf;have dj:=ht.glt wf;have eo:=lO (sh:=sh) (p:=p) (w:=w) (bQ:=bQ) (dS:=dS) (ver:=ver) hr;intro h1 e1 h2 e2 h3 e3 h4 e4 h5 e5;obtain⟨b1,k1,n1,bv⟩:=aB wf e1;obtain⟨b2,k2,n2,bw⟩:=aB bv e2;obtain⟨b3,k3,n3,bx⟩:=aB bw e3;obtain⟨m4,k4,n4,bm⟩:=MapAt.new (ek:=ekD) (ev:=evW) bx e4;obtain⟨b5,k5,n5,dk⟩:=aB bm e5;obtain⟨h6,e6,b6,bz,k6,n6,dl⟩:=bP dk (vs:=[.map (some h3.next)]) b5 k5 bm (Uf _) rfl rfl;have b4:Kept h3 h6:=k4.trans bx bz fF;have b7:Kept h2 h6:=k3.trans bw b4 fF;have bn:Kept h1 h6:=k2.trans bv b7 fF;have dn:Kept h h6:=k1.trans wf bn fF;refine⟨rfl,h6,e6,some ⟨t,0,none⟩,⟨rfl,(Kept.blk bn b1).one rfl⟩,?_⟩;refine(TA t h6).wf fun v h7 ca ep ⟨e,cc,k7⟩=>⟨_,e,?_⟩;intro r0 h8 ec e8 ar;obtain⟨q8,k8,n8,eq⟩:=CK (o:=.loop r0) ca rfl e8;have l8:loopAt h8 h7.next=some r0:=by unfold loopAt;rw[q8]
 have ak:Kept h6 h8:=k7.trans dl k8 fF;have bg:Kept h h8:=dn.trans wf ak fF;have dp:Kept h4 h8:=bz.trans bm ak fF;have I8:=so.keep hI bg fF;have nF:∀g,h.next<=g->¬F g:=fun g W E=>by have:=ay g E;omega
 have ed:=ak.next;have ee:=cc.glt ca;have Q0:SumQ F w (treeC sh p w bQ aM dS ver) h.next h1.next h2.next h3.next h4.next h7.next t r0 (fun g=>g < h.next\/g=h.next\/g=h4.next\/g=h6.next) [] h8:=by
  refine⟨l8,Kept.blk ak (Kept.blk bn b1),Kept.blk ak (Kept.blk b7 b2),Kept.blk ak (Kept.blk b4 b3),Kept.blk ak b6,Kept.blk bg ht,⟨[],m4.keep dp fun h=>h,TallyOf.nil⟩,fun g W=>⟨fun E=>by
    have er:g < h.next\/g=h.next\/g=h4.next\/g=h6.next:=E
    omega,by omega,nF g (by omega)⟩,⟨nF _ (by omega),nF _ (by omega),hF⟩,by omega⟩
 have yc:YieldC F p w h7.next (SumQ F w (treeC sh p w bQ aM dS ver) h.next h1.next h2.next h3.next h4.next h7.next t r0) (fun _=>False)
   (fun d e hh=>Blk hh h1.next (some h1.next) [.map none]/\Blk hh h2.next (some h2.next) [.int .i64 e]/\loopAt hh h7.next=some (r0.left none)):=by
  refine⟨fun {M d ha hb} q O k eu=>?_,fun {M M' d ha} q hM=>?_,fun {M S d ha v x N} q hT hs hm cd=>?_,fun {M d ha e} q he=>?_⟩
  ·refine q.move k (fun g W E=>?_) fun g W E=>?_
   ·obtain⟨z1,z2,z3⟩:=q.notF;have zo:=q.off g;rcases W with rfl | rfl | rfl | W
    ·exact z1 E
    ·exact z2 E
    ·exact z3 E
    ·exact(zo W).2.2 E
   ·rcases E with E | E
    ·exact .inl E
    ·omega
  ·exact q.move (Keep.refl _ _) (fun g W E=>E) fun g W E=>.inl (hM g E)
  ·
   refine SCalls.of_rel (.inr ⟨_,rfl⟩) fun base σ w0 bo=>?_;have O:=bo.wf;obtain⟨aw,cw,a1,l1,c1,a2,l2,c2,a3,l3,c3,ev,ef,hN⟩:=hT;subst ev;refine ar aw _ cw (x.no:Int) a1 l1 c1 a2 l2 c2 a3 l3 c3 0 ha _ q.loop ?_;intro h9 e9;obtain⟨b9,k9,n9,a4⟩:=aB O e9;obtain⟨az,al,ce,ae,aa,bp,V⟩:=bP a4 (vs:=[.slice aw x.way.length cw,.int .u32 (x.no:Int),.slice a1 l1 c1,.slice a2 l2 c2,.slice a3 l3 c3]) b9 k9 O (Uf _) rfl rfl;have an:=q.move (M':=M) ae (fun g W E=>E) fun g W E=>.inl E;refine⟨rfl,az,al,an.loop,?_⟩;intro bh a5;obtain⟨bq,ac,cf,U⟩:=nY an.loop a5;have U:=U V;rw[if_neg (by simp[cP])];intro ah a6;obtain⟨ao,ad,cg,ai⟩:=aB U a6;have a7:Keep (· = h7.next) az ah:=ac.trans V ad fun _ _ h=>h.elim;have au:Keep (· = h7.next) ha ah:=(ae.mono O fun _ _ h=>h.elim).trans O a7 fF;have dist:=q.dist;have dq:=fun g W=>(q.off g W).2.1;have ew:=dq h7.next (by simp);have ci:=au.blk q.btv fun y G E=>by simp at G;omega
   have cj:=a7.blk ce fun y G E=>by simp at G;omega
   have ck:=au.blk q.btr fun y G E=>by simp at G;omega
   have cl:∀{hz:Hp},Kept ah hz->hz.cellsAt ha.next 2 3=some [.slice a1 l1 c1,.slice a2 l2 c2,.slice a3 l3 c3]:=fun k=>by rw[(Kept.blk k cj).cells (by simp)];rfl
   refine⟨some ⟨t,0,none⟩,⟨rfl,ci.one rfl⟩,rfl,a1,l1,c1,a2,l2,c2,a3,l3,c3,⟨rfl,cl (Keep.refl _ _)⟩,?_⟩;refine(Cq ck hr).mono fun v bj ⟨e,eh⟩=>⟨p,w,e,?_⟩;subst eh;refine⟨⟨rfl,cl (Keep.refl _ _)⟩,?_⟩;have cm:NodeS bj S (.agg #[.slice a1 l1 c1,.slice a2 l2 c2,.slice a3 l3 c3]) N:=hN.keep au fun y G E=>by subst E;exact(q.off _ (by simp)).1 (cd _ G).1
   have dr:∀y,S y->y < bj.next:=fun y G=>by have:=(cd y G).2;have:=au.next;omega
   obtain⟨ey,ez,e7⟩:=hs;refine(Nk (cm.at dr) (Uf _) p w (by omega) (by omega) (by omega)).wf fun v cn av eg ⟨⟨e,D,ev,ds,dt,fa⟩,a0⟩=>?_;have du:e=0:=ds.uniq hm;subst du;have hD:=dt rfl;have af:D.length=32:=by rw[hD];exact gA hw _
   have bi:=Kept.blk a0 ao;obtain⟨ap,br,co,a8,dv,ax⟩:=bi.store (o:=0) (vs:=bc D) (by rw[aJ,af];exact Uf _) (aZ _);rw[aO (by rw[aJ,af];rfl)]at co;have ax:=ax av;have a9:Kept bh ap:=(ad.trans U a0 fF).trans U a8 fun y G E=>by omega
   have aj:Keep (· = h7.next) ha ap:=((ae.mono O (S':=(· = h7.next)) fun _ _ h=>h.elim).trans O ac fF).trans O a9 fun _ _ h=>h.elim;have cp:loopAt ap h7.next=some r0.busy:=nZ bq a9 fun h=>h;have cq:=aj.blk q.bmv fun y G E=>by simp at G;omega
   obtain⟨tl,m1,m2⟩:=q.tally;have cr:=m1.keep aj (by omega);have dw:Value.agg (bc D).toArray=ekD (dgOf (sumN w N)):=by unfold ekD;rw[tZ (by rw[<-hD];exact af),hD]
   refine⟨cV D,0,by rw[aH af];exact ev,rfl,ap,by rw[aH af];exact br,?_⟩;rw[if_neg (by simp[cP])];have aq:=cr.look Tryz.underlying90 Tj OF Ha (dgOf (sumN w N)) false;obtain⟨l',i,vv,dx,ct,cu,bk,bt,cv,dz,fb,ei⟩:=cr.entry Tryz.underlying90 Tj OF Ha (v0:=0) Ee (dgOf (sumN w N));have ag:=cu.look Tryz.underlying90 Tj OF Ha (dgOf (sumN w N)) false;have hi:i < l'.length:=(Us.1 bk).1;obtain⟨bu,dN,d1,cy,fc,ej⟩:=cu.set hi (vv+1);have cz:((tP tl (dgOf (sumN w N))).map evW).getD (.int .i64 0)=evW vv:=by
    rw[bt,<-Ee]
    cases tP tl (dgOf (sumN w N)) <;> rfl
   have d2:((tP l' (dgOf (sumN w N))).map evW).getD (.int .i64 0)=evW vv:=by
    rcases cv with ⟨rfl,_⟩ | ⟨rfl,hn,_⟩
    ·exact cz
    ·rw[bt,hn,Mb hn];simp
   rw[if_neg (by simp),cz]at aq;rw[if_neg (by simp),d2]at ag;rw[<-dw]at aq ag ct;refine⟨some h3.next,⟨rfl,cq.one rfl⟩,cV D,⟨rfl,cH co af⟩,IntKind.i64.wrap (vv:Int),by rw[aH af];exact aq,IntKind.i64.wrap (vv:Int),(i:Int),dx,by rw[aH af];exact ct,by rw[aH af];exact ag,bu,by rw[PU];exact dN,?_⟩;have ba:Keep (· = h3.next) ap bu:=dz.trans ax cy fF;have bl:loopAt bu h7.next=some r0.busy:=nZ cp ba (by omega);refine⟨bl,fun c0 d3=>?_⟩;obtain⟨d4,c4,fd,en⟩:=nY bl d3;have bb:Keep (fun y=>y=h7.next\/y=h3.next) ha c0:=((aj.mono O (S':=fun y=>y=h7.next\/y=h3.next) fun _ _ h=>.inl h).trans O ba fun _ _ h=>.inr h).trans O c4 fun _ _ h=>.inl h;have o1:=q.off h7.next (by simp);have o2:=q.off h3.next (by simp);have kb:∀{b:Nat} {c:LV},Blk ha b (some b) c->b≠h7.next->b≠h3.next->Blk c0 b (some b) c:=fun hb h1 h2=>bb.blk hb fun y G E=>by
    simp at G;subst G;rcases E with E | E
    ·exact h1 E
    ·exact h2 E
   refine⟨.inl ⟨rfl,⟨d4,kb q.btv (by omega) (by omega),kb q.brm (by omega) (by omega),kb q.bre (by omega) (by omega),kb q.bmv (by omega) (by omega),kb q.btr (by omega) (by omega),⟨_,d1.keep c4 (by omega),?_⟩,fun g W=>?_,q.notF,q.dist⟩⟩,bb.mono O fun y G E=>?_⟩
   ·rw[VY];exact m2.bump bk bt cv
   ·obtain⟨z1,z2,z3⟩:=q.off g W;have:=bb.next;exact⟨z1,by omega,z3⟩
   ·rcases E with rfl | rfl
    ·exact o1.1
    ·exact o2.1
  ·
   refine SCalls.of_rel (.inr ⟨_,rfl⟩) fun base σ w0 bo=>?_;have O:=bo.wf;refine ar none 0 0 0 none 0 0 none 0 0 none 0 0 e ha _ q.loop ?_;intro h9 e9;obtain⟨b9,k9,n9,a4⟩:=aB O e9;obtain⟨az,al,ce,ae,aa,bp,V⟩:=bP a4 (vs:=[.slice none 0 0,.int .u32 0,.slice none 0 0,.slice none 0 0,.slice none 0 0]) b9 k9 O (Uf _) rfl rfl;have an:=q.move (M':=M) ae (fun g W E=>E) fun g W E=>.inl E;have dist:=q.dist;refine⟨rfl,az,al,an.loop,?_⟩;intro bh a5;obtain⟨bq,ac,cf,U⟩:=nY an.loop a5;have U:=U V;rw[if_pos (by simp[cP,he])];have c5:=ac.blk an.brm fun y G E=>by simp at G;omega
   have bf:=ac.blk an.bre fun y G E=>by simp at G;omega
   obtain⟨ah,a6,ao,ad,cg,ai⟩:=c5.store (o:=0) (vs:=[.map none]) (by simp) rfl;rw[aO (by rfl)]at ao;have ai:=ai U;have c6:=ad.blk bf fun y G E=>by simp at G;omega
   obtain⟨cn,d5,bi,a0,fe,av⟩:=c6.store (o:=0) (vs:=[.int .i64 e]) (by simp) rfl;rw[aO (by rfl)]at bi;have av:=av ai;have c7:=nZ (nZ bq ad (by omega)) a0 (by omega);refine⟨rfl,ah,a6,rfl,cn,d5,c7,fun ap br=>?_⟩;obtain⟨d6,a8,dv,ax⟩:=nY c7 br;have c8:=a8.blk (a0.blk ao fun y G E=>by simp at G;omega) fun y G E=>by simp at G;omega
   have c9:=a8.blk bi fun y G E=>by simp at G;omega
   have aj:Keep (fun y=>y=h7.next\/y=h1.next\/y=h2.next) ha ap:=((((ae.mono O (S':=fun y=>y=h7.next\/y=h1.next\/y=h2.next) fun _ _ h=>h.elim).trans O ac fun _ _ h=>.inl h).trans O ad fun _ _ h=>.inr (.inl h)).trans O a0 fun _ _ h=>.inr (.inr h)).trans O a8 fun _ _ h=>.inl h;refine⟨⟨false,rfl⟩,⟨c8,c9,d6⟩,aj.mono O fun y G E=>?_⟩;rcases E with rfl | rfl | rfl
   ·exact(q.off _ (by simp)).1
   ·exact(q.off _ (by simp)).1
   ·exact(q.off _ (by simp)).1
 have d7:=Kept.blk bg ht;refine(Rs so yc hr di hw ⟨hF,nF _ (by omega)⟩ I8 Q0 d7 (Kept.blk k8 cc) (fun g W=>.inl (ay g W)) ⟨.inl dj,.inr (.inr (.inr rfl))⟩).wf fun v h9 a4 ff ⟨⟨_,da⟩,k9,I9⟩=>?_;have db:Keep F h h9:=(bg.mono wf (S':=F) fun _ _ h=>h.elim).trans wf k9 fun g W E=>by
  rcases E with E | E
  ·exact E
  ·exact absurd (.inl W) E
 rcases da with ⟨hz,q⟩ | E | ⟨d8,brm,bre,hl⟩
 ·right
  refine⟨q.loop,fun az al=>?_⟩;obtain⟨d9,aa,bp,V⟩:=nY q.loop al;have V:=V a4;have dist:=q.dist;obtain⟨tl,m1,m2⟩:=q.tally;have dc:=aa.blk q.bmv fun y G E=>by simp at G;omega
  have dd:=aa.blk q.brm fun y G E=>by simp at G;omega
  have de:=aa.blk q.bre fun y G E=>by simp at G;omega
  obtain⟨bh,a5,df,ac,cf,U⟩:=dd.store (o:=0) (vs:=[.map (some h3.next)]) (by simp) rfl;rw[aO (by rfl)]at df;have U:=U V;have bf:=ac.blk de fun y G E=>by simp at G;omega
  obtain⟨ah,a6,ao,ad,cg,ai⟩:=bf.store (o:=0) (vs:=[.int .i64 0]) (by simp) rfl;rw[aO (by rfl)]at ao;have dg:=ad.blk df fun y G E=>by simp at G;omega
  have ea:=((m1.keep aa (by omega)).keep ac (by omega)).keep ad (by omega);have dh:Keep F h ah:=((db.trans wf aa fun y G E=>by omega).trans wf ac fun y G E=>by omega).trans wf ad fun y G E=>by omega
  have eb:=so.keep (so.keep (so.keep I9 aa fun g W E=>by have:=ay g W;omega) ac fun g W E=>by have:=ay g W;omega) ad fun g W E=>by have:=ay g W;omega
  exact⟨some h3.next,⟨rfl,dc.one rfl⟩,rfl,bh,a5,rfl,ah,a6,some h3.next,⟨rfl,dg.one rfl⟩,0,⟨rfl,ao.one rfl⟩,.inr ⟨hz,h3.next,tl,rfl,by omega,by omega,ea,m2⟩,dh,eb⟩
 ·exact E.elim
 ·left
  refine⟨hl,fun az al=>?_⟩;obtain⟨d9,aa,bp,V⟩:=nY hl al;have dist:=Q0.dist;exact⟨none,⟨rfl,(aa.blk brm fun y G E=>by simp at G;omega).one rfl⟩,_,⟨rfl,(aa.blk bre fun y G E=>by simp at G;omega).one rfl⟩,.inl ⟨d8,rfl⟩,db.trans wf aa fun y G E=>by omega,so.keep I9 aa fun g W E=>by have:=ay g W;omega⟩
end Go.Proofs.YtmapagggnigfpaaGreat.pk
namespace Go.Cn
section
variable {κ:Type} [DecidableEq κ]
def rO(d:κ)(T:List κ):Nat:=List.count d T
theorem IL(d:κ)(T:List κ):rO d T<=T.length:=List.count_le_length
theorem KU(d:κ)(T:List κ):rO d T=0↔d∉T:=List.count_eq_zero
theorem TallyOf.val'{L:List κ}{l:List (κ×Nat)}(t:TallyOf L l){e:κ×Nat}(he:e∈l):e.2=rO e.1 L:=t.val e he
theorem TallyOf.look'{L:List κ}{l:List (κ×Nat)}(t:TallyOf L l)(d:κ):(tP l d).getD 0=rO d L:=t.look d
def NO(S T:List κ):Nat:=S.countP fun d=>!decide (d∈T)
end
end Go.Cn
namespace Go.Proofs.YtmapagggnigfpaaGreat.pk
open Cn Cn.Pk vc
def PQ(l:List (Dg×Nat))(T:List Dg)(j:Nat):Nat:=let e:=l.getD j (⟨bH,bI⟩,0);if rO e.1 T=0 then e.2 else 0
theorem Mn{l:List (Dg×Nat)}{S T:List Dg}(t:TallyOf S l):((List.range l.length).map (PQ l T)).sum=S.countP (fun d=>decide (rO d T=0)):=by
 rw[<-t.sum,<-AS l (fun e=>if decide (rO e.1 T=0)=true then e.2 else 0) (⟨bH,bI⟩,0)];congr 1;apply WV;intro j _;unfold PQ;simp only[decide_eq_true_eq]
theorem Sd{l:List (Dg×Nat)}{S T:List Dg}(t:TallyOf S l)(seen:LN):kO l.length (PQ l T) seen<=S.length:=by
 refine Nat.le_trans (Hl _ _ _) ?_;rw[Mn t];exact List.countP_le_length
theorem Se{l:List (Dg×Nat)}{T:List Dg}{j:Nat}{e:Dg×Nat}(h:l[j]? = some e):PQ l T j=if rO e.1 T=0 then e.2 else 0:=by
 unfold PQ;have:l.getD j (⟨bH,bI⟩,0)=e:=by rw[Uz,h];rfl
 rw[this]
theorem EP{hr:Hp}(wf:Wf hr){it ma mb:Nat}{l lo:List (Dg×Nat)}{S T:List Dg}(ts:TallyOf S l)(to:TallyOf T lo)(hS:S.length<=1000000000)(hT:T.length<=1000000000){seen:LN}{j:Nat}{e:Dg×Nat}
  (m:MapAt ekD evW hr ma l) (r:lC hr it ma l.length (seen++[j])) (hj:l[j]? = some e) (mo:MapAt ekD evW hr mb lo) :
  e.2<=1000000000/\jV (ptr it 0) hr=some (.tuple #[.agg (Array.mk (aK .u8 32 (cV e.1.1))),.int .i64 (e.2:Int)])/\∀V:Hp,V=hr.alloc (bc bH) 41->∃G,V.store hr.next 0 (aK .u8 32 (cV e.1.1))=some G/\G.cellsAt hr.next 0 32=some (aK .u8 32 (cV e.1.1))/\
   dY Tryz.prog 90 (.map (some mb)) (.agg (Array.mk (aK .u8 32 (cV e.1.1)))) false G=some (.int .i64 ((rO e.1 T:Nat):Int))/\Kept hr G/\Wf G:=by
 have O:=aH e.1.2;have W:e.2<=1000000000:=by
  have:=ts.val' (Uy hj);have:=IL e.1 S
  omega
 have U:Value.agg (Array.mk (aK .u8 32 (cV e.1.1)))=ekD e.1:=by rw[O];rfl
 refine⟨W,?_,fun V e1=>?_⟩
 ·rw[r.last m hj,U,oE (by omega)]
 ·obtain⟨b1,k1,n1,aa⟩:=aB wf e1;obtain⟨G,e2,b2,k2,_,n2,ac⟩:=bP aa (vs:=bc e.1.1) b1 k1 wf (Uf _) (by rw[aJ,aJ,e.1.2];rfl) (aZ _);refine⟨G,by rw[O];exact e2,cH b2 e.1.2,?_,k2,ac⟩;have:=(mo.keep k2 fun h=>h).look Tryz.underlying90 Tj OF Ha e.1 false;rw[U,this,if_neg (by simp)];have E:=to.look' e.1;have hc:=IL e.1 T
  cases hx:tP lo e.1 with
  | none=>rw[hx]at E;simp only[Option.map_none,Option.getD_none]at E ⊢;rw[<-E];rfl
  | some n=>rw[hx]at E;simp only[Uv,Option.getD_some]at E ⊢;rw[oE (by omega),E]
theorem Ah{w:Int}(hw:w.toNat<=32)(A B:List NodeT):(A.map fun z=>dgOf (sumN w z)).countP (fun d=>decide (rO d (B.map fun z=>dgOf (sumN w z))=0))=NO (A.map fun z=>sumN w z) (B.map fun z=>sumN w z):=by
 unfold NO;rw[List.countP_map,List.countP_map];apply List.countP_congr;intro a E;simp only[Function.comp,decide_eq_true_eq,VL,decide_eq_false_iff_not];rw[KU];apply not_congr;simp only[Uu]
 constructor
 ·rintro⟨b,hb,he⟩;refine⟨b,hb,?_⟩;have:=congrArg (·.1) he;simpa only[tZ (gA hw _)]using this
 ·rintro⟨b,hb,he⟩;exact⟨b,hb,by rw[he]⟩
theorem GA{w:Int}(hw:w.toNat<=32)(A B:List (Plc×NodeT)):(A.map fun z=>dgOf (sumN w z.2)).countP (fun d=>decide (rO d (B.map fun z=>dgOf (sumN w z.2))=0))+(B.map fun z=>dgOf (sumN w z.2)).countP (fun d=>decide (rO d (A.map fun z=>dgOf (sumN w z.2))=0))=wZ (A.map fun z=>sumN w z.2) (B.map fun z=>sumN w z.2):=by
 have E:=Ah hw (A.map (·.2)) (B.map (·.2));have G:=Ah hw (B.map (·.2)) (A.map (·.2));simp only[List.map_map,Function.comp_def]at E G;rw[E,G]
 rfl
theorem Hk{n j:Nat}{seen:LN}(E:j∉seen)(G:j < n):kO n (fun _=>1) (seen++[j])=kO n (fun _=>1) seen+1/\kO n (fun _=>1) (seen++[j])<=n:=by
 refine⟨by rw[qW E,if_pos G],?_⟩;have:=Hl n (fun _=>1) (seen++[j])
 rwa [Od]at this
set_option maxRecDepth 20000 in
theorem Ry{F1 F2:NP}{Inv1 Inv2:Hp->Prop}{bh bi:Nat}{E G:Src}(bj:SrcAt F1 Inv1 bh E)(an:SrcAt F2 Inv2 bi G){p w p' w':Int}(ao:Fr p w)(ac:Fr p' w'){h:Hp}{t1 t2:Nat}{c1 v1 c2 v2:Int}{r1 r2:Nat}{s1 s2:LU}(ap:s1.length=32)(ad:s2.length=32)(bk:r1<=4294967295)(bl:r2<=4294967295)
  (aq:∀g,F1 g->g≠t1/\g≠t2/\¬F2 g) (bx:∀g,F2 g->g≠t1/\g≠t2) (bm:Inv1 h) (bn:Inv2 h) (ar:Blk h t1 (some t1) (treeC bh p w r1 s1 c1 v1)) (au:Blk h t2 (some t2) (treeC bi p' w' r2 s2 c2 v2))
  (bo:(cZ E p w r1 s1).1.length<=1000000000) (bp:(cZ G p' w' r2 s2).1.length<=1000000000) :
  C 9 [pt t1,pt t2] h fun v h'=>v=(if p=p'/\w=w' then .tuple #[.int .i64 ((lG w (cZ E p w r1 s1) (cZ G p' w' r2 s2)).1:Int),.int .i64 (lG w (cZ E p w r1 s1) (cZ G p' w' r2 s2)).2] else .tuple #[.int .i64 0,.int .i64 2])/\Keep (fun g=>F1 g\/F2 g) h h':=by
 obtain⟨_,_,_,cl,ci⟩:=ao.nat;obtain⟨_,_,_,cj,bz⟩:=ac.nat;by_cases av:p=p'/\w=w'
 rotate_left
 ·simp only[av,if_false];refine sv uO fun wf=>?_;refine(Qc ar ap au ad ao ac).mono fun v h' ⟨e,eh⟩=>⟨2,by rw[e,if_neg av],?_⟩;subst eh;rw[if_pos (by simp[cP])];exact⟨rfl,Keep.refl _ _⟩
 obtain⟨rfl,rfl⟩:=av;simp only[and_self,if_true];refine sv uO fun wf=>?_;refine(Qc ar ap au ad ao ac).mono fun v h' ⟨e,eh⟩=>⟨0,by rw[e,if_pos ⟨rfl,rfl⟩],?_⟩;subst eh;rw[if_neg (by simp[cP])];refine(QX bj ap bk (by omega) (fun O=>(aq _ O).1 rfl) bm ar).wf fun v ha cm cn ⟨ae,ka,co⟩=>?_;generalize hA:cZ E p w r1 s1=A at bo ae ⊢;generalize hB:cZ G p w r2 s2=B at bp ⊢;rcases ae with ⟨ax,rfl⟩ | ⟨ax,ma,la,rfl,cp,cq,mA,tA⟩
 ·refine⟨none,A.2,rfl,?_⟩;rw[if_pos (by simp[cP,ax])];refine⟨by unfold lG;rw[if_pos ax];rfl,ka.mono wf fun _ _ h=>.inl h⟩
 refine⟨some ma,0,rfl,?_⟩;rw[if_neg (by simp[cP])];have ay:=an.lt bn wf;have b3:=bj.lt bm wf;have b4:=an.keep bn ka fun g hg O=>(aq _ O).2.2 hg;have b5:=ka.blk au fun y hy O=>by simp at hy;subst hy;exact(aq _ O).2.1 rfl
 refine(QX an ad bl (by omega) (fun O=>(bx _ O).2 rfl) b4 b5).wf fun v hb bq cr ⟨af,kb,ct⟩=>?_;rw[hB]at af;have br:Keep (fun g=>F1 g\/F2 g) h' hb:=(ka.mono wf (S':=fun g=>F1 g\/F2 g) fun _ _ h=>.inl h).trans wf kb fun _ _ h=>.inr h;rcases af with ⟨az,rfl⟩ | ⟨az,mb,lb,rfl,cu,cv,mB,tB⟩
 ·refine⟨none,B.2,rfl,?_⟩;rw[if_pos (by simp[cP,az])];refine⟨by unfold lG;rw[if_neg (by omega),if_pos az];rfl,br⟩
 refine⟨some mb,0,rfl,?_⟩;rw[if_neg (by simp[cP])];have bt:=mA.keep kb fun O=>by have:=ay _ O;omega
 have a0:(A.1.map fun z=>dgOf (sumN w z.2)).length<=1000000000:=by rw[VP];exact bo
 have a4:(B.1.map fun z=>dgOf (sumN w z.2)).length<=1000000000:=by rw[VP];exact bp
 have a5:lG w A B=(wZ (A.1.map fun z=>sumN w z.2) (B.1.map fun z=>sumN w z.2),0):=by unfold lG;rw[if_neg (by omega),if_neg (by omega)]
 rw[a5,<-GA (by omega)];generalize cy:(A.1.map fun z=>dgOf (sumN w z.2))=SA at tA a0 ⊢;generalize cz:(B.1.map fun z=>dgOf (sumN w z.2))=SB at tB a4 ⊢;obtain⟨O,ec,b6,kc,nc,a6⟩:=bt.range bq Tryz.underlying90;refine⟨O,ec,?_⟩;refine⟨fun vals m hh=>∃seen:LN,[.int .i64 ((kO la.length (PQ la SB) seen:Nat):Int)]=vals/\m=la.length - kO la.length (fun _=>1) seen/\lC hh hb.next ma la.length seen/\Keep (· = hb.next) O hh/\Wf hh,⟨_,[],by rw[Dp];rfl,rfl,b6,Keep.refl _ _,a6⟩,?_⟩;rintro n m hh ⟨seen,e,rfl,b7,kh,a7⟩;simp only[Ur,Value.int.injEq,true_and,and_true]at e;subst e;have ag:Kept hb hh:=kc.trans bq kh fun y hy O=>by omega
 have a8:=bt.keep ag fun h=>h;have a9:=mB.keep ag fun h=>h;obtain⟨L,hL,b9⟩:=b7.next a8;refine⟨L,hL,fun r hr=>?_⟩;rcases b9 r hr with ⟨rfl,bu⟩ | ⟨j,e,hj,ah,hv,U,kr,nr,V⟩
 ·
  left
  refine⟨rfl,?_⟩;rw[Dq bu,Mn tA];obtain⟨hd,ed,ca,kd,nd,ba⟩:=a9.range a7 Tryz.underlying90;have ck:=List.countP_le_length (p:=fun d=>decide (rO d SB=0)) (l:=SA);refine⟨hd,ed,?_⟩;refine⟨fun vals m hz=>∃seen:LN,[.int .i64 ((SA.countP (fun d=>decide (rO d SB=0))+kO lb.length (PQ lb SA) seen:Nat):Int)]=vals/\m=lb.length - kO lb.length (fun _=>1) seen/\lC hz hh.next mb lb.length seen/\Keep (· = hh.next) hd hz/\Wf hz,⟨_,[],by rw[Dp];rfl,rfl,ca,Keep.refl _ _,ba⟩,?_⟩;rintro n m hz ⟨W,e,rfl,cc,kz,cd⟩;simp only[Ur,Value.int.injEq,true_and,and_true]at e;subst e;have bb:Kept hh hz:=kd.trans a7 kz fun y hy O=>by omega
  have bv:=a9.keep bb fun h=>h;have ce:=a8.keep bb fun h=>h;obtain⟨L2,cf,bw⟩:=cc.next bv;refine⟨L2,cf,fun r2 ad=>?_⟩;rcases bw r2 ad with ⟨rfl,bf⟩ | ⟨j,e,hj,ah,hv,U,kr,nr,V⟩
  ·left
   refine⟨rfl,?_,(br.trans wf ag fun _ _ h=>h.elim).trans wf bb fun _ _ h=>h.elim⟩;rw[Dq bf,Mn tB]
  ·right
   have V:=V cd;have ai:j < lb.length:=(Us.1 hj).1;have m1:=bv.keep kr (by have:=ag.next;omega);have m2:=ce.keep kr (by have:=ag.next;omega);obtain⟨cg,bg,aa⟩:=EP V tB tA a4 a0 m1 U hj m2;obtain⟨q1,q2⟩:=Hk ah ai;have dN:=qW (g:=PQ lb SA) ah lb.length;rw[if_pos ai,Se hj]at dN;have hle:=Sd (T:=SA) tB (W++[j]);refine⟨cV e.1.1,(e.2:Int),by rw[hv,oE (by omega),aH e.1.2];rfl,cV e.1.1,(e.2:Int),bg,fun h1 e1=>?_⟩;obtain⟨h2,es,er,el,kk,aj⟩:=aa h1 e1;have ak:Keep (· = hh.next) hd h2:=(kz.trans ba kr fF).trans ba kk fun _ _ h=>h.elim;refine⟨rfl,h2,es,cV e.1.1,⟨rfl,er⟩,_,el,?_⟩;by_cases al:rO e.1 SA=0
   ·rw[if_pos (by rw[aV];omega)];rw[if_pos al]at dN;refine⟨_,?_,W++[j],?_,rfl,U.keep kk fun h=>h,ak,aj⟩
    ·simp only[aI];omega
    ·rw[addNat _ _ (by omega),dN];congr 3;omega
   ·rw[if_neg (by rw[aV];omega)];rw[if_neg al]at dN;refine⟨_,?_,W++[j],?_,rfl,U.keep kk fun h=>h,ak,aj⟩
    ·simp only[aI];omega
    ·rw[dN];rfl
 ·right
  have V:=V a7;have ai:j < la.length:=(Us.1 hj).1;have m1:=a8.keep kr (by omega);have m2:=a9.keep kr (by omega);obtain⟨cg,bg,aa⟩:=EP V tA tB a0 a4 m1 U hj m2;obtain⟨q1,q2⟩:=Hk ah ai;have dN:=qW (g:=PQ la SB) ah la.length;rw[if_pos ai,Se hj]at dN;have hle:=Sd (T:=SB) tA (seen++[j]);refine⟨cV e.1.1,(e.2:Int),by rw[hv,oE (by omega),aH e.1.2];rfl,cV e.1.1,(e.2:Int),bg,fun h1 e1=>?_⟩;obtain⟨h2,es,er,el,kk,aj⟩:=aa h1 e1;have ak:Keep (· = hb.next) O h2:=(kh.trans a6 kr fF).trans a6 kk fun _ _ h=>h.elim;refine⟨rfl,h2,es,cV e.1.1,⟨rfl,er⟩,_,el,?_⟩;by_cases al:rO e.1 SB=0
  ·rw[if_pos (by rw[aV];omega)];rw[if_pos al]at dN;refine⟨_,?_,seen++[j],?_,rfl,U.keep kk fun h=>h,ak,aj⟩
   ·simp only[aI];omega
   ·rw[addNat _ _ (by omega),dN]
  ·rw[if_neg (by rw[aV];omega)];rw[if_neg al]at dN;refine⟨_,?_,seen++[j],?_,rfl,U.keep kk fun h=>h,ak,aj⟩
   ·simp only[aI];omega
   ·rw[dN];rfl
end Go.Proofs.YtmapagggnigfpaaGreat.pk
namespace Go.Proofs.YtmapagggnigfpaaGreat.pk
open Go Go.Cn
def UN:FuncId->Nat->List Tmp:=fun f r=>if f == 16 && r==2 then [8] else if f == 13 && r==4 then [0,1,6] else if f == 15 && r==6 then [5,15] else []
theorem FD:xF Tryz.prog (iY 3000) UN 20 7 [] Hp.empty (fun v _=>match v with | .bool b=>b | _=>false)=true:=by kernel_rfl
theorem Ny(h:Hp):SCalls Tryz.prog 7 [] h fun v h'=>v = .bool true/\h'=h:=Eo Sf (of_decide_eq_true (by kernel_rfl)) FD h
end Go.Proofs.YtmapagggnigfpaaGreat.pk
namespace Go.Cn.Pk
open Go.Proofs.YtmapagggnigfpaaGreat.pk
structure TriV where
 a1:OA
 l1:Nat
 c1:Nat
 a2:OA
 l2:Nat
 c2:Nat
 a3:OA
 l3:Nat
 c3:Nat
def triC(v:TriV):LV:=[.slice v.a1 v.l1 v.c1,.slice v.a2 v.l2 v.c2,.slice v.a3 v.l3 v.c3]
theorem jB(v:TriV):(triC v).length=3:=rfl
def Rg(i:Int):LV:=[.int .i64 i]
theorem EW(i:Int):(Rg i).length=1:=rfl
structure BudT where
 ps:List PairT
 K:List BA
 kids:List Int
def spoilC(s:Int×Int×Int):LV:=[.int .i64 s.1,.int .i64 s.2.1,.int .i64 s.2.2]
theorem GC(s:Int×Int×Int):(spoilC s).length=3:=rfl
def BudAt(h:Hp)(n0:Nat)(v:TriV)(B:BudT):Prop :=
 (∃g:ON,(∀y,g=some y->y < n0)/\SlT pairC 2 h g v.a1 v.l1 v.c1 B.ps)/\(∃g:ON,(∀y,g=some y->y < n0)/\SlT strc 1 h g v.a2 v.l2 v.c2 B.K)/\(∃g:ON,(∀y,g=some y->y < n0)/\SlT Rg 1 h g v.a3 v.l3 v.c3 B.kids)
theorem BudAt.keep{h h':Hp}{n0:Nat}{v:TriV}{B:BudT}{S:NP}(x:BudAt h n0 v B)(k:Keep S h h')(G:∀y,y < n0->¬S y):BudAt h' n0 v B:=by
 obtain⟨⟨g1,O,W⟩,⟨g2,U,r2⟩,⟨g3,V,r3⟩⟩:=x;exact⟨⟨g1,O,W.keep k fun y E=>G y (O y E)⟩,⟨g2,U,r2.keep k fun y E=>G y (U y E)⟩,⟨g3,V,r3.keep k fun y E=>G y (V y E)⟩⟩
structure PlotAt(h:Hp)(n0:Nat)(ab:OA)(lb cb:Nat)(sa:OA)(ls cs:Nat)(Bs:List BudT)(Ss:List (Int×Int×Int)):Prop where
 buds:∃(g:ON) (vs:List TriV),(∀y,g=some y->y < n0)/\SlT triC 3 h g ab lb cb vs/\vs.length=Bs.length/\∀(i:Nat) v B,vs[i]? = some v->Bs[i]? = some B->BudAt h n0 v B
 spoils:∃g:ON,(∀y,g=some y->y < n0)/\SlT spoilC 3 h g sa ls cs Ss
theorem PlotAt.keep{h h':Hp}{n0:Nat}{ab:OA}{lb cb:Nat}{sa:OA}{ls cs:Nat}{Bs:List BudT}{Ss:List (Int×Int×Int)}{S:NP}(x:PlotAt h n0 ab lb cb sa ls cs Bs Ss)(k:Keep S h h')(E:∀y,y < n0->¬S y):PlotAt h' n0 ab lb cb sa ls cs Bs Ss:=by
 obtain⟨⟨g,vs,O,V,W,q4⟩,⟨g',U,r2⟩⟩:=x;exact⟨⟨g,vs,O,V.keep k fun y G=>E y (O y G),W,fun i v B hv hB=>(q4 i v B hv hB).keep k E⟩,⟨g',U,r2.keep k fun y G=>E y (U y G)⟩⟩
structure Small(Bs:List BudT)(Ss:List (Int×Int×Int)):Prop where
 buds:Bs.length<=300
 spoils:Ss.length<=300
 each:∀B∈Bs,B.ps.length<=100000/\B.K.length<=100000/\B.kids.length<=100000
theorem PlotAt.bud{h:Hp}{n0:Nat}{ab:OA}{lb cb:Nat}{sa:OA}{ls cs:Nat}{Bs:List BudT}{Ss:List (Int×Int×Int)}(x:PlotAt h n0 ab lb cb sa ls cs Bs Ss){i:Nat}{B:BudT}(E:Bs[i]? = some B):
  ∃v,BudAt h n0 v B/\ab.isSome=true/\h.cellsAt (blk ab) (off ab+i * 3) 3=some (triC v):=by
 obtain⟨⟨g,vs,q1,O,q3,U⟩,_⟩:=x;have hi:=(Us.1 E).1;obtain⟨v,G⟩:∃v,vs[i]? = some v:=⟨_,Uh (by omega)⟩;obtain⟨V,W⟩:=O.get jB G (j:=0) (m:=3) (by omega);exact⟨v,U i v B G E,V,W⟩
theorem PlotAt.len{h:Hp}{n0:Nat}{ab:OA}{lb cb:Nat}{sa:OA}{ls cs:Nat}{Bs:List BudT}{Ss:List (Int×Int×Int)}(x:PlotAt h n0 ab lb cb sa ls cs Bs Ss):Bs.length=lb/\Ss.length=ls:=by
 obtain⟨⟨g,vs,U,E,G,V⟩,⟨W,r1,O⟩⟩:=x;exact⟨by rw[<-G,E.len],O.len⟩
end Go.Cn.Pk
namespace Go.Proofs.YtmapagggnigfpaaGreat.pk
open Cn Cn.Pk vc
theorem uF{α:Type}{enc:α->LV}{w bytes:Nat}{t elem:TI}(ht:AppT Tryz.prog t t elem w bytes)(hb:bytes<=4096)(W:∀x,(enc x).all isCell=true){h:Hp}(wf:Wf h){G:ON}{a:OA}{l c:Nat}{L:List α}(s:SlT enc w h G a l c L)(hl:l<=8589934592):
  ∃a' c' V h',aQ Tryz.prog t t (.slice none 0 0) (.slice a l c) h=some (.slice a' l c',h')/\Ow h' w V a' l c' (L.flatMap enc)/\(∀y,V=some y->h.next<=y)/\Kept h h'/\Wf h':=by
 have E:(L.flatMap enc).all isCell=true:=by
  simp only[VK,WX];rintro v ⟨x,_,hv⟩;exact VK.mp (W x) v hv
 have O:roomy (0+l) bytes=true:=bM (Nat.le_trans (WB (show 2 * (0+l)+1024<=17179870208 by omega) hb) (by decide));obtain⟨a',c',V,h',e1,o1,nw,k2,aa⟩:=Ow.append wf ht (Ow.nil h w) (lR s.sl) s.sl.len E O;simp only[Nat.zero_add,VH]at e1 o1;refine⟨a',c',V,h',e1,o1,fun y U=>?_,k2.mono wf fun y U W=>by simp at W,aa⟩;rcases nw with h3 | ⟨z,h3,h4⟩
 ·rw[h3]at U;simp at U
 ·rw[h3]at U;simp at U;omega
structure OwnN(h:Hp)(S:NP)(v:TriV)(N:NodeT):Prop where
 ex:∃g1 g2 g3:ON,Ow h 2 g1 v.a1 v.l1 v.c1 (N.ps.flatMap pairC)/\Ow h 1 g2 v.a2 v.l2 v.c2 (N.K.flatMap strc)/\Ow h 33 g3 v.a3 v.l3 v.c3 (N.ks.flatMap kidC)/\(∀y,g1=some y\/g2=some y\/g3=some y->S y)/\(∀y,g1=some y->g2≠some y/\g3≠some y)/\(∀y,g2=some y->g3≠some y)
 l1:N.ps.length=v.l1
 l2:N.K.length=v.l2
 l3:N.ks.length=v.l3
theorem OwnN.keep{h h':Hp}{S S0:NP}{v:TriV}{N:NodeT}(x:OwnN h S v N)(k:Keep S0 h h')(O:∀y,S y->¬S0 y):OwnN h' S v N:=by
 obtain⟨⟨g1,g2,g3,U,V,W,G,q5,q6⟩,r1,r2,r3⟩:=x;exact⟨⟨g1,g2,g3,U.keep k fun y E=>O y (G y (.inl E)),V.keep k fun y E=>O y (G y (.inr (.inl E))),W.keep k fun y E=>O y (G y (.inr (.inr E))),G,q5,q6⟩,r1,r2,r3⟩
theorem OwnN.mono{h:Hp}{S S':NP}{v:TriV}{N:NodeT}(x:OwnN h S v N)(E:∀y,S y->S' y):OwnN h S' v N:=by
 obtain⟨⟨g1,g2,g3,G,O,U,V,W,q6⟩,r1,r2,r3⟩:=x;exact⟨⟨g1,g2,g3,G,O,U,fun y hy=>E y (V y hy),W,q6⟩,r1,r2,r3⟩
theorem Sy{h:Hp}{S:NP}{v:TriV}{N:NodeT}(x:NodeS h S (.agg (triC v).toArray) N) (hN:N.ps.length<=100000/\N.K.length<=100000/\N.ks.length<=100000):C 42 [.agg (triC v).toArray] h fun r h'=>(∃v',r = .agg (triC v').toArray/\OwnN h' (fun y=>h.next<=y/\y < h'.next) v' N)/\Kept h h':=by
 obtain⟨a1,l1,c1,a2,l2,c2,a3,l3,c3,e,⟨g1,q1,r1⟩,⟨g2,q2,r2⟩,⟨g3,q3,r3⟩⟩:=x;obtain⟨ao,ap,aq⟩:=hN;rw[e];refine sv Iu fun wf=>?_;intro h1 e1 h2 e2;obtain⟨b1,k1,n1,G⟩:=aB wf e1;obtain⟨b2,k2,n2,U⟩:=aB G e2;have aa:=k1.trans wf k2 fF;have p1:=r1.len;have p2:=r2.len;have p3:=r3.len;obtain⟨x1,z1,y1,h3,ah,o1,i1,k3,ac⟩:=uF uG (by omega) (fun _=>rfl) U (r1.keep aa fF) (by omega);have V:=k2.trans G k3 fF;have ad:=aa.trans wf k3 fF;obtain⟨x2,z2,y2,h4,ai,o2,i2,k4,ae⟩:=uF vP (by omega) (fun _=>rfl) ac (r2.keep ad fF) (by omega);have af:=V.trans G k4 fF;have ag:=ad.trans wf k4 fF;obtain⟨x3,z3,y3,h5,aj,o3,i3,W,ak⟩:=uF zX (by omega) jT ae (r3.keep ag fF) (by omega);have ar:=af.trans G W fF;have al:=ag.trans wf W fF;have an:=(k3.trans U k4 fF).trans U W fF;obtain⟨h6,e6,b6,k6,n6,au⟩:=(Kept.blk an b2).store (o:=0) (vs:=[.slice x1 l1 z1,.slice x2 l2 z2,.slice x3 l3 z3]) (by simp) rfl;rw[aO (by rfl)]at b6;have rd:∀{hz:Hp},Kept h1 hz->hz.cellsAt h.next 0 1=some [.slice a1 l1 c1]/\hz.cellsAt h.next 1 1=some [.slice a2 l2 c2]/\hz.cellsAt h.next 2 1=some [.slice a3 l3 c3]:=fun k=>⟨(Kept.blk k b1).one rfl,(Kept.blk k b1).one rfl,(Kept.blk k b1).one rfl⟩
 have G1:=o1.glt ac;have G2:=o2.glt ae;have G3:=o3.glt ak;have j3:=k3.next;have j4:=k4.next;have j5:=W.next;refine⟨rfl,a1,l1,c1,⟨rfl,(rd k2).1⟩,rfl,a2,l2,c2,⟨rfl,(rd k2).2.1⟩,rfl,a3,l3,c3,⟨rfl,(rd k2).2.2⟩,x1,l1,z1,h3,ah,⟨rfl,(rd V).2.2⟩,⟨rfl,(rd V).2.1⟩,x2,l2,z2,h4,ai,⟨rfl,(rd af).2.2⟩,x3,l3,z3,h5,aj,rfl,h6,e6,x1,l1,z1,x2,l2,z2,x3,l3,z3,⟨rfl,by rw[b6.cells (by simp)];rfl⟩,⟨⟨x1,l1,z1,x2,l2,z2,x3,l3,z3⟩,rfl,⟨y1,y2,y3,?_,?_,?_,?_,?_,?_⟩,p1,p2,p3⟩,al.trans wf k6 fun y E O=>by omega⟩
 ·exact((o1.keep k4 fF).keep W fF).keep k6 fun y E O=>by have:=i1 y E;omega
 ·exact(o2.keep W fF).keep k6 fun y E O=>by have:=i2 y E;omega
 ·exact o3.keep k6 fun y E O=>by have:=i3 y E;omega
 ·rintro y (E | E | E)
  ·have:=i1 y E;have:=G1 y E;omega
  ·have:=i2 y E;have:=G2 y E;omega
  ·have:=i3 y E;have:=G3 y E;omega
 ·intro y E;have:=G1 y E;exact⟨fun O=>by have:=i2 y O;omega,fun O=>by have:=i3 y O;omega⟩
 ·intro y E O;have:=G2 y E;have:=i3 y O
  omega
end Go.Proofs.YtmapagggnigfpaaGreat.pk
namespace Go.Cn.Pk
open Go.Proofs.YtmapagggnigfpaaGreat.pk
open Classical in
noncomputable def rM(p w:Int)(N:NodeT):Dg:=dgOf (if MayIs p w N 0 then sumN w N else bH)
def mL(sums:List Dg)(i:Nat)(a:Int):Option KidT :=
 if h:0<=a/\a < i/\a.toNat+2<=4294967295 then(sums[a.toNat]?).map fun d=>⟨a.toNat+2,d.1,h.2.2,d.2⟩ else none
def wX(sums:List Dg)(i:Nat)(B:BudT):NodeT:=⟨B.ps,B.K,B.kids.filterMap (mL sums i)⟩
noncomputable def dZ(p w:Int)(Bs:List BudT):List NodeT:=Bs.foldl (fun acc B=>acc++[wX (acc.map (rM p w)) acc.length B]) []
theorem ED(p w:Int)(Bs:List BudT)(B:BudT):dZ p w (Bs++[B])=dZ p w Bs++[wX ((dZ p w Bs).map (rM p w)) (dZ p w Bs).length B]:=by
 unfold dZ;rw[List.foldl_append];rfl
theorem BM{α β:Type}(f:List β->α->β):∀(L:List α) (E:List β),(L.foldl (fun E B=>E++[f E B]) E).length=E.length+L.length
 | [],E=>rfl
 | x::L,E=>by rw[Vx,BM f L,Ug];simp;omega
theorem iQ(p w:Int)(Bs:List BudT):(dZ p w Bs).length=Bs.length:=by
 unfold dZ;rw[BM (fun acc B=>wX (acc.map (rM p w)) acc.length B)];simp
theorem wA{p w:Int}{Bs:List BudT}{i:Nat}{B:BudT}(h:Bs[i]? = some B):dZ p w (Bs.take (i+1))=dZ p w (Bs.take i)++[wX ((dZ p w (Bs.take i)).map (rM p w)) i B]:=by
 have hi:=(Us.1 h).1;rw[VG,h];show dZ p w (Bs.take i++[B])=_;rw[ED,iQ,Uq,Vc (by omega)]
theorem yJ(p w:Int):∀(n:Nat) (Bs:List BudT),Bs.length=n->∀N∈dZ p w Bs,∃B∈Bs,N.ps=B.ps/\N.K=B.K/\N.ks.length<=B.kids.length:=by
 intro n
 induction n with
 | zero=>intro Bs h N E;have:Bs=[]:=VS h;subst this;simp[dZ]at E
 | succ n G =>
  intro Bs h N E;have O:Bs[n]? = some Bs[n]:=Uh (by omega);have:=wA (p:=p) (w:=w) O;rw[Uj (by omega)]at this;rw[this,VF,WC]at E;rcases E with E | rfl
  ·obtain⟨B,U,V⟩:=G (Bs.take n) (by rw[Uq];omega) N E;exact⟨B,WM U,V⟩
  ·exact⟨Bs[n],List.getElem_mem _,rfl,rfl,List.length_filterMap_le _ _⟩
def lB(h:Hp)(S:NP)(vs:List TriV)(Ns:List NodeT):Prop:=vs.length=Ns.length/\∀(i:Nat) v N,vs[i]? = some v->Ns[i]? = some N->NodeS h S (.agg (triC v).toArray) N
theorem lB.keep{h h':Hp}{S S0:NP}{vs:List TriV}{Ns:List NodeT}(x:lB h S vs Ns)(k:Keep S0 h h')(E:∀y,S y->¬S0 y):lB h' S vs Ns:=⟨x.1,fun i v N G O=>(x.2 i v N G O).keep k E⟩
theorem lB.mono{h:Hp}{S S':NP}{vs:List TriV}{Ns:List NodeT}(x:lB h S vs Ns)(E:∀y,S y->S' y):lB h S' vs Ns:=⟨x.1,fun i v N G O=>(x.2 i v N G O).mono E⟩
theorem lB.snoc{h:Hp}{S:NP}{vs:List TriV}{Ns:List NodeT}(x:lB h S vs Ns){v:TriV}{N:NodeT}(O:NodeS h S (.agg (triC v).toArray) N):lB h S (vs++[v]) (Ns++[N]):=by
 refine⟨by rw[Ug,Ug,x.1];rfl,fun i U V E G=>?_⟩;by_cases hi:i < vs.length
 ·rw[VQ hi]at E;rw[VQ (by rw[<-x.1];exact hi)]at G;exact x.2 i U V E G
 ·rw[VN (by omega)]at E;rw[VN (by rw[<-x.1];omega),<-x.1]at G;have:i - vs.length=0:=by
   have:=(Us.1 E).1;simp at this;omega
  rw[this]at E G;simp at E G;subst E;subst G;exact O
end Go.Cn.Pk
namespace Go.Proofs.YtmapagggnigfpaaGreat.pk
open Cn Cn.Pk vc
theorem TX:AppT Tryz.prog 181 181 41 32 32:=AppT.of _ (by kernel_rfl)
theorem QA:AppT Tryz.prog 118 118 122 3 72:=AppT.of _ (by kernel_rfl)
def Sk(d:Dg):LV:=bc d.1
theorem Ce(d:Dg):(Sk d).length=32:=by unfold Sk;rw[aJ,d.2]
theorem Hj{p w:Int}{N:NodeT}(hw:w.toNat<=32){e:Int}{D:LU}(hm:MayIs p w N e)(h0:e=0->D=sumN w N)(G:e≠0->D=bH):D=(rM p w N).1:=by
 unfold rM;by_cases E:MayIs p w N 0
 ·rw[if_pos E,tZ (gA hw N)];exact h0 (hm.uniq E)
 ·rw[if_neg E,tZ bI];refine G fun he=>E ?_;subst he;exact hm
abbrev tJ(p w:Int)(ab:OA)(lb cb:Nat)(rt:Int)(sa:OA)(ls cs:Nat)(tn:Bool)(off:Int):Value:=.agg #[.int .i64 p,.int .i64 w,.slice ab lb cb,.int .i64 rt,.slice sa ls cs,.bool tn,.int .i64 off]
set_option maxRecDepth 20000 in
theorem ND{h:Hp}{n0:Nat}{p w rt off:Int}{ab sa:OA}{lb cb ls cs:Nat}{tn:Bool}{Bs:List BudT}{Ss:List (Int×Int×Int)}(hF:Fr p w)(x:PlotAt h n0 ab lb cb sa ls cs Bs Ss)(eu:n0<=h.next)(sm:Small Bs Ss):
  C 41 [tJ p w ab lb cb rt sa ls cs tn off] h fun r h'=>(∃a c g vs,r = .slice a vs.length c/\Ow h' 3 g a vs.length c (vs.flatMap triC)/\(∀y,g=some y->h.next<=y)/\lB h' (fun y=>h.next<=y/\y < h'.next) vs (dZ p w Bs))/\Kept h h':=by
 obtain⟨ew,ey,ez,e5,bq⟩:=hF.nat;refine sv DQ fun wf=>?_;obtain⟨e7,fa⟩:=x.len;have fb:=sm.buds;intro h1 e1;obtain⟨b1,k1,n1,a6⟩:=aB wf e1;have x1:=x.keep k1 fF;refine⟨fun vals m hh=>∃(i:Nat) (a:OA) (c:Nat) (g:ON) (vs:List TriV) (ah:OA) (a7:Nat) (gs:ON),[.slice a vs.length c,.slice ah i a7,.int .i64 (i:Int)]=vals/\m=lb - i/\i<=lb/\Ow hh 3 g a vs.length c (vs.flatMap triC)/\(∀y,g=some y->h.next < y)/\
   Ow hh 32 gs ah i a7 (((dZ p w (Bs.take i)).map (rM p w)).flatMap Sk)/\(∀y,gs=some y->h.next < y/\g≠some y)/\lB hh (fun y=>h.next < y/\y < hh.next/\g≠some y/\gs≠some y) vs (dZ p w (Bs.take i))/\Keep (fun y=>h.next < y) h1 hh/\Wf hh,
  ⟨lb,0,none,0,none,[],none,0,none,rfl,rfl,Uk _,Ow.nil _ _,by simp,Ow.nil _ _,by simp,⟨rfl,fun i v N hv _=>by simp at hv⟩,Keep.refl _ _,a6⟩,?_⟩
 rintro a l c fc fd fe n m hh ⟨i,a',c',g,vs,ah,a7,gs,e,rfl,hi,ow,hg,os,an,nd,kk,U⟩;simp only[Ur,Value.slice.injEq,Value.int.injEq,true_and,and_true]at e;obtain⟨⟨rfl,rfl,rfl⟩,⟨rfl,rfl,rfl⟩,rfl⟩:=e;have ff:=kk.next;have br:Kept h hh:=k1.trans wf kk fun y E G=>by omega
 have bh:=kk.blk b1 fun y E G=>by simp at E;omega
 have xh:=x.keep br fF;refine⟨rfl,ab,lb,cb,⟨rfl,bh.one rfl⟩,?_⟩;by_cases G:bO (i:Int) (aE lb)=true
 ·rw[if_pos G];have fg:i < lb:=by rw[aC,aF]at G;omega
  obtain⟨B,hB⟩:∃B,Bs[i]? = some B:=⟨_,Uh (by omega)⟩;obtain⟨da,db,fh⟩:=sm.each B (Uy hB);obtain⟨bv,dc,dd,dI⟩:=xh.bud hB;have de:aA (Cn.off ab) (i:Int) 3=Cn.off ab+i * 3:=by unfold aA;rw[Uo]
  refine⟨rfl,ab,lb,cb,⟨rfl,bh.one rfl⟩,⟨dd,Ui _,by omega⟩,bv.a1,bv.l1,bv.c1,bv.a2,bv.l2,bv.c2,bv.a3,bv.l3,bv.c3,⟨rfl,by rw[de];exact dI⟩,?_⟩;intro h2 e2;obtain⟨b2,k2,n2,df⟩:=aB U e2;obtain⟨h3,e3,b3,dg,k3,n3,dh⟩:=bP df (vs:=triC bv) b2 k2 U (Uf _) rfl rfl;refine⟨rfl,h3,e3,?_⟩;intro h4 e4;obtain⟨b4,k4,n4,di⟩:=aB dh e4;have bt:=dg.trans U k4 fF;have bu:Blk h4 hh.next (some hh.next) (triC bv):=Kept.blk k4 b3;obtain⟨⟨fi,u1,r1⟩,⟨fj,u2,r2⟩,⟨fk,u3,r3⟩⟩:=dc;have z1:=r1.len;have z2:=r2.len;have z3:=r3.len;obtain⟨W,w1,y1,h5,dj,o1,i1,k5,bw⟩:=uF uG (by omega) (fun _=>rfl) di (r1.keep bt fF) (by omega);have dk:=bt.trans U k5 fF;have dl:=Kept.blk k5 b4;obtain⟨h6,e6,b6,k6,n6,bi⟩:=dl.set (o:=0) (v:=.slice W bv.l1 w1) (by simp) rfl;have bi:=bi bw;have bx:=k6.blk (Kept.blk k5 bu) fun y E G=>by simp at E;omega
  have bz:Kept hh h6:=dk.trans U k6 fun y E G=>by omega
  obtain⟨aa,w2,y2,h7,dn,o2,i2,k7,b5⟩:=uF vP (by omega) (fun _=>rfl) bi (r2.keep bz fF) (by omega);have dp:=bz.trans U k7 fF;have dq:=Kept.blk k7 b6;obtain⟨h8,e8,b8,k8,n8,ao⟩:=dq.set (o:=1) (v:=.slice aa bv.l2 w2) (by simp) rfl;have ao:=ao b5;have dr:Kept hh h8:=dp.trans U k8 fun y E G=>by omega
  have ds:=k8.blk (Kept.blk k7 bx) fun y E G=>by simp at E;omega
  have j5:=k5.next;have j7:=k7.next;have G1:=o1.glt bw;have G2:=o2.glt b5;have dt:=((o1.keep k6 fun y E G=>by have:=i1 y E;omega).keep k7 fF).keep k8 fun y E G=>by have:=i1 y E;omega
  have du:=o2.keep k8 fun y E G=>by have:=i2 y E;omega
  refine⟨rfl,bv.a1,bv.l1,bv.c1,⟨rfl,bu.one rfl⟩,W,bv.l1,w1,h5,dj,rfl,rfl,h6,e6,rfl,bv.a2,bv.l2,bv.c2,⟨rfl,bx.one rfl⟩,aa,bv.l2,w2,h7,dn,rfl,rfl,h8,e8,?_⟩;have b8:Blk h8 h3.next (some h3.next) [.slice W bv.l1 w1,.slice aa bv.l2 w2,.slice none 0 0]:=b8;generalize bj:(dZ p w (Bs.take i)).map (rM p w)=sums at os;have dv:sums.length=i:=by rw[<-bj,VP,iQ,Uq];omega
  have ap:=os.glt U;have af:=ow.glt U;refine⟨fun vals m V=>∃(j:Nat) (ak:OA) (ck:Nat) (gk:ON) (ks:List KidT),[.int .i64 (j:Int)]=vals/\m=bv.l3 - j/\j<=bv.l3/\ks=(B.kids.take j).filterMap (mL sums i)/\Blk V h3.next (some h3.next) [.slice W bv.l1 w1,.slice aa bv.l2 w2,.slice ak ks.length ck]/\Ow V 33 gk ak ks.length ck (ks.flatMap kidC)/\(∀y,gk=some y->h8.next<=y)/\Keep (fun y=>y=h3.next\/h8.next<=y) h8 V/\Wf V,
   ⟨bv.l3,0,none,0,none,[],rfl,rfl,Uk _,by simp,b8,Ow.nil _ _,by simp,Keep.refl _ _,ao⟩,?_⟩
  rintro n m V ⟨j,ak,ck,gk,ks,e,rfl,hj,aq,bk,ok,ar,kz,au⟩;simp only[Ur,Value.int.injEq,true_and,and_true]at e;subst e;have fl:=kz.next;have a8:Kept hh V:=dr.trans U kz fun y E G=>by omega
  have b7:=kz.blk ds fun y E G=>by simp at E;omega
  have dw:=Kept.blk a8 bh;refine⟨rfl,bv.a3,bv.l3,bv.c3,⟨rfl,b7.one rfl⟩,?_⟩;by_cases a9:bO (j:Int) (aE bv.l3)=true
  ·rw[if_pos a9];have fm:j < bv.l3:=by rw[aC,aF]at a9;omega
   obtain⟨q,O⟩:∃q,B.kids[j]? = some q:=⟨_,Uh (by omega)⟩;obtain⟨dx,dz⟩:=(r3.keep a8 fF).get EW O (j:=0) (m:=1) (by omega);have ca:aA (Cn.off bv.a3) (j:Int) 1=Cn.off bv.a3+j * 1+0:=by unfold aA;rw[Uo];omega
   refine⟨rfl,bv.a3,bv.l3,bv.c3,⟨rfl,b7.one rfl⟩,⟨dx,Ui _,by omega⟩,q,⟨rfl,by rw[ca];exact dz⟩,?_⟩;have ac:(B.kids.take (j+1)).filterMap (mL sums i)=ks++(mL sums i q).toList:=by
    rw[VG,O,List.filterMap_append,aq]
    cases hk:mL sums i q <;> simp[hk]
   by_cases ad:aR (bO q 0) true (iE q (i:Int))=true
   ·rw[if_pos ad];have hn:mL sums i q=none:=by
     unfold mL;rw[cG,aC,cK]at ad;rw[dif_neg (by omega)]
    rw[hn]at ac;refine⟨bv.l3 - (j+1),by simp only[aI];omega,j+1,ak,ck,gk,ks,?_,rfl,by omega,by rw[ac];simp,bk,ok,ar,kz,au⟩;rw[show aG .i64 (j:Int) 1=_ from cN 1 j (by omega)]
   ·rw[if_neg ad];rw[cG,aC,cK]at ad;obtain⟨qn,rfl⟩:∃qn:Nat,q=(qn:Int):=⟨q.toNat,by omega⟩;have fo:qn < i:=by omega
    obtain⟨d,hd⟩:∃d,sums[qn]? = some d:=⟨_,Uh (by omega)⟩;have ai:qn+2<=4294967295:=by omega
    have bl:mL sums i (qn:Int)=some ⟨qn+2,d.1,ai,d.2⟩:=by
     unfold mL;rw[dif_pos (by omega)];simp only[Uo,hd,Uv]
    rw[bl]at ac;have d1:=os.keep a8 fF;have sS:SlT Sk 32 V gs ah i a7 sums:=⟨d1.sl,dv⟩;obtain⟨d2,d3⟩:=sS.get Ce hd (j:=0) (m:=32) (by omega);have cc:aA (Cn.off ah) (qn:Int) 32=Cn.off ah+qn * 32+0:=by unfold aA;rw[Uo];omega
    refine⟨rfl,ak,ks.length,ck,⟨rfl,bk.one rfl⟩,⟨d2,Ui _,by omega⟩,cV d.1,⟨rfl,by rw[cc,d3,aH d.2,VC,Uj (by rw[Ce];exact Uf _)];rfl⟩,?_⟩;intro h9 e9;rw[aH d.2,show aG .i64 (qn:Int) 2=_ from cN 2 qn (by omega),nP,Up (by omega)]at e9;have cd:ks.length<=100000:=by
     rw[aq];have:=List.length_filterMap_le (mL sums i) (B.kids.take j);rw[Uq]at this
     omega
    obtain⟨bm,bn,ce,av,bo,d4,cf,ba,ax⟩:=Ow.append1 au zX ok (new:=kidC ⟨qn+2,d.1,ai,d.2⟩) e9 (dL _) (jT _) (bM (by omega));have eo:=ba.next;have cg:=ba.blk bk fun y E G=>by simp at E;have:=ar y G;omega
    obtain⟨ci,bb,d5,cj,fp,cl⟩:=cg.set (o:=2) (v:=.slice bm (ks.length+1) bn) (by simp) rfl;have cm:∀y,ce=some y->h8.next<=y:=fun y E=>by
     rcases cf with O | ⟨z,V,O⟩
     ·exact ar y (by rw[<-O];exact E)
     ·rw[E]at V;injection V with V;omega
    refine⟨bm,ks.length+1,bn,av,bo,rfl,rfl,ci,bb,bv.l3 - (j+1),by simp only[aI];omega,j+1,bm,bn,ce,ks++[⟨qn+2,d.1,ai,d.2⟩],?_,rfl,by omega,by rw[ac];rfl,?_,?_,cm,?_,cl ax⟩
    ·rw[show aG .i64 (j:Int) 1=_ from cN 1 j (by omega)]
    ·rw[Ug];exact d5
    ·rw[Ug,VX];simpa using d4.keep cj fun y E G=>by have:=cm y E;omega
    ·exact(kz.trans ao ba fun y E G=>.inr (ar y G)).trans ao cj fun y E G=>.inl G
  ·rw[if_neg a9];have d6:j=bv.l3:=by
    have:¬j < bv.l3:=fun h=>a9 (by rw[aC,aF];omega)
    omega
   subst d6;rw[Uj (by omega)]at aq;have cd:ks.length<=100000:=by
    rw[aq];have:=List.length_filterMap_le (mL sums i) B.kids
    omega
   have ay:wX sums i B=⟨B.ps,B.K,ks⟩:=by unfold wX;rw[aq]
   have d7:=dt.keep kz fun y E G=>by have:=G1 y E;have:=i1 y E;omega
   have d8:=du.keep kz fun y E G=>by have:=G2 y E;have:=i2 y E;omega
   have hN:NodeS V (fun y=>hh.next<=y/\y < V.next) (.agg #[.slice W bv.l1 w1,.slice aa bv.l2 w2,.slice ak ks.length ck]) (wX sums i B):=by
    rw[ay];exact⟨_,_,_,_,_,_,_,_,_,rfl,⟨y1,fun y E=>by have:=G1 y E;have:=i1 y E;omega,d7.sl,z1⟩,⟨y2,fun y E=>by have:=G2 y E;have:=i2 y E;omega,d8.sl,z2⟩,⟨gk,fun y E=>by have:=ok.glt au y E;have:=ar y E;omega,ok.sl,rfl⟩⟩
   have rk:∀{E:Hp},Kept V E->E.cellsAt h3.next 0 3=some [.slice W bv.l1 w1,.slice aa bv.l2 w2,.slice ak ks.length ck]:=fun k=>by rw[(Kept.blk k bk).cells (by simp)];rfl
   refine⟨rfl,p,w,⟨rfl,by rw[dw.cells (by simp)];rfl⟩,W,bv.l1,w1,aa,bv.l2,w2,ak,ks.length,ck,⟨rfl,rk (Keep.refl _ _)⟩,?_⟩;have fq:(wX sums i B).ps.length<=100000/\(wX sums i B).K.length<=100000/\(wX sums i B).ks.length<=100000:=by rw[ay];exact⟨da,db,cd⟩
   refine(Ei (hN.at fun y E=>E.2) p w (by omega) (by omega) (by omega)).mono fun v d9 ⟨⟨e,D,ev,ea,eb,ec⟩,eh⟩=>?_;subst eh;have cn:=Hj bq ea eb ec;have az:D.length=32:=by rw[cn];exact(rM p w _).2
   refine⟨cV D,e,by rw[aH az];exact ev,?_⟩;intro h9 e9;rw[dU]at e9;obtain⟨b9,k9,n9,ed⟩:=aB au e9;obtain⟨av,bo,ee,ag,ba,ft,ax⟩:=bP ed (vs:=bc D) b9 k9 au (Uf _) (by rw[aJ,aJ,az];rfl) (aZ _);refine⟨rfl,av,by rw[aH az];exact bo,cV D,⟨rfl,cH ee az⟩,?_⟩;intro ci bb;rw[aH az,cn]at bb;have ae:Kept hh av:=a8.trans U ag fF;have co:=os.keep ae fF;obtain⟨cp,cq,a0,cr,ef,ct,cu,aj,bg⟩:=Ow.append1 ax TX co (new:=Sk (rM p w (wX sums i B))) bb (Ce _) (aZ _) (bM (by omega));have ep:=aj.next;have fu:=ag.next;have eq:=ae.next;have cv:=aj.blk (Kept.blk ag bk) fun y E G=>by simp at E;have:=ap y G;omega
   refine⟨cp,i+1,cq,cr,ef,W,bv.l1,w1,aa,bv.l2,w2,ak,ks.length,ck,⟨rfl,by rw[cv.cells (by simp)];rfl⟩,?_⟩;intro fv eg
   let tv:TriV:=⟨W,bv.l1,w1,aa,bv.l2,w2,ak,ks.length,ck⟩
   have cy:=(ow.keep ae fF).keep aj fun y E G=>(an y G).2 E;have fw:vs.length<=300:=by rw[nd.1,iQ,Uq];omega
   obtain⟨cz,c0,a4,al,ei,ej,c4,a5,c5⟩:=Ow.append1 bg QA cy (new:=triC tv) eg (jB tv) rfl (bM (by omega));have er:=a5.next;have bf:∀y,a0=some y->gs=some y\/av.next<=y:=fun y E=>by
    rcases cu with O | ⟨z,V,O⟩
    ·left;rw[<-O];exact E
    ·rw[E]at V;injection V with V;right;omega
   have bp:∀y,a4=some y->g=some y\/cr.next<=y:=fun y E=>by
    rcases c4 with O | ⟨z,V,O⟩
    ·left;rw[<-O];exact E
    ·rw[E]at V;injection V with V;right;omega
   have c6:=ct.glt bg;have c7:=ct.keep a5 fun y E G=>by
    rcases bf y E with O | O
    ·exact(an y O).2 G
    ·have:=af y G;omega
   have EA:∀y,h.next < y/\y < d9.next/\g≠some y/\gs≠some y->h.next < y/\y < al.next/\a4≠some y/\a0≠some y:=fun y E=>⟨E.1,by omega,fun G=>by
    rcases bp y G with O | O
    ·exact E.2.2.1 O
    ·omega,fun G=>by
    rcases bf y G with O | O
    ·exact E.2.2.2 O
    ·omega⟩
   have c8:lB al (fun y=>h.next < y/\y < al.next/\a4≠some y/\a0≠some y) vs (dZ p w (Bs.take i)):=(((nd.keep ae fF).keep aj fun y E G=>E.2.2.2 G).keep a5 fun y E G=>E.2.2.1 G).mono fun y E=>EA y ⟨E.1,by omega,E.2.2⟩;have c9:NodeS al (fun y=>h.next < y/\y < al.next/\a4≠some y/\a0≠some y) (.agg (triC tv).toArray) (wX sums i B):=(((hN.keep ag fF).keep aj fun y E G=>by have:=ap y G;omega).keep a5 fun y E G=>by have:=af y G;omega).mono fun y E=>EA y ⟨by omega,by omega,fun G=>by have:=af y G;omega,fun G=>by have:=ap y G;omega⟩;have dN:=wA (p:=p) (w:=w) hB;rw[bj]at dN;refine⟨cz,vs.length+1,c0,al,ei,lb - (i+1),by simp only[aI];omega,i+1,cz,c0,a4,vs++[tv],cp,cq,a0,?_,rfl,by omega,?_,?_,?_,?_,?_,?_,c5⟩
   ·rw[Ug,show aG .i64 (i:Int) 1=_ from cN 1 i (by omega)];rfl
   ·rw[Ug,VX];simpa using ej
   ·intro y E;rcases bp y E with O | O
    ·exact hg y O
    ·omega
   ·rw[dN,VY,bj,VX];simpa using c7
   ·intro y E;refine⟨?_,fun G=>?_⟩
    ·rcases bf y E with O | O
     ·exact(an y O).1
     ·omega
    ·rcases bp y G with O | O
     ·rcases bf y E with ai | ai
      ·exact(an y ai).2 O
      ·have:=af y O;omega
     ·have:=c6 y E;omega
   ·rw[dN];exact c8.snoc c9
   ·exact((kk.trans a6 ae fun _ _ h=>h.elim).trans a6 aj fun y E G=>(an y G).1).trans a6 a5 fun y E G=>hg y G
 ·rw[if_neg G];have en:i=lb:=by
   have:¬i < lb:=fun h=>G (by rw[aC,aF];omega)
   omega
  subst en;rw[Uj (by omega)]at nd;refine⟨⟨a',c',g,vs,rfl,ow,fun y E=>by have:=hg y E;omega,nd.mono fun y E=>⟨by omega,E.2.1⟩⟩,br⟩
end Go.Proofs.YtmapagggnigfpaaGreat.pk
namespace Go.Cn.Pk
open Go.Proofs.YtmapagggnigfpaaGreat.pk
def iN(f:Nat->Int->Int×Int)(at':Nat):List Int->Int->Int->Int×Int
 | [],n,left=>(n,left)
 | x::xs,n,left=>if 0 < left then(if 0<=x/\x < at' then iN f at' xs (aG .u64 n (f x.toNat left).1) (f x.toNat left).2 else iN f at' xs n left) else(n,left)
theorem Ci(f:Nat->Int->Int×Int)(E:Nat)(x:Int)(xs:List Int)(n left:Int):iN f E (x::xs) n left=if 0 < left then(if 0<=x/\x < E then iN f E xs (aG .u64 n (f x.toNat left).1) (f x.toNat left).2 else iN f E xs n left) else(n,left):=rfl
def iF(Bs:List BudT):Nat->Nat->Int->Int×Int
 | 0,_,_=>(0,0)
 | fuel+1,at',left=>if left<=0 then(0,0) else
  match Bs[at']? with
  | none=>(0,0)
  | some B=>iN (iF Bs fuel) at' B.kids (cC .u64 (B.ps.length:Int)) (bB .i64 left 1)
end Go.Cn.Pk
namespace Go.Proofs.YtmapagggnigfpaaGreat.pk
open Cn Cn.Pk vc
set_option maxRecDepth 20000 in
theorem Pb{n0:Nat}{p w rt off:Int}{ab sa:OA}{lb cb ls cs:Nat}{tn:Bool}{Bs:List BudT}{Ss:List (Int×Int×Int)}(sm:Small Bs Ss):
  ∀(E:Nat) (G:Nat) (left:Int) {h:Hp},G < E->G < lb->PlotAt h n0 ab lb cb sa ls cs Bs Ss->n0<=h.next->
  C 51 [tJ p w ab lb cb rt sa ls cs tn off,.int .i64 (G:Int),.int .i64 left] h fun v h'=>v = .tuple #[.int .u64 (iF Bs E G left).1,.int .i64 (iF Bs E G left).2]/\Kept h h':=by
 intro E
 induction E with
 | zero=>intro G left h al;omega
 | succ E ih =>
  intro G left h al a5 x a6;refine sv DT fun wf=>?_;obtain⟨a7,a8⟩:=x.len;have a9:=sm.buds;intro h1 e1;obtain⟨b1,k1,n1,aa⟩:=aB wf e1;by_cases O:qA left 0=true
  ·rw[if_pos O];rw[eV]at O;have:iF Bs (E+1) G left=(0,0):=by unfold iF;rw[if_pos O]
   rw[this];exact⟨rfl,k1⟩
  ·rw[if_neg O];rw[eV]at O;obtain⟨B,hB⟩:∃B,Bs[G]? = some B:=⟨_,Uh (by omega)⟩;obtain⟨ba,bb,bf⟩:=sm.each B (Uy hB);have ag:iF Bs (E+1) G left=iN (iF Bs E) G B.kids (cC .u64 (B.ps.length:Int)) (bB .i64 left 1):=by
    show(if left<=0 then(0,0) else match Bs[G]? with
     | none=>(0,0)
     | some B=>iN (iF Bs E) G B.kids (cC .u64 (B.ps.length:Int)) (bB .i64 left 1))=_
    rw[if_neg O,hB]
   rw[ag];have x1:=x.keep k1 fF;obtain⟨bv,an,ao,dI⟩:=x1.bud hB;have ap:aA (Cn.off ab) (G:Int) 3=Cn.off ab+G * 3:=by unfold aA;rw[Uo]
   refine⟨rfl,ab,lb,cb,⟨rfl,b1.one rfl⟩,⟨ao,Ui _,by omega⟩,bv.a1,bv.l1,bv.c1,bv.a2,bv.l2,bv.c2,bv.a3,bv.l3,bv.c3,⟨rfl,by rw[ap];exact dI⟩,?_⟩;intro h2 e2;obtain⟨b2,k2,n2,aq⟩:=aB aa e2;obtain⟨h3,e3,b3,ac,k3,n3,ah⟩:=bP aq (vs:=triC bv) b2 k2 aa (Uf _) rfl rfl;have ar:=k1.trans wf ac fF;obtain⟨⟨bg,u1,r1⟩,_,⟨bh,u3,r3⟩⟩:=an;have z1:=r1.len;have z3:=r3.len;refine⟨rfl,h3,e3,rfl,bv.a1,bv.l1,bv.c1,⟨rfl,b3.one rfl⟩,?_⟩;have a4:=ac.next;refine⟨fun vals m hh=>∃(k:Nat) (n lf:Int),[.int .i64 lf,.int .u64 n,.int .i64 (k:Int)]=vals/\m=bv.l3 - k/\k<=bv.l3/\iN (iF Bs E) G (B.kids.drop k) n lf=iN (iF Bs E) G B.kids (cC .u64 (B.ps.length:Int)) (bB .i64 left 1)/\Kept h3 hh/\Wf hh,
    ⟨bv.l3,0,_,_,by rw[aF,<-z1];rfl,rfl,Uk _,by rw[VC],Keep.refl _ _,ah⟩,?_⟩
   rintro lf n kI m hh ⟨k,n',U,e,rfl,hk,hinv,kk,au⟩;simp only[Ur,Value.int.injEq,true_and,and_true]at e;obtain⟨rfl,rfl,rfl⟩:=e;have av:=Kept.blk kk b3;have ai:=ac.trans aa kk fF;have ad:=ar.trans wf kk fF;have rk:hh.cellsAt h1.next 2 1=some [.slice bv.a3 bv.l3 bv.c3]:=av.one rfl;refine⟨rfl,bv.a3,bv.l3,bv.c3,⟨rfl,rk⟩,?_⟩;by_cases hc:aR (bO (k:Int) (aE bv.l3)) (dB U 0) false=true
   ·rw[if_pos hc];rw[bN,aC,aF,aS]at hc;obtain⟨PO,bi⟩:=hc;obtain⟨q,hq⟩:∃q,B.kids[k]? = some q:=⟨_,Uh (by omega)⟩;obtain⟨ax,ay⟩:=(r3.keep ai fF).get EW hq (j:=0) (m:=1) (by omega);have aj:aA (Cn.off bv.a3) (k:Int) 1=Cn.off bv.a3+k * 1+0:=by unfold aA;rw[Uo];omega
    have V:hh.cellsAt (blk bv.a3) (aA (Cn.off bv.a3) (k:Int) 1) 1=some [.int .i64 q]:=by rw[aj];exact ay
    have ae:bv.a3.isSome=true/\bS (k:Int) bv.l3:=⟨ax,Ui _,by omega⟩;have af:B.kids.drop k=q::B.kids.drop (k+1):=by
     rw[<-List.getElem_cons_drop (by omega:k < B.kids.length)];rw[Uh (by omega)]at hq;injection hq with hq
     rw[hq]
    rw[af,Ci]at hinv;rw[if_pos (by omega)]at hinv;refine⟨rfl,bv.a3,bv.l3,bv.c3,⟨rfl,rk⟩,ae,q,⟨rfl,V⟩,fun _=>rfl,bv.a3,bv.l3,bv.c3,fun _=>⟨rfl,rk⟩,fun _=>ae,q,fun _=>⟨rfl,V⟩,?_⟩;by_cases W:aR (iE q 0) (bO q (G:Int)) false=true
    ·rw[if_pos W];rw[bN,cK,aC]at W;rw[if_pos (by omega)]at hinv;obtain⟨qn,rfl⟩:∃qn:Nat,q=(qn:Int):=⟨q.toNat,by omega⟩;rw[Uo]at hinv;have az:=Kept.blk ai b1;refine⟨p,w,ab,lb,cb,rt,sa,ls,cs,tn,off,⟨rfl,by rw[az.cells (by simp)];rfl⟩,rfl,bv.a3,bv.l3,bv.c3,⟨rfl,rk⟩,ae,(qn:Int),⟨rfl,V⟩,?_⟩;refine(ih qn U (by omega) (by omega) (x.keep ad fF) (by have:=ad.next;omega)).wf fun v h4 a0 bj ⟨ev,k4⟩=>⟨_,_,ev,?_⟩;refine⟨bv.l3 - (k+1),by simp only[aI];omega,k+1,_,_,?_,rfl,by omega,hinv,kk.trans ah k4 fF,a0⟩;rw[show aG .i64 (k:Int) 1=_ from cN 1 k (by omega)]
    ·rw[if_neg W];rw[bN,cK,aC]at W;rw[if_neg (by omega)]at hinv;refine⟨bv.l3 - (k+1),by simp only[aI];omega,k+1,n',U,?_,rfl,by omega,hinv,kk,au⟩;rw[show aG .i64 (k:Int) 1=_ from cN 1 k (by omega)]
   ·rw[if_neg hc];rw[bN,aC,aF,aS]at hc;have ak:iN (iF Bs E) G (B.kids.drop k) n' U=(n',U):=by
     by_cases bk:k < bv.l3
     ·cases hd:B.kids.drop k with
      | nil=>rfl
      | cons y ys =>
       unfold iN;rw[if_neg (by omega)]
     ·rw[VV (by omega)]
      rfl
    rw[<-hinv,ak];exact⟨rfl,ad⟩
end Go.Proofs.YtmapagggnigfpaaGreat.pk
