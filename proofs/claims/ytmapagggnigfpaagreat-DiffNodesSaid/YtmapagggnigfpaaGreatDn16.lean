/- Joined: TrkE, TrkF, TrkG, TrkH, TrkW, TrkI, TrkJ, RefA, RefB, RefC, RefD, SzR, SzW, SzS, SrV, SrB, PkF, PkN, SrN. -/
import Derived.Test.YtmapagggnigfpaaGreatDn15
import Derived.Test.YtmapagggnigfpaaGreatProg
import Derived.KernelRfl
set_option linter.unusedVariables false
set_option linter.unusedSimpArgs false
namespace Go.Proofs.YtmapagggnigfpaaGreat.pk
open Cn Cn.Pk vc
theorem zY:AppT Tryz.prog 66 66 3 1 8:=AppT.of _ (by kernel_rfl)
def Qk(t b kb:Nat)(i:Int)(hZ:Hp)(K:KT):Prop :=
 (some (Addr.mk b 0 none)).isSome=true/\aN (some (Addr.mk b 0 none))=true/\aN (some (Addr.mk b 2 none))=true/\
 ∃(a:OA) (l c:Nat),(aN (some (Addr.mk b 4 none))=true/\hZ.cellsAt b 4 1=some [Value.slice a l c])/\(a.isSome=true/\bS i l)/\aN (some (Addr.mk (blk a) (aA (off a) i 33) none))=true/\
 ∃D:Nat->Int,(aN (some (Addr.mk (blk a) (cI (aA (off a) i 33) 1) none))=true/\hZ.cellsAt (blk a) (cI (aA (off a) i 33) 1) 32=some (aK .u8 32 D))/\
 C 106 [Value.pointer (some (Addr.mk t 0 none)),Value.pointer (some (Addr.mk kb 0 none)),Value.agg (Array.mk (aK .u8 32 D))] hZ fun(v:Value) (h':Hp) =>
  ∃n:Int,v=Value.int IntKind.i64 n/\K (Value.tuple (Array.mk [Value.pointer (some (Addr.mk kb 0 none)),Value.int IntKind.i64 n])) h'
theorem PJ{F:NP}{Inv:Hp->Prop}{sh:Nat}{src:Src}(so:SrcAt F Inv sh src){E:Hp}{t b O i:Nat}{p w dS ver:Int}{bQ:Nat}{aM:LU}{x:Plc}{N:NodeT}{SX SB:NP}{k:KidT}{wa wR wS:OA}{lw cw:Nat}{lo hi:Option BA}
  (wf:Wf E) (hI:Inv E) (ht:Blk E t (some t) (treeC sh p w bQ aM dS ver)) (hr:aM.length=32) (V:¬F t) (hw:w.toNat<=32) (sp:SpotS E SX b x N) (hk:N.ks[i]? = some k) (W:Blk E O (some O) [.slice wa lw cw,.int .u32 (k.page:Int),.slice none 0 0,.slice none 0 0,.slice none 0 0,.pointer wR,.pointer wS])
  (aa:BdP E SB wR lo) (ac:BdP E SB wS hi) (ad:∀g,SB g->g≠O/\¬F g/\g < E.next) (ae:t≠O) (af:¬F O) {K:KT}
  (hK:∀h':Hp,(∃a1 l1 c1 a2 l2 c2 a3 l3 c3,Blk h' O (some O) [.slice wa lw cw,.int .u32 (k.page:Int),.slice a1 l1 c1,.slice a2 l2 c2,.slice a3 l3 c3,.pointer wR,.pointer wS]/\
    (oU src p w lw k.page k.sum lo hi=0->NodeS h' (fun y=>E.next<=y/\y < h'.next) (.agg #[.slice a1 l1 c1,.slice a2 l2 c2,.slice a3 l3 c3]) (src k.page).2/\Short (src k.page).2))->Keep (fun y=>y=O\/F y) E h'->Inv h'->Wf h'->
   K (.tuple #[pt O,.int .i64 (oU src p w lw k.page k.sum lo hi)]) h'):Qk t b O (i:Int) E K:=by
 obtain⟨⟨aw,ak,a1,l1,c1,a2,l2,c2,a3,l3,c3,ai,aj,hb,_,⟨y1,m1,d1,y2,m2,d2,y3,m3,d3,e,⟨g1,q1,s1⟩,⟨g2,q2,s2⟩,⟨g3,q3,s3⟩⟩,_,_⟩,hs⟩:=sp;injection e with e
 simp only[Wc,Ur,Value.slice.injEq,and_true]at e;obtain⟨⟨rfl,rfl,rfl⟩,⟨rfl,rfl,rfl⟩,rfl,rfl,rfl⟩:=e;have al:i < l3:=by rw[<-s3.len];exact(Us.1 hk).1
 obtain⟨ha,G⟩:=s3.get dL hk (j:=1) (m:=32) (by omega);have ag:cI (aA (off a3) (i:Int) 33) 1=off a3+i * 33+1:=by unfold cI aA;rw[Uo]
 have U:((kidC k).drop 1).take 32=bc k.sum:=by
  unfold kidC;rw[WZ,Wt,VC,Uj (by rw[aJ,k.hs];exact Uf _)]
 rw[U]at G;refine⟨rfl,rfl,rfl,a3,l3,c3,⟨rfl,hb.one rfl⟩,⟨ha,Ui _,by omega⟩,rfl,cV k.sum,⟨rfl,by rw[ag,aH k.hs];exact G⟩,?_⟩;rw[aH k.hs];refine(TO so hI ht hr W k.hp aa ac ad ae V af k.hs hw).wf fun v h2 ah an ⟨e,hx,k2,I2⟩=>⟨_,e,hK h2 hx k2 I2 ah⟩
set_option maxRecDepth 20000 in
theorem UC{F:NP}{Inv:Hp->Prop}{sh:Nat}{src:Src}(so:SrcAt F Inv sh src){h:Hp}{t b i:Nat}{p w dS ver:Int}{bQ:Nat}{aM:LU}{x:Plc}{N:NodeT}{SX:NP}{k:KidT}
  (hI:Inv h) (ht:Blk h t (some t) (treeC sh p w bQ aM dS ver)) (hr:aM.length=32) (a8:¬F t) (hw:w.toNat<=32) (sp:SpotS h SX b x N) (hk:N.ks[i]? = some k) (cc:N.K.length+1=N.ks.length) (cd:x.way.length<=1000) (O:∀y,SX y->y < h.next/\¬F y) (ce:¬F b) (cf:x.no<=4294967295) :
  C 83 [pt t,pt b,.int .i64 (i:Int)] h fun v h'=>(∃kb:Nat,v = .tuple #[pt kb,.int .i64 (iW src p w (x.below N i k))]/\h.next<=kb/\kb < h'.next/\(iW src p w (x.below N i k)=0->SpotS h' (fun y=>SX y\/h.next<=y/\y < h'.next) kb (x.below N i k) (src k.page).2))/\Keep F h h'/\Inv h':=by
 refine sv Qv fun wf=>?_;have a9:=sp;obtain⟨⟨aw,cw,a1,l1,c1,a2,l2,c2,a3,l3,c3,wR,wS,hb,⟨gw,qw,sw⟩,⟨y1,m1,d1,y2,m2,d2,y3,m3,d3,e,⟨g1,q1,s1⟩,⟨g2,q2,s2⟩,⟨g3,q3,s3⟩⟩,ba,bf⟩,hs⟩:=sp;injection e with e
 simp only[Wc,Ur,Value.slice.injEq,and_true]at e;obtain⟨⟨rfl,rfl,rfl⟩,⟨rfl,rfl,rfl⟩,rfl,rfl,rfl⟩:=e;obtain⟨cg,ci,cj⟩:=hs;have ck:=s2.len;have cl:=s3.len;have cm:i < l3:=by rw[<-s3.len];exact(Us.1 hk).1
 have cn:=hb.glt wf;have co:=ht.glt wf;have aq:=so.lt hI wf;obtain⟨ha,ad⟩:=s3.get dL hk (j:=0) (m:=1) (by omega);have bg:aA (off a3) (i:Int) 33=off a3+i * 33+0:=by unfold aA;rw[Uo];omega
 have bh:((kidC k).drop 0).take 1=[.int .u32 (k.page:Int)]:=rfl;rw[bh]at ad;refine⟨rfl,rfl,rfl,a3,l3,c3,⟨rfl,hb.one rfl⟩,⟨ha,Ui _,by omega⟩,rfl,(k.page:Int),⟨rfl,by rw[bg];exact ad⟩,rfl,rfl,wR,⟨rfl,hb.one rfl⟩,rfl,rfl,wS,⟨rfl,hb.one rfl⟩,?_⟩;intro h1 e1;obtain⟨b1,k1,n1,bi⟩:=aB wf e1;have bj:=Kept.blk k1 hb;refine⟨rfl,rfl,none,0,0,⟨rfl,b1.one rfl⟩,rfl,rfl,aw,x.way.length,cw,⟨rfl,bj.one rfl⟩,?_⟩;intro h2 e2;obtain⟨b2,k2,n2,ar⟩:=aB bi e2;have au:=k1.trans wf k2 fF;have av:=sw.keep au fF;obtain⟨a4,h3,e3,ax,k3,bk⟩:=Bd.append ar zY (S:=fun y=>h2.next<=y) (fun y E=>E) (Bd.nil h2 1 _) (lR av.sl) av.sl.len (yU _) (bM (by omega));simp only[Nat.zero_add,VH]at e3 ax;have bl:=k3.blk b2 fun y E G=>by simp at E;omega
 have hd:dC 1 (.slice (some ⟨h1.next,0,none⟩) 1 1) h3=some (1,[.int .i64 (i:Int)]):=by
  simp only[dC,Nat.one_mul];rw[bl.cells (by simp)]
  rfl
 obtain⟨a5,h4,e4,bm,k4,ay⟩:=Bd.append bk zY (S:=fun y=>h2.next<=y) (fun y E=>by have:=k3.next;omega) ax hd rfl rfl (bM (by omega));have bn:=k4.blk (k3.blk (Kept.blk k2 b1) fun y E G=>by simp at E;omega) fun y E G=>by simp at E;omega
 obtain⟨h5,e5,b5,k5,n5,aa⟩:=bn.set (o:=0) (v:=.slice a5 (x.way.length+1) (x.way.length+1)) (by simp) rfl;have aa:=aa ay;have bo:Keep (fun y=>h2.next<=y) h2 h4:=k3.trans ar k4 fun y E G=>G;have az:Kept h h4:=au.trans wf bo fun y E G=>by omega
 have ac:Kept h h5:=az.trans wf k5 fun y E G=>by omega
 have b3:=az.next;have b4:=ac.next;have bp:Bd h5 1 (fun y=>h.next<=y/\y < h5.next/\y≠h.next) a5 (x.way.length+1) (x.way.length+1) ((x.way++[i]).flatMap intc):=by
  rw[VX];refine((bm.bound ay).keep k5 fun y E G=>by omega).mono fun y E=>?_
  omega
 refine⟨a4,_,_,h3,e3,a5,_,_,h4,e4,rfl,rfl,rfl,h5,e5,?_⟩;have fin:∀(hZ:Hp) (V W:OA),Wf hZ->Keep (· = h.next) h5 hZ->Blk hZ h.next (some h.next) [.slice a5 (x.way.length+1) (x.way.length+1),.int .u32 (k.page:Int),.slice none 0 0,.slice none 0 0,.slice none 0 0,.pointer V,.pointer W]->
   BdP hZ SX V (x.below N i k).lo->BdP hZ SX W (x.below N i k).hi->Qk t b h.next (i:Int) hZ fun v h'=>(∃kb:Nat,v = .tuple #[pt kb,.int .i64 (iW src p w (x.below N i k))]/\h.next<=kb/\kb < h'.next/\(iW src p w (x.below N i k)=0->SpotS h' (fun y=>SX y\/h.next<=y/\y < h'.next) kb (x.below N i k) (src k.page).2))/\Keep F h h'/\Inv h':=by
  intro hZ V W bq kZ bZ dl dh;have ae:Kept h hZ:=ac.trans wf kZ fun y E G=>by omega
  have b9:=ae.next;have ca:=kZ.next;refine PJ so bq (so.keep hI ae fF) (Kept.blk ae ht) hr a8 hw (a9.keep ae id fF) hk bZ dl dh (fun g hg=>⟨by have:=(O g hg).1;omega,(O g hg).2,by have:=(O g hg).1;omega⟩) (by omega) (fun G=>by have:=aq _ G;omega) ?_;intro h' ⟨z1,w1,v1,z2,w2,v2,z3,w3,v3,bb,hN⟩ kk I' br;have a0:iW src p w (x.below N i k)=oU src p w (x.way.length+1) k.page k.sum (x.below N i k).lo (x.below N i k).hi:=by unfold iW;congr 1;simp[Plc.below]
  have cp:=kk.next;refine⟨⟨h.next,by rw[a0],Uf _,bb.glt br,fun h0=>?_⟩,(ae.mono wf (S':=F) fun _ _ h=>h.elim).trans wf kk fun y E G=>by rcases G with h | h;omega;exact h,I'⟩;rw[a0]at h0;obtain⟨hN,hS⟩:=hN h0;have bt:=bp.keep kZ fun y E G=>by omega
  have bu:=bt.keep kk fun y E G=>by
   rcases G with h | h
   ·omega
   ·have:=aq y h;omega
  obtain⟨gg,bv,bw⟩:=bu.slT (L:=x.way++[i]) (enc:=intc) (by simp);refine⟨⟨a5,x.way.length+1,z1,w1,v1,z2,w2,v2,z3,w3,v3,V,W,?_,⟨gg,fun y E=>.inr (by have:=bv y E;omega),?_⟩,hN.mono fun y E=>.inr (by omega),?_,?_⟩,hS⟩
  ·have:(x.below N i k).way.length=x.way.length+1:=by simp[Plc.below]
   rw[this];exact bb
  ·have:(x.below N i k).way.length=x.way.length+1:=by simp[Plc.below]
   rw[this];exact bw
  ·exact(dl.keep kk fun y E G=>by rcases G with h | h;(have:=(O y E).1;omega);exact(O y E).2 h).mono fun _ h=>.inl h
  ·exact(dh.keep kk fun y E G=>by rcases G with h | h;(have:=(O y E).1;omega);exact(O y E).2 h).mono fun _ h=>.inl h
 have ag:=Kept.blk ac hb;have bx:=s2.keep ac fF;have ai:=ba.keep ac fF;have aj:=bf.keep ac fF;have sep:∀{hh:Hp} (j:Nat),Keep (· = h.next) h5 hh->j < N.K.length->BdP hh SX (some ⟨blk a2,aA (off a2) (j:Int) 1,none⟩) (some (N.K.getD j .empty)):=by
  intro hh j kk hj;have bz:=bx.keep kk fun y E G=>by have:=(O y (q2 y E)).1;omega
  refine SlT.bd bz q2 ?_;rw[Uz,Uh hj];rfl
 have ak:0 < l2->a2.isSome=true:=by
  intro hl;have hm:=s2.sl.mem
  cases a2 with
  | none=>omega
  | some a=>rfl
 by_cases h0:dB (i:Int) 0=true
 ·rw[if_pos h0];have al:0 < i:=by rw[aS]at h0;omega
  have a6:bB .i64 (i:Int) 1=((i - 1:Nat):Int):=by rw[bY (by omega) (by omega)];omega
  rw[a6];have af:(x.below N i k).lo=some (N.K.getD (i - 1) .empty):=by simp[Plc.below,al]
  obtain⟨h6,e6,b6,k6,n6,ah⟩:=b5.set (o:=5) (v:=.pointer (some ⟨blk a2,aA (off a2) ((i - 1:Nat):Int) 1,none⟩)) (by simp) rfl;have ah:=ah aa;have a7:=k6.blk ag fun y E G=>by simp at E;omega
  refine⟨rfl,rfl,rfl,a2,l2,c2,⟨rfl,ag.one rfl⟩,⟨ak (by omega),Ui _,by omega⟩,rfl,rfl,rfl,h6,e6,rfl,rfl,rfl,a2,l2,c2,⟨rfl,a7.one rfl⟩,?_⟩;by_cases h9:bO (i:Int) (aE l2)=true
  ·rw[if_pos h9];have an:i < l2:=by rw[aC,aF]at h9;omega
   have U:(x.below N i k).hi=some (N.K.getD i .empty):=by simp only[Plc.below];rw[if_pos (by omega)]
   obtain⟨h7,e7,b7,k7,n7,ao⟩:=b6.set (o:=6) (v:=.pointer (some ⟨blk a2,aA (off a2) (i:Int) 1,none⟩)) (by simp) rfl;have ap:=k6.trans aa k7 fF;refine⟨rfl,rfl,rfl,a2,l2,c2,⟨rfl,a7.one rfl⟩,⟨ak (by omega),Ui _,by omega⟩,rfl,rfl,rfl,h7,e7,?_⟩;exact fin h7 _ _ (ao ah) ap b7 (by rw[af];exact sep (i - 1) ap (by omega)) (by rw[U];exact sep i ap (by omega))
  ·rw[if_neg h9];have an:¬i < l2:=fun G=>h9 (by rw[aC,aF];omega);have U:(x.below N i k).hi=x.hi:=by simp only[Plc.below];rw[if_neg (by omega)]
   exact fin h6 _ _ ah k6 b6 (by rw[af];exact sep (i - 1) k6 (by omega)) (by rw[U];exact aj.keep k6 fun y E G=>by have:=(O y E).1;omega)
 ·rw[if_neg h0];have al:¬0 < i:=fun G=>h0 (by rw[aS];omega);have af:(x.below N i k).lo=x.lo:=by simp only[Plc.below];rw[if_neg al]
  refine⟨rfl,rfl,rfl,a2,l2,c2,⟨rfl,ag.one rfl⟩,?_⟩;by_cases h9:bO (i:Int) (aE l2)=true
  ·rw[if_pos h9];have an:i < l2:=by rw[aC,aF]at h9;omega
   have U:(x.below N i k).hi=some (N.K.getD i .empty):=by simp only[Plc.below];rw[if_pos (by omega)]
   obtain⟨h7,e7,b7,k7,n7,ao⟩:=b5.set (o:=6) (v:=.pointer (some ⟨blk a2,aA (off a2) (i:Int) 1,none⟩)) (by simp) rfl;refine⟨rfl,rfl,rfl,a2,l2,c2,⟨rfl,ag.one rfl⟩,⟨ak (by omega),Ui _,by omega⟩,rfl,rfl,rfl,h7,e7,?_⟩;exact fin h7 _ _ (ao aa) k7 b7 (by rw[af];exact ai.keep k7 fun y E G=>by have:=(O y E).1;omega) (by rw[U];exact sep i k7 (by omega))
  ·rw[if_neg h9];have an:¬i < l2:=fun G=>h9 (by rw[aC,aF];omega);have U:(x.below N i k).hi=x.hi:=by simp only[Plc.below];rw[if_neg (by omega)]
   exact fin h5 _ _ aa (Keep.refl _ _) b5 (by rw[af];exact ai) (by rw[U];exact aj)
def ToldS(h:Hp)(S:NP)(v:Value)(x:Plc)(N:NodeT):Prop :=
 ∃aw cw a1 l1 c1 a2 l2 c2 a3 l3 c3,v = .agg #[.slice aw x.way.length cw,.int .u32 (x.no:Int),.slice a1 l1 c1,.slice a2 l2 c2,.slice a3 l3 c3]/\
  (∃g:ON,(∀y,g=some y->S y)/\SlT intc 1 h g aw x.way.length cw x.way)/\NodeS h S (.agg #[.slice a1 l1 c1,.slice a2 l2 c2,.slice a3 l3 c3]) N
theorem TC{h:Hp}{b:Nat}{SX:NP}{x:Plc}{N:NodeT}(sp:SpotS h SX b x N)(au:x.way.length<=1000):C 82 [pt b] h fun v h'=>ToldS h' (fun y=>h.next<=y/\y < h'.next) v x N/\Kept h h':=by
 refine sv OI fun wf=>?_;obtain⟨⟨aw,cw,a1,l1,c1,a2,l2,c2,a3,l3,c3,wR,wS,hb,⟨gw,qw,sw⟩,hN,_,_⟩,hs⟩:=sp;intro h1 e1 h2 e2;obtain⟨b1,k1,n1,E⟩:=aB wf e1;have k2:Kept h1 h2:=(aB E e2).2.1;have av:Wf h2:=(aB E e2).2.2.2;have n2:=(aB E e2).2.2.1;have ac:=k1.trans wf k2 fF;have O:=Kept.blk ac hb;obtain⟨a4,c4,h3,e3,⟨a5,c5,ee,gg,aa,ad⟩,U,ae⟩:=rH zY (by omega) (fun x=>rfl) E e2 (sw.keep k1 fF) (by omega);injection ee with af ax ag
 subst af;subst ag;have V:=k1.trans wf U fF;have W:=Kept.blk V hb;refine⟨rfl,rfl,aw,_,cw,⟨rfl,O.one rfl⟩,rfl,rfl,(x.no:Int),⟨rfl,O.one rfl⟩,rfl,rfl,a1,l1,c1,a2,l2,c2,a3,l3,c3,⟨rfl,by rw[O.cells (by simp)];rfl⟩,a4,_,c4,h3,e3,⟨rfl,by rw[W.cells (by simp)];rfl⟩,⟨rfl,W.one rfl⟩,?_⟩;have ah:=hN.keep V fF;obtain⟨y1,m1,d1,y2,m2,d2,y3,m3,d3,e,z1,z2,z3⟩:=ah;have ai:NodeAt h3 h3.next (.agg #[.slice a1 l1 c1,.slice a2 l2 c2,.slice a3 l3 c3]) N:=by
  have bd:∀{α:Type} {enc:α->LV} {w:Nat} {a:OA} {l c:Nat} {L:List α},(∃g:ON,(∀x,g=some x->SX x)/\SlT enc w h3 g a l c L)->(∃g:ON,(∀x,g=some x->x < h3.next)/\SlT enc w h3 g a l c L):=by
   intro α enc w a l c L ⟨g,hg,s⟩;by_cases hl:0 < l
   ·refine⟨g,fun y G=>?_,s⟩;have hm:=s.sl.mem
    cases a with
    | none=>omega
    | some a =>
     obtain⟨bb,o,sp⟩:=a;obtain⟨_,hm⟩:=hm;obtain⟨CS,aj,_⟩:=hm hl;subst G;exact aj.glt ae
   ·have ak:l=0:=by omega
    subst ak;have hm:=s.sl.mem;refine⟨none,by simp,⟨s.sl.le,s.sl.len,?_⟩,s.len⟩
    cases a with
    | none=>exact hm
    | some a =>
     obtain⟨bb,o,sp⟩:=a;exact⟨hm.1,fun h=>by omega⟩
  exact⟨y1,m1,d1,y2,m2,d2,y3,m3,d3,e,bd z1,bd z2,bd z3⟩
 refine(Qg ai hs).wf fun v h4 ay az ⟨hC,k4⟩=>?_;have al:=hC;obtain⟨u1,v1,w1,u2,v2,w2,u3,v3,w3,ev,_⟩:=hC;subst ev;have an:=Kept.blk k4 W;have ao:=Kept.blk k4 (Kept.blk U b1);obtain⟨h5,e5,b5,k5,n5,a0⟩:=ao.store (o:=0) (vs:=[.slice a4 x.way.length c4,.int .u32 (x.no:Int),.slice u1 v1 w1,.slice u2 v2 w2,.slice u3 v3 w3]) (by simp) rfl;rw[aO (by rfl)]at b5;have ap:=U.next;have aq:=k5.next;have ar:=k4.next;refine⟨u1,v1,w1,u2,v2,w2,u3,v3,w3,rfl,⟨rfl,an.one rfl⟩,rfl,h5,e5,_,_,_,_,_,_,_,_,_,_,_,_,_,⟨rfl,by rw[b5.cells (by simp)];rfl⟩,⟨_,_,_,_,_,_,_,_,_,_,_,rfl,⟨gg,fun y G=>by have:=aa y G;omega,?_⟩,?_⟩,(V.trans wf k4 fF).trans wf k5 fun y G hc=>by omega⟩
 ·exact(ad.keep k4 fF).keep k5 fun y G hc=>by have:=aa y G;omega
 ·exact(al.keep k5 fun y G hc=>by omega).mono fun y G=>by omega
end Go.Proofs.YtmapagggnigfpaaGreat.pk
namespace Go.Cn.Pk
def dA{α β:Type}(f:α->List β×Int):List α->List β×Int
 | []=>([],0)
 | y::ys=>if(f y).2≠0 then f y else((f y).1++(dA f ys).1,(dA f ys).2)
def eW(x:Plc)(N:NodeT):List Plc:=N.ks.zipIdx.map fun y=>x.below N y.2 y.1
noncomputable def cW(src:Src)(p w:Int):Nat->Plc->List (Plc×NodeT)×Int
 | 0,_=>([],8)
 | n+1,x=>if iW src p w x≠0 then([],iW src p w x) else
  ((x,(src x.no).2)::(dA (cW src p w n) (eW x (src x.no).2)).1,(dA (cW src p w n) (eW x (src x.no).2)).2)
theorem yO{α β:Type}{f:α->List β×Int}:∀{L:List α} {i:Nat} {y:α},L[i]? = some y->(dA f (L.take i)).2=0->(f y).2=0->dA f (L.take (i+1))=((dA f (L.take i)).1++(f y).1,0)
 | [],i,y,h,h0,he=>by simp at h
 | z::L,0,y,h,h0,he=>by
  simp at h;subst h;simp[dA,he]
 | z::L,i+1,y,h,h0,he=>by
  rw[Vd]at h;simp only[Wa,dA]at h0 ⊢;by_cases E:(f z).2≠0
  ·rw[if_pos E]at h0;exact absurd h0 E
  ·rw[if_neg E]at h0 ⊢;rw[if_neg E];have:=yO h h0 he;rw[this];simp
theorem sO{α β:Type}{f:α->List β×Int}:∀{L:List α} {i:Nat} {y:α},L[i]? = some y->(dA f (L.take i)).2=0->(f y).2≠0->dA f L=((dA f (L.take i)).1++(f y).1,(f y).2)
 | [],i,y,h,h0,he=>by simp at h
 | z::L,0,y,h,h0,he=>by
  simp at h;subst h;simp[dA,he]
 | z::L,i+1,y,h,h0,he=>by
  rw[Vd]at h;simp only[Wa,dA]at h0 ⊢;by_cases E:(f z).2≠0
  ·rw[if_pos E]at h0;exact absurd h0 E
  ·rw[if_neg E]at h0 ⊢;rw[if_neg E];have:=sO h h0 he;rw[this];simp
theorem rB{src:Src}{p w:Int}{x:Plc}(h:iW src p w x=0):x.way.length < 33/\(src x.no).1=0/\qT p w x.sum x.lo x.hi (src x.no).2:=by
 unfold iW oU at h
 split at h
 ·omega
 ·split at h
  ·rename_i E;exact absurd h E
  ·split at h
   ·rename_i E G O;exact⟨by omega,by simpa using G,O⟩
   ·omega
theorem qT.seps{p w:Int}{sum:LU}{lo hi:Option BA}{N:NodeT}(h:qT p w sum lo hi N){i:Nat}{k:KidT}(G:N.ks[i]? = some k):N.K.length+1=N.ks.length:=by
 obtain⟨hm,_⟩:=h;obtain⟨_,E⟩:=hm.good;unfold cS at E;by_cases hl:N.leaf=true
 ·unfold NodeT.leaf at hl;simp only[Uw,List.isEmpty_iff]at hl;rw[hl.2]at G;simp at G
 ·rw[if_neg hl]at E;exact E.2.2.1
end Go.Cn.Pk
namespace Go.Proofs.YtmapagggnigfpaaGreat.pk
open Cn Cn.Pk vc
abbrev noSpot:Value:=.agg #[.slice none 0 0,.int .u32 0,.slice none 0 0,.slice none 0 0,.slice none 0 0]
structure YieldC(F:NP)(p w:Int)(l:Nat)(Q:NP->List (Plc×NodeT)->Hp->Prop)(Stop:Hp->Prop)(QF:List (Plc×NodeT)->Int->Hp->Prop):Prop where
 grow:∀{M:NP} {d:List (Plc×NodeT)} {h h':Hp},Q M d h->Wf h->Keep F h h'->Wf h'->Q (fun g=>M g\/h.next<=g/\g < h'.next) d h'
 less:∀{M M':NP} {d:List (Plc×NodeT)} {h:Hp},Q M d h->(∀g,M' g->M g)->Q M' d h
 spot:∀{M S:NP} {d:List (Plc×NodeT)} {h:Hp} {v:Value} {x:Plc} {N:NodeT},Q M d h->ToldS h S v x N->Short N->MayIs p w N 0->(∀g,S g->M g/\g < h.next)->C (yld Tryz.prog l) [v,.int .i64 0] h fun r h'=>(r = .bool true/\Q M (d++[(x,N)]) h'\/r = .bool false/\Stop h')/\Keep (fun g=>¬M g) h h'
 err:∀{M:NP} {d:List (Plc×NodeT)} {h:Hp} {e:Int},Q M d h->e≠0->C (yld Tryz.prog l) [noSpot,.int .i64 e] h fun r h'=>(∃b:Bool,r = .bool b)/\QF d e h'/\Keep (fun g=>¬M g) h h'
def UO(Q:NP->List (Plc×NodeT)->Hp->Prop)(Stop:Hp->Prop)(QF:List (Plc×NodeT)->Int->Hp->Prop)(M:NP)(d:List (Plc×NodeT))(r:List (Plc×NodeT)×Int)(v:Value)(h:Hp):Prop :=
 (v = .bool true/\r.2=0/\Q M (d++r.1) h)\/(v = .bool false/\(Stop h\/(r.2≠0/\QF (d++r.1) r.2 h)))
set_option maxRecDepth 20000 in
theorem Rr{F:NP}{Inv:Hp->Prop}{sh:Nat}{src:Src}(so:SrcAt F Inv sh src){p w:Int}{l:Nat}{Q:NP->List (Plc×NodeT)->Hp->Prop}{Stop:Hp->Prop}{QF:List (Plc×NodeT)->Int->Hp->Prop}(yc:YieldC F p w l Q Stop QF)
  {t yb tb ab:Nat} {dS ver:Int} {bQ:Nat} {aM:LU} (hr:aM.length=32) (hw:w.toNat<=32) (hF:¬F t/\¬F yb/\¬F tb/\¬F ab) :
  ∀(n:Nat) {x:Plc} {b:Nat} {h:Hp} {SX M:NP} {d:List (Plc×NodeT)},33<=n+x.way.length->x.no<=4294967295->Inv h->Q M d h->
   Blk h t (some t) (treeC sh p w bQ aM dS ver)->Blk h yb (some yb) [.func (.yield l) #[] #[]]->Blk h tb (some tb) [.pointer (some ⟨t,0,none⟩)]->Blk h ab (some ab) [.func (.func 81) #[] #[pt yb,pt tb,pt ab]]->
   (∀g,F g->M g)->(M t/\M yb/\M tb/\M ab)->(iW src p w x=0->SpotS h SX b x (src x.no).2/\M b/\¬F b/\∀g,SX g->g < h.next/\M g/\¬F g)->
   C 81 [pt b,.int .i64 (iW src p w x),pt yb,pt tb,pt ab] h fun v h'=>UO Q Stop QF M d (cW src p w n x) v h'/\Keep (fun g=>F g\/¬M g) h h'/\Inv h':=by
 obtain⟨ah,a4,ag,ai⟩:=hF;intro n
 induction n with
 | zero =>
  intro x b h SX M d hn ao hI hQ ht O aj ha ac ⟨ae,ak,aa,af⟩ ap;have hE:iW src p w x=8:=by unfold iW oU;rw[if_pos (by omega)]
  rw[hE];refine sv DH fun wf=>?_;rw[if_pos (by simp[cP])];refine⟨l,⟨rfl,O.one rfl⟩,(yc.err hQ (by decide)).mono fun v h' ⟨⟨U,e⟩,he,k⟩=>⟨U,e,?_,k.mono wf (fun g _ G=>.inr G),so.keep hI k fun g G E=>E (ac g G)⟩⟩;exact .inr ⟨rfl,.inr ⟨by show(8:Int)≠0;decide,by simpa[cW]using he⟩⟩
 | succ n ih =>
  intro x b h SX M d hn ao hI hQ ht O aj ha ac ⟨ae,ak,aa,af⟩ ap;refine sv DH fun wf=>?_;by_cases hE:iW src p w x=0
  ·rw[if_neg (by simp[cP,hE])];obtain⟨sp,a5,aq,ad⟩:=ap hE;obtain⟨bp,bo,hH⟩:=rB hE;have al:cW src p w (n+1) x=((x,(src x.no).2)::(dA (cW src p w n) (eW x (src x.no).2)).1,(dA (cW src p w n) (eW x (src x.no).2)).2):=by
    unfold cW;rw[if_neg (by simp[hE])]
   rw[al];generalize bq:(src x.no).2=N at sp hH ⊢;have hs:=sp.short;refine⟨l,⟨rfl,O.one rfl⟩,(TC sp (by omega)).wf fun v h1 a6 br ⟨hT,k1⟩=>?_⟩;have a7:=hT;obtain⟨aw,cw,a1,l1,c1,a2,l2,c2,a3,l3,c3,ev,_⟩:=hT;subst ev;refine⟨aw,_,cw,(x.no:Int),a1,l1,c1,a2,l2,c2,a3,l3,c3,rfl,⟨rfl,(Kept.blk k1 O).one rfl⟩,?_⟩;have Q1:=yc.grow hQ wf (k1.mono wf (S':=F) fun _ _ h=>h.elim) a6;refine(yc.spot Q1 a7 hs hH.1 fun g G=>⟨.inr G,G.2⟩).wf fun v h2 a8 bt ⟨V,k2⟩=>?_;have kW:∀{W:Hp},Keep (fun g=>¬(M g\/h.next<=g/\g < h1.next)) h1 W->Keep (fun g=>F g\/¬M g) h W:=fun k=>(k1.mono wf (S':=fun g=>F g\/¬M g) fun _ _ h=>h.elim).trans wf k fun g G E=>.inr fun hM=>E (.inl hM);have I2:Inv h2:=so.keep (so.keep hI k1 fF) k2 fun g G E=>E (.inl (ac g G));have stay:∀{W:Hp} {U:Nat} {cs:LV},Keep (fun g=>F g\/¬M g) h W->¬F U->M U->Blk h U (some U) cs->Blk W U (some U) cs:=fun k hf hm hb=>k.blk hb fun y O E=>by
    simp at O;subst O;rcases E with E | E
    ·exact hf E
    ·exact E hm
   have ar:∀{W:Hp},Keep (fun g=>F g\/¬M g) h W->SpotS W SX b x N:=fun k=>sp.keep k (fun E=>by rcases E with E | E;exact aq E;exact E a5) fun y O E=>by rcases E with E | E;exact(ad y O).2.2 E;exact E (ad y O).2.1
   rcases V with ⟨e,a9⟩ | ⟨e,dN⟩
   ·refine⟨true,e,?_⟩;rw[if_neg (by simp[aD])];have Q2:=yc.less a9 (M':=M) fun g G=>.inl G;have ba:=ar (kW k2);obtain⟨⟨bu,bv,b1,m1,d1,b2,m2,d2,b3,m3,d3,wR,wS,bf,_,bg,_,_⟩,_⟩:=ba;have au:N.ks.length=m3:=by
     obtain⟨_,_,_,_,_,_,_,_,_,ee,_,_,⟨_,_,u3⟩⟩:=bg;injection ee with ee
     simp only[Wc,Ur,Value.slice.injEq,and_true]at ee;obtain⟨_,_,_,r3,_⟩:=ee;rw[u3.len,r3]
    have bw:(eW x N).length=m3:=by unfold eW;simp[au]
    refine⟨rfl,rfl,rfl,b3,m3,d3,⟨rfl,bf.one rfl⟩,?_⟩;refine⟨fun vals m W=>∃i:Nat,[.int .i64 (i:Int)]=vals/\m=m3 - i/\i<=m3/\(dA (cW src p w n) ((eW x N).take i)).2=0/\Q M (d++(x,N)::(dA (cW src p w n) ((eW x N).take i)).1) W/\Keep (fun g=>F g\/¬M g) h W/\Inv W/\Wf W,
     ⟨m3,0,rfl,rfl,Uk _,rfl,Q2,kW k2,I2,a8⟩,?_⟩
    rintro n1 m W ⟨i,e,rfl,hi,h0,an,kh,Ih,av⟩;simp only[Ur,Value.int.injEq,true_and,and_true]at e;subst e;by_cases E:bO (i:Int) (aE m3)=true
    ·rw[if_pos E];have ax:i < m3:=by rw[aC,aF]at E;omega
     have eb:N.ks[i]? = some (N.ks[i]'(by omega)):=Uh _;generalize N.ks[i]'(by omega)=k at eb;have es:(eW x N)[i]? = some (x.below N i k):=by
      unfold eW;rw[VB,List.getElem?_zipIdx,eb];simp
     have bx:=kh.next;refine⟨some ⟨t,0,none⟩,⟨rfl,(stay kh ag aa aj).one rfl⟩,?_⟩;refine(UC so Ih (stay kh ah ae ht) hr ah hw (ar kh) eb (hH.seps eb) (by omega) (fun y O=>⟨by have:=(ad y O).1;omega,(ad y O).2.2⟩) aq ao).wf fun v h3 bh bz ⟨⟨kb,e,bi,bj,bk⟩,k3,I3⟩=>?_;refine⟨some ⟨kb,0,none⟩,_,e,[pt yb,pt tb,pt ab],⟨rfl,(k3.blk (stay kh ai af ha) fun y O E=>by simp at O;subst O;exact ai E).one rfl⟩,?_⟩;have ay:=so.lt Ih av;have Q3:=yc.grow an av k3 bh;have kp:∀{U:Nat} {cs:LV},¬F U->M U->Blk h U (some U) cs->Blk h3 U (some U) cs:=fun hf hm hb=>k3.blk (stay kh hf hm hb) fun y O E=>by simp at O;subst O;exact hf E
     refine(ih (x:=x.below N i k) (b:=kb) (SX:=fun y=>SX y\/W.next<=y/\y < h3.next) (by simp[Plc.below];omega) k.hp I3 Q3 (kp ah ae ht) (kp a4 ak O) (kp ag aa aj) (kp ai af ha) (fun g G=>.inl (ac g G)) ⟨.inl ae,.inl ak,.inl aa,.inl af⟩ ?_).wf fun v h4 bl b4 ⟨V,k4,I4⟩=>?_
     ·intro hz;refine⟨bk hz,.inr ⟨bi,bj⟩,fun E=>by have:=ay _ E;omega,?_⟩;rintro g (G | G)
      ·have:=ad g G;exact⟨by omega,.inl this.2.1,this.2.2⟩
      ·exact⟨G.2,.inr G,fun E=>by have:=ay _ E;omega⟩
     ·have az:Keep (fun g=>F g\/¬M g) h h4:=(kh.trans wf k3 fun g G E=>.inl E).trans wf k4 fun g G E=>by
       rcases E with E | E
       ·exact .inl E
       ·exact .inr fun hM=>E (.inl hM)
      rcases V with ⟨e,bm,bn⟩ | ⟨e,V⟩
      ·refine⟨true,e,?_⟩;rw[if_neg (by simp[aD])];have dN:=yO es h0 bm;refine⟨m3 - (i+1),by simp only[aI];omega,i+1,?_,rfl,by omega,by rw[dN],?_,az,I4,bl⟩
       ·have:m3<=1073741824:=by rw[<-au];exact hs.2.2
        rw[show aG .i64 (i:Int) 1=_ from cN 1 i (by omega)]
       ·rw[dN];have:=yc.less bn (M':=M) fun g G=>.inl G;simpa using this
      ·refine⟨false,e,?_⟩;rw[if_pos (by rfl)];refine⟨.inr ⟨rfl,?_⟩,az,I4⟩;rcases V with dN | ⟨a0,he⟩
       ·exact .inl dN
       ·have dN:=sO es h0 a0;refine .inr ⟨by rw[dN];exact a0,?_⟩;rw[dN];simpa using he
    ·rw[if_neg E];have ax:i=m3:=by
      have:¬i < m3:=fun h=>E (by rw[aC,aF];omega)
      omega
     subst ax;rw[Uj (by omega)]at h0 an;exact⟨.inl ⟨rfl,h0,an⟩,kh,Ih⟩
   ·refine⟨false,e,?_⟩;rw[if_pos (by rfl)];exact⟨.inr ⟨rfl,.inl dN⟩,kW k2,I2⟩
  ·rw[if_pos (by simp[cP,hE])];refine⟨l,⟨rfl,O.one rfl⟩,(yc.err hQ hE).mono fun v h' ⟨⟨U,e⟩,he,k⟩=>⟨U,e,?_,k.mono wf (fun g _ G=>.inr G),so.keep hI k fun g G E=>E (ac g G)⟩⟩;have al:cW src p w (n+1) x=([],iW src p w x):=by unfold cW;rw[if_pos hE]
   rw[al];exact .inr ⟨rfl,.inr ⟨hE,by simpa using he⟩⟩
end Go.Proofs.YtmapagggnigfpaaGreat.pk
namespace Go.Cn.Pk
noncomputable def cZ(src:Src)(p w:Int)(bQ:Nat)(aM:LU):List (Plc×NodeT)×Int :=
 if bQ=0 then([],0) else cW src p w 33 (Go.Proofs.YtmapagggnigfpaaGreat.pk.topP bQ aM)
end Go.Cn.Pk
namespace Go.Proofs.YtmapagggnigfpaaGreat.pk
open Cn Cn.Pk vc
theorem Nh{h:Hp}{t sh:Nat}{p w dS ver:Int}{bQ:Nat}{aM:LU}(E:Blk h t (some t) (treeC sh p w bQ aM dS ver))(hr:aM.length=32):C 60 [pt t] h fun v h'=>v = .bool false/\h'=h:=by
 refine sv Kv fun wf=>?_;refine⟨fun _=>rfl,fun _=>rfl,some ⟨sh,0,none⟩,fun _=>⟨rfl,by rw[E.cells (by rw[lO hr];omega)];rfl⟩,fun _=>trivial,rfl,rfl⟩
set_option maxRecDepth 20000 in
theorem Rs{F:NP}{Inv:Hp->Prop}{sh:Nat}{src:Src}(so:SrcAt F Inv sh src){p w:Int}{l:Nat}{Q:NP->List (Plc×NodeT)->Hp->Prop}{Stop:Hp->Prop}{QF:List (Plc×NodeT)->Int->Hp->Prop}(yc:YieldC F p w l Q Stop QF)
  {h:Hp} {t tb:Nat} {dS ver:Int} {bQ:Nat} {aM:LU} {M:NP} (hr:aM.length=32) (ae:bQ<=4294967295) (hw:w.toNat<=32) (hF:¬F t/\¬F tb) (hI:Inv h) (hQ:Q M [] h)
  (ht:Blk h t (some t) (treeC sh p w bQ aM dS ver)) (af:Blk h tb (some tb) [.pointer (some ⟨t,0,none⟩)]) (an:∀g,F g->M g) (hM:M t/\M tb) :
  C 80 [.func (.yield l) #[] #[],pt tb] h fun v h'=>(v = .tuple #[]/\((cZ src p w bQ aM).2=0/\Q M (cZ src p w bQ aM).1 h'\/Stop h'\/(cZ src p w bQ aM).2≠0/\QF (cZ src p w bQ aM).1 (cZ src p w bQ aM).2 h'))/\Keep (fun g=>F g\/¬M g) h h'/\Inv h':=by
 obtain⟨aa,W⟩:=hF;obtain⟨ao,ag⟩:=hM;refine sv Ku fun wf=>?_;have ap:=lO (sh:=sh) (p:=p) (w:=w) (bQ:=bQ) (dS:=dS) (ver:=ver) hr;have aq:=so.lt hI wf;have a7:=ht.glt wf;have a4:=af.glt wf;intro h1 e1;obtain⟨b1,k1,n1,ac⟩:=aB wf e1;have t1:=Kept.blk k1 ht;have ad:=Kept.blk k1 af;refine⟨some ⟨t,0,none⟩,⟨rfl,ad.one rfl⟩,?_⟩;refine(Nh t1 hr).mono fun v h' ⟨e,eh⟩=>⟨_,e,?_⟩;subst eh;refine⟨some ⟨t,0,none⟩,fun _=>⟨rfl,ad.one rfl⟩,fun _=>rfl,fun _=>rfl,fun _=>rfl,(bQ:Int),fun _=>⟨rfl,by
  show h'.cellsAt t (cI 0 3) 1=_;rw[show cI 0 3=3 from rfl,t1.cells (by rw[ap];omega)];rfl⟩,?_⟩
 have Q1:=yc.grow hQ wf (k1.mono wf (S':=F) fun _ _ h=>h.elim) ac;have I1:=so.keep hI k1 fF;by_cases h0:bQ=0
 ·rw[if_pos (by rw[cG,aV];right;omega)];have hT:cZ src p w bQ aM=([],0):=by unfold cZ;rw[if_pos h0]
  rw[hT];exact⟨⟨rfl,.inl ⟨rfl,yc.less Q1 fun g U=>.inl U⟩⟩,k1.mono wf (S':=fun g=>F g\/¬M g) fun _ _ h=>h.elim,I1⟩
 ·rw[if_neg (by rw[cG,aV];rintro(h | h);exact absurd h (by simp);omega)];have hT:cZ src p w bQ aM=cW src p w 33 (topP bQ aM):=by unfold cZ;rw[if_neg h0]
  rw[hT];intro h2 e2;obtain⟨b2,k2,n2,ar⟩:=aB ac e2;obtain⟨h3,e3,b3,k3,n3,ah⟩:=b2.set (o:=0) (v:=.func (.func 81) #[] #[pt h.next,pt tb,pt h'.next]) (by simp) rfl;have ah:=ah ar;have G:Kept h' h3:=k2.trans ac k3 fun y hy V=>by omega
  have ai:Kept h h3:=k1.trans wf G fF;have t3:=Kept.blk G t1;have aj:=Kept.blk G ad;have y3:=Kept.blk G b1;have I3:=so.keep I1 G fF;have a8:=so.lt hI wf;refine⟨rfl,h3,e3,some ⟨t,0,none⟩,⟨rfl,aj.one rfl⟩,?_⟩;refine(UA so I3 t3 hr ae aa hw).wf fun v h4 au a9 ⟨⟨kb,e,ba,av,ax⟩,k4,I4⟩=>?_;have nF:∀g,h.next<=g->¬F g:=fun g U V=>by have:=aq g V;omega
  have a5:=ai.next;have a6:=G.next;have E:∀{bb:Nat} {cs:LV},¬F bb->Blk h3 bb (some bb) cs->Blk h4 bb (some bb) cs:=fun hf hb=>k4.blk hb fun y hy V=>by simp at hy;subst hy;exact hf V
  have b4:=E (nF _ (by omega)) b3;have y4:=E (nF _ (Uf _)) y3;refine⟨some ⟨kb,0,none⟩,_,e,[pt h.next,pt tb,pt h'.next],⟨rfl,b4.one rfl⟩,?_⟩;have ak:Keep F h h4:=(ai.mono wf (S':=F) fun _ _ h=>h.elim).trans wf k4 fF;have Q4:=yc.grow hQ wf ak au;refine(Rr so yc hr hw ⟨aa,nF _ (Uf _),W,nF _ (by omega)⟩ 33 (x:=topP bQ aM) (b:=kb) (SX:=fun y=>h3.next<=y/\y < h4.next) (M:=fun g=>M g\/h.next<=g/\g < h4.next) (d:=[]) (by simp[topP]) ae I4 Q4 (E aa t3) y4 (E W aj) b4 (fun g U=>.inl (an g U))
   ⟨.inl ao,.inr ⟨Uf _,by omega⟩,.inl ag,.inr ⟨by omega,by omega⟩⟩ ?_).wf fun v h5 bf bg ⟨O,k5,I5⟩=>?_
  ·intro hz;exact⟨ax hz,.inr ⟨by omega,av⟩,nF _ (by omega),fun g U=>⟨U.2,.inr ⟨by omega,U.2⟩,nF _ (by omega)⟩⟩
  ·have al:Keep (fun g=>F g\/¬M g) h h5:=(ak.mono wf (S':=fun g=>F g\/¬M g) fun _ _ h=>.inl h).trans wf k5 fun g U V=>by
    rcases V with V | V
    ·exact .inl V
    ·exact .inr fun hM=>V (.inl hM)
   rcases O with ⟨e,ay,az⟩ | ⟨e,O⟩
   ·exact⟨true,e,⟨rfl,.inl ⟨ay,by simpa using yc.less az (M':=M) fun g U=>.inl U⟩⟩,al,I5⟩
   ·refine⟨false,e,⟨rfl,.inr ?_⟩,al,I5⟩;rcases O with dN | ⟨a0,he⟩
    ·exact .inl dN
    ·exact .inr ⟨a0,by simpa using he⟩
theorem TA(t:Nat)(h:Hp):C 54 [pt t] h fun v h'=>v = .func (.func 80) #[] #[pt h.next]/\Blk h' h.next (some h.next) [.pointer (some ⟨t,0,none⟩)]/\Kept h h':=by
 refine sv OH fun wf=>?_;intro O e1;obtain⟨b1,E,n1,G⟩:=aB wf e1;exact⟨rfl,b1,E⟩
end Go.Proofs.YtmapagggnigfpaaGreat.pk
set_option maxRecDepth 100000
set_option maxHeartbeats 4000000
namespace Go.Proofs.YtmapagggnigfpaaGreat.vc
open Cn
open Value (int bool string slice pointer agg tuple)
variable {C:CT} {h:Hp} {K:KT}
def Ua:FuncId->Bool:=fun f=>f==86||f==47
theorem JG{p w:Int}:vX C Tryz.prog Ua eE Tryz.f48 [agg (Array.mk [int .i64 p,int .i64 w])] h K=(∀a,a=h.alloc [int .i64 p,int .i64 w] 23->∀b,b=a.alloc fH 41->∃n d,(rD b h.next 0 2 [int .i64 n,int .i64 d])/\C 55 [agg #[int .i64 n,int .i64 d],agg #[nS,nS,nS]] b fun v e=>∃D n,v=tuple #[agg (Array.mk ((aK .u8 32 D))),int .i64 n]/\pA a.next 0/\∃c,e.store a.next 0 ((aK .u8 32 D))=some c/\∃D,(rD c a.next 0 32 ((aK .u8 32 D)))/\K (tuple #[agg (Array.mk ((aK .u8 32 D))),int .i64 n]) c):=by kernel_rfl
end Go.Proofs.YtmapagggnigfpaaGreat.vc
namespace Go.Cn.Pk
def kA:NodeT:=⟨[],[],[]⟩
theorem Hx{p w:Int}(h:Fr p w):MayIs p w kA 0:=by
 refine .inr (.inr ⟨h,?_,?_,rfl⟩)
 ·unfold cS;rw[if_pos (show kA.leaf=true from rfl)];refine⟨fun i s hs=>by simp[kA]at hs,?_⟩;rintro⟨q,E,_⟩;simp[kA]at E
 ·have:gK w kA=2:=by
   unfold gK;rw[if_pos (show kA.leaf=true from rfl)];show 1+iX 0+0=2;rw[Cg (by omega)]
  rw[this];have:=h.ge
  omega
theorem MV(h:Hp)(n:Nat):NodeAt h n (.agg #[.slice none 0 0,.slice none 0 0,.slice none 0 0]) kA :=
 ⟨_,_,_,_,_,_,_,_,_,rfl,⟨none,by simp,Sl.nil _ _ _,rfl⟩,⟨none,by simp,Sl.nil _ _ _,rfl⟩,⟨none,by simp,Sl.nil _ _ _,rfl⟩⟩
def Bb(p w:Int)(bQ:Nat)(aM:LU)(dS:Int):Prop :=
 Fr p w/\dX w.toNat aM=aM/\(bQ=0↔dS=0)/\(bQ=0->aM=Go.Proofs.YtmapagggnigfpaaGreat.pk.sumN w kA)
theorem xJ{n:Nat}{d:LU}(G:d.length=32)(O:n<=32):dX n d=d↔∀j,j < 32 - n->d[n+j]? = some 0:=by
 unfold dX
 constructor
 ·intro h j U;rw[<-h,VN (by rw[Uq];omega),Uq,Wm,if_pos (by omega)]
 ·intro h;apply Vi;intro i;by_cases hi:i < n
  ·rw[VQ (by rw[Uq];omega),VZ,if_pos hi]
  ·rw[VN (by rw[Uq];omega),Uq,Wm];by_cases E:i < 32
   ·rw[if_pos (by omega)];have:=h (i - n) (by omega);rw[show n+(i - n)=i by omega]at this;exact this.symm
   ·rw[if_neg (by omega),VI (by omega)]
end Go.Cn.Pk
namespace Go.Proofs.YtmapagggnigfpaaGreat.pk
open Cn Cn.Pk vc
theorem Pp(p w:Int)(hF:Fr p w)(h:Hp):C 48 [fr p w] h fun v h'=>v = .tuple #[.agg (bc (sumN w kA)).toArray,.int .i64 0]/\Kept h h':=by
 refine sv JG fun wf=>?_;intro h1 e1 h2 e2;rw[dU]at e2;obtain⟨b1,k1,n1,E⟩:=aB wf e1;obtain⟨b2,k2,n2,aa⟩:=aB E e2;have G:=k1.trans wf k2 fF;refine⟨p,w,⟨rfl,by rw[(Kept.blk k2 b1).cells (by simp)];rfl⟩,?_⟩;refine(Nk (MV h2 h2.next) (Uf _) p w (by simp[kA]) (by simp[kA]) (by simp[kA])).wf fun v h3 O ac ⟨⟨d,D,e,hm,U,ad⟩,k3⟩=>?_;have hd:d=0:=hm.uniq (Hx hF);subst hd;have V:=U rfl;subst V;have hl:(sumN w kA).length=32:=gA (by obtain⟨_,_,_⟩:=hF;omega) _;have W:=Kept.blk k3 b2;obtain⟨h4,e4,b4,k4,_,n4,ae⟩:=bP O (vs:=bc (sumN w kA)) W (G.trans wf k3 fF) wf (by omega) (by rw[aJ,aJ,hl];rfl) (aZ _);refine⟨cV (sumN w kA),0,by rw[aH hl];exact e,rfl,h4,by rw[aH hl];exact e4,cV (sumN w kA),⟨rfl,cH b4 hl⟩,?_,k4⟩;rw[aH hl]
abbrev lD(bQ:Nat)(aM:LU)(dS ver:Int):LV:=[.int .u32 (bQ:Int)]++bc aM++[.int .u64 dS,.int .u64 ver]
theorem eO{bQ:Nat}{aM:LU}{dS ver:Int}(hr:aM.length=32):(lD bQ aM dS ver).length=35:=by
 simp only[Ug,aJ,hr,Ux,Vl]
theorem Dt{h:Hp}{b bQ:Nat}{aM:LU}{dS ver:Int}{g:ON}(hb:Blk h b g (lD bQ aM dS ver))(hr:aM.length=32):h.cellsAt b 1 32=some (aK .u8 32 (cV aM)):=by
 rw[hb.cells (by rw[eO hr];omega),aH hr];show some ((([.int .u32 (bQ:Int)]++bc aM++[.int .u64 dS,.int .u64 ver]:LV).drop 1).take 32)=_;rw[Ut,Vy (by simp),VV (by simp),VH,Vz (by rw[aJ,hr];exact Uf _),Uj (by rw[aJ,hr];exact Uf _)]
theorem Ao{h:Hp}{b bQ:Nat}{aM:LU}{dS ver:Int}{g:ON}(hb:Blk h b g (lD bQ aM dS ver))(hr:aM.length=32){j:Nat}{u:UInt8}(hu:aM[j]? = some u):h.cellsAt b (1+j) 1=some [.int .u8 (u.toNat:Int)]:=by
 have E:j < 32:=by rw[<-hr];exact(Us.1 hu).1
 refine hb.one ?_;show([.int .u32 (bQ:Int)]++bc aM++[.int .u64 dS,.int .u64 ver]:LV)[1+j]? = _;rw[Ut,VN (by simp),VQ (by rw[aJ,hr];simp;omega),eU,VB];simp only[Ux,Vl];rw[show 1+j - (0+1)=j by omega,hu]
 rfl
set_option maxRecDepth 20000 in
theorem TD{T sh bQ:Nat}{p w dS ver:Int}{aM:LU}(hr:aM.length=32)(h:Hp):
  C 24 [fr p w,.iface T (.pointer (some ⟨sh,0,none⟩)),.agg (lD bQ aM dS ver).toArray] h fun v h' =>
   ((¬Bb p w bQ aM dS/\v = .tuple #[.pointer none,.int .i64 2])\/(Bb p w bQ aM dS/\∃t:Nat,v = .tuple #[pt t,.int .i64 0]/\h.next<=t/\t < h'.next/\Blk h' t (some t) ([.iface T (.pointer (some ⟨sh,0,none⟩)),.int .i64 p,.int .i64 w,.int .u32 (bQ:Int)]++bc aM++[.int .u64 dS,.int .u64 ver])))/\Kept h h':=by
 unfold lD;rw[<-aH hr];refine sv OJ fun wf=>?_;intro h1 e1 h2 e2;rw[aH hr]at e2;obtain⟨b1,k1,n1,al⟩:=aB wf e1;obtain⟨b2,k2,n2,an⟩:=aB al e2;have b2:Blk h2 h1.next (some h1.next) (lD bQ aM dS ver):=b2;have ag:=k1.trans wf k2 fF;have ac:=Kept.blk k2 b1;have ad:∀{hh:Hp},Blk hh h.next (some h.next) [.int .i64 p,.int .i64 w]->hh.cellsAt h.next 0 2=some [.int .i64 p,.int .i64 w]:=fun hb=>by rw[hb.cells (by simp)];rfl
 refine⟨p,w,⟨rfl,ad ac⟩,?_⟩;refine(zS p w h2).mono fun v h' ⟨e,eh⟩=>⟨_,e,?_⟩;subst eh;by_cases hF:Fr p w
 ·rw[if_neg (by simp[aD,hF])];refine⟨trivial,?_⟩;rw[if_neg (by simp[iR])];refine⟨p,w,⟨rfl,ad ac⟩,?_⟩;refine(Pp p w hF h').wf fun v h3 ah av ⟨e,k3⟩=>?_;obtain⟨ax,ay,az,a0,O⟩:=hF.nat;have hl:(sumN w kA).length=32:=gA O _;refine⟨cV (sumN w kA),0,by rw[aH hl];exact e,?_⟩;intro h4 e4;rw[dU]at e4;obtain⟨b4,k4,n4,ao⟩:=aB ah e4;obtain⟨h5,e5,b5,k5,n5,ae⟩:=b4.store (o:=0) (vs:=bc (sumN w kA)) (by rw[aJ,aJ,hl,bI];exact Uf _) (aZ _);rw[aO (by rw[aJ,aJ,hl,bI])]at b5;have ae:=ae ao;have ap:Kept h3 h5:=k4.trans ah k5 fun y hy E=>by omega
  have af:Kept h' h5:=k3.trans an ap fF;have W:=ag.trans wf af fF;have ai:=Kept.blk af ac;have G:=Kept.blk af b2;have aq:aE (dO (aE 32) w)=((32 - w.toNat:Nat):Int):=by
   unfold dO aE;rfl
  refine⟨rfl,h5,by rw[aH hl];exact e5,rfl,rfl,w,⟨rfl,ai.one rfl⟩,⟨by simp only[jO,aF];omega,rfl⟩,?_⟩;refine⟨fun vals m hh=>∃j:Nat,[.int .i64 (j:Int)]=vals/\m=32 - w.toNat - j/\j<=32 - w.toNat/\(∀i,i < j->aM[w.toNat+i]? = some 0)/\hh=h5,⟨_,0,rfl,rfl,Uk _,fun i hi=>by omega,rfl⟩,?_⟩;rintro n m hh ⟨j,e,rfl,hj,hz,rfl⟩;simp only[Ur,Value.int.injEq,true_and,and_true]at e;subst e;rw[aq];by_cases E:bO (j:Int) ((32 - w.toNat:Nat):Int)=true
  ·rw[if_pos E];have aj:j < 32 - w.toNat:=by rw[aC]at E;omega
   obtain⟨u,hu⟩:∃u,aM[w.toNat+j]? = some u:=⟨_,Uh (by omega)⟩;refine⟨⟨rfl,Ui _,by unfold dO aE;show(j:Int) < ((32 - w.toNat:Nat):Int);omega⟩,(u.toNat:Int),⟨rfl,?_⟩,?_⟩
   ·have:aA (off (vN w 1 (some (Addr.mk h1.next 1 none)))) (j:Int) 1=1+(w.toNat+j):=by
     unfold aA vN off;simp only[Uv];rw[Uo]
     omega
    rw[this];exact Ao G hr hu
   ·by_cases aa:cP (u.toNat:Int) 0=true
    ·rw[if_pos aa];refine⟨.inl ⟨fun U=>?_,rfl⟩,W⟩;have:=(xJ hr O).1 U.2.1 j aj;rw[hu]at this;simp only[Um]at this;subst this;simp[cP]at aa
    ·rw[if_neg aa];have ar:u=0:=by
      have:u.toNat=0:=by
       have:¬((u.toNat:Int)≠0):=fun h=>aa (by unfold cP;simpa using h)
       omega
      exact Wn.1 this
     refine⟨32 - w.toNat - (j+1),by simp only[aI];omega,j+1,?_,rfl,by omega,fun i hi=>?_,rfl⟩
     ·rw[show aG .i64 (j:Int) 1=_ from cN 1 j (by omega)]
     ·by_cases au:i=j
      ·subst au;rw[hu,ar]
      ·exact hz i (by omega)
  ·rw[if_neg E];have aj:j=32 - w.toNat:=by
    have:¬j < 32 - w.toNat:=fun h=>E (by rw[aC];omega)
    omega
   have ak:dX w.toNat aM=aM:=(xJ hr O).2 fun i hi=>hz i (by omega);refine⟨rfl,(bQ:Int),⟨rfl,G.one rfl⟩,rfl,dS,⟨rfl,?_⟩,fun _=>rfl,(bQ:Int),fun _=>⟨rfl,G.one rfl⟩,fun _=>rfl,cV aM,fun _=>⟨rfl,Dt G hr⟩,cV (sumN w kA),fun _=>⟨rfl,cH b5 hl⟩,?_⟩
   ·refine G.one ?_;show([.int .u32 (bQ:Int)]++bc aM++[.int .u64 dS,.int .u64 ver]:LV)[33]? = _;rw[VN (by rw[Ug,aJ,hr];exact Uf _),Ug,aJ,hr]
    rfl
   ·rw[aH hr,aH hl];have V:(aR (aD (zK (bX (bQ:Int) 0) (bX dS 0))) true (aR (bX (bQ:Int) 0) (aD (eS (bc aM) (bc (sumN w kA)))) false)=true)↔¬((bQ=0↔dS=0)/\(bQ=0->aM=sumN w kA)):=by
     rw[cG,bN,aV];have h1:aD (zK (bX (bQ:Int) 0) (bX dS 0))=true↔¬(bQ=0↔dS=0):=by
      unfold aD zK;rw[VL,beq_eq_false_iff_ne,ne_eq,Va,aV,aV]
      constructor
      ·intro h E;exact h ⟨fun h=>E.1 (by omega),fun h=>by have:=E.2 h;omega⟩
      ·intro h E;exact h ⟨fun h=>E.1 (by omega),fun h=>by have:=E.2 h;omega⟩
     have h2:aD (eS (bc aM) (bc (sumN w kA)))=true↔aM≠sumN w kA:=by
      unfold aD;rw[VL,<-Vr,jE _ _ (by rw[hr,hl])]
     rw[h1,h2]
     constructor
     ·rintro(h | ⟨h,h'⟩) ⟨q1,q2⟩
      ·exact h q1
      ·exact h' (q2 (by omega))
     ·intro hq;apply Classical.byContradiction;intro E;refine hq ⟨Classical.not_not.1 fun h=>E (.inl h),fun h0=>Classical.not_not.1 fun h=>E (.inr ⟨by omega,h⟩)⟩
    by_cases hq:(bQ=0↔dS=0)/\(bQ=0->aM=sumN w kA)
    ·rw[if_neg (fun h=>V.1 h hq)];refine⟨p,w,⟨rfl,ad ai⟩,(bQ:Int),cV aM,dS,ver,⟨rfl,?_⟩,?_⟩
     ·rw[G.cells (by rw[eO hr];exact Uf _),VC,Uj (by rw[eO hr];exact Uf _),aH hr]
     ·intro h6 e6;obtain⟨b6,k6,n6,a4⟩:=aB ae e6;rw[aH hr]at b6;have hn:=W.next;exact⟨.inr ⟨⟨hF,ak,hq⟩,_,rfl,hn,by omega,b6⟩,W.trans wf k6 fF⟩
    ·rw[if_pos (V.2 hq)];exact⟨.inl ⟨fun U=>hq U.2.2,rfl⟩,W⟩
 ·rw[if_pos (by simp[aD,hF])];exact⟨.inl ⟨fun U=>hF U.1,rfl⟩,ag⟩
end Go.Proofs.YtmapagggnigfpaaGreat.pk
namespace Go.Cn.Pk
theorem Hm{h E:Hp}(wf:Wf h){u:UInt8}{v:Int}{e:TI}(G:v=(u.toNat:Int))(he:E=h.alloc [.int .u8 v] e):fU (some ⟨h.next,0,none⟩) 1 E (str [u]):=by
 obtain⟨b1,U,n1,O⟩:=aB wf he
 right
 refine⟨rfl,bc [u],?_,pF [u]⟩;show E.cellsAt h.next 0 1=_;rw[b1.cells (by simp),G]
 rfl
end Go.Cn.Pk
namespace Go.Proofs.YtmapagggnigfpaaGreat.pk
open Cn Cn.Pk vc
theorem mJ{L M:LU}(h:L.length+M.length<=1099511627776):gW (str L) (str M):=Ev (by rw[eQ,eQ];exact h)
theorem Mx(w:Int)(h:Hp):C 121 [.int .i64 w] h fun v h'=>v = .int .i64 (inW w:Int)/\h'=h:=by
 refine sv Ff fun wf=>?_;unfold inW;by_cases E:bO w 0=true
 ·rw[if_pos E];rw[aC]at E;exact⟨by congr 1;omega,rfl⟩
 ·rw[if_neg E];rw[aC]at E;by_cases G:dB w 32=true
  ·rw[if_pos G];rw[aS]at G;exact⟨by congr 1;omega,rfl⟩
  ·rw[if_neg G];rw[aS]at G;exact⟨by congr 1;omega,rfl⟩
theorem RY(n:Nat)(h:n < 18446744073709551616):eP .u64 (n:Int) 128=((n / 128:Nat):Int):=by
 unfold eP IntKind.wrap;have e:(n:Int).tdiv 128=((n / 128:Nat):Int):=by rw[Wo (by omega)];rfl
 rw[e];simp[IntKind.bits,IntKind.signed]
 omega
theorem MD(n:Nat):iO (n:Int) 128=((n % 128:Nat):Int):=by
 unfold iO;rw[Int.tmod_eq_emod_of_nonneg (by omega)];rfl
set_option maxRecDepth 100000 in
theorem wK(n:Nat)(V:n < 18446744073709551616):∀h:Hp,C 97 [.int .u64 (n:Int)] h fun v h'=>v = .string (str (cU n))/\h'=h:=by
 induction n using Nat.strongRecOn with
 | _ n W =>
 intro h;refine uP ?_;refine sv JB fun wf=>?_;by_cases G:bO (n:Int) 128=true
 ·rw[if_pos G];rw[aC]at G;intro E e1;obtain⟨b1,O,n1,U⟩:=aB wf e1;exact⟨_,Hm wf (u:=UInt8.ofNat n) (by rw[eF];exact Go.Cn.Pk.byteOf n) e1,by rw[mG (by omega)],O⟩
 ·rw[if_neg G];rw[aC]at G;refine⟨by simp[bW],?_⟩;intro E e1;obtain⟨b1,O,n1,U⟩:=aB wf e1;have hv:aG .u8 (cC .u8 (iO (n:Int) 128)) 128=((UInt8.ofNat (n % 128+128)).toNat:Int):=by
   rw[MD n,eF];have:aG .u8 ((n % 128 % 256:Nat):Int) 128=((n % 128+128:Nat):Int):=by
    unfold aG;rw[show((n % 128 % 256:Nat):Int)+128=((n % 128 % 256+128:Nat):Int) by omega,Sha.wrap_u8]
    omega
   rw[this,<-Go.Cn.Pk.byteOf]
   omega
  have hr:=Hm wf hv e1;refine⟨_,hr,by simp[bW],?_⟩;rw[RY n V];have hl:=eN (n:=n / 128) (by omega);refine(W (n / 128) (by omega) (by omega) E).mono fun v h2 ⟨e,e2⟩=>?_;subst e2;refine⟨_,e,hr,mJ (by rw[Wd];omega),?_,O⟩;rw[gJ,mH (n:=n) (by omega)]
  rfl
theorem My(s:BA)(hs:s.size<=1099511627000)(h:Hp):C 98 [.string s] h fun v h'=>v = .string (str (gI s))/\h'=h:=by
 refine sv Ix fun wf=>?_;have E:=eN (n:=s.size) (by omega);have e0:cC .u64 (aE (aU s))=((s.size:Nat):Int):=by rw[aF,cQ,Up (by have:aU s=s.size:=rfl;omega)];rfl
 rw[e0];refine(wK s.size (by omega) h).mono fun v G ⟨e,e1⟩=>⟨_,e,Ev (by rw[eQ];omega),?_,e1⟩;rw[<-Bt s,gJ]
 rfl
theorem Rm(n k:Nat)(hk:k<=8)(hn:n < 18446744073709551616)(h:Hp):C 99 [.int .u64 (n:Int),.int .i64 (k:Int)] h fun v h'=>v = .string (str (be k n))/\h'=h:=by
 refine uP ?_;refine sv Fi fun wf=>?_;refine⟨fun vals m U=>∃i:Nat,[.int .u64 ((n >>> (8 * i):Nat):Int),.string (str (be i n)),.int .i64 (i:Int)]=vals/\m=k - i/\i<=k/\Kept h U/\Wf U,⟨k,0,rfl,rfl,Uk _,Keep.refl _ _,wf⟩,?_⟩;rintro n1 s n2 m U ⟨i,e,rfl,hi,W,E⟩;simp only[Ur,Value.int.injEq,Value.string.injEq,true_and,and_true]at e;obtain⟨rfl,rfl,rfl⟩:=e;by_cases O:bO (i:Int) (k:Int)=true
 ·rw[if_pos O];have G:i < k:=by rw[aC]at O;omega
  intro h1 e1;obtain⟨b1,k1,n1,V⟩:=aB E e1;have hr:=Hm E (u:=UInt8.ofNat (n >>> (8 * i))) (by rw[eF];exact Go.Cn.Pk.byteOf _) e1;refine⟨_,hr,mJ (by rw[cO];simp;omega),by simp[bR],k - (i+1),by simp only[aI];omega,i+1,?_,rfl,by omega,W.trans wf k1 fF,V⟩;rw[show gL .u64 ((n >>> (8 * i):Nat):Int) 8=_ from Sha.shrW_nat .u64 _ 8 (by decide),<-Nat.shiftRight_add,show aG .i64 (i:Int) 1=_ from cN 1 i (by omega),gJ]
  rfl
 ·rw[if_neg O];have G:i=k:=by
   by_cases hq:i=k
   ·exact hq
   ·exact absurd (aC.2 (by omega)) O
  subst G;exact⟨rfl,W⟩
theorem IJ(w:Int)(d:LU)(hd:d.length=32)(h:Hp):C 100 [.int .i64 w,.agg (bc d).toArray] h fun v h'=>v = .string (str (d.take (inW w)))/\h'=h:=by
 refine uP ?_;rw[<-aH hd];refine sv DO fun wf=>?_;have hw:=Gp w;intro h1 e1;rw[aH hd]at e1;obtain⟨b1,k1,n1,G⟩:=aB wf e1;refine⟨fun vals m V=>∃i:Nat,[.string (str (d.take i)),.int .i64 (i:Int)]=vals/\m=inW w - i/\i<=inW w/\Kept h1 V/\Wf V,⟨inW w,0,rfl,rfl,Uk _,Keep.refl _ _,G⟩,?_⟩;rintro s n2 m V ⟨i,e,rfl,hi,kk,O⟩;simp only[Ur,Value.int.injEq,Value.string.injEq,true_and,and_true]at e;obtain⟨rfl,rfl⟩:=e;refine(Mx w V).mono fun v h2 ⟨e,e2⟩=>⟨_,e,?_⟩;subst e2;by_cases W:bO (i:Int) (inW w:Int)=true
 ·rw[if_pos W];have U:i < inW w:=by rw[aC]at W;omega
  obtain⟨u,eu⟩:∃u,d[i]? = some u:=⟨_,Uh (by omega)⟩;have aa:aA 0 (i:Int) 1=i:=by unfold aA;rw[Uo];omega
  have E:h2.cellsAt h.next i 1=some [.int .u8 (u.toNat:Int)]:=(Kept.blk kk b1).one (by rw[eU,VB,eu];rfl);refine⟨⟨rfl,Ui _,by omega⟩,(u.toNat:Int),⟨rfl,by rw[aa];exact E⟩,?_⟩;intro h3 e3;obtain⟨b3,k3,n3,ac⟩:=aB O e3;refine⟨_,Hm O rfl e3,mJ (by rw[Uq];simp;omega),inW w - (i+1),by simp only[aI];omega,i+1,?_,rfl,by omega,kk.trans G k3 fF,ac⟩;rw[gJ,VG,eu,show aG .i64 (i:Int) 1=_ from cN 1 i (by omega)]
  rfl
 ·rw[if_neg W];have U:i=inW w:=by
   by_cases hq:i=inW w
   ·exact hq
   ·exact absurd (aC.2 (by omega)) W
  subst U;exact⟨rfl,k1.trans wf kk fF⟩
end Go.Proofs.YtmapagggnigfpaaGreat.pk
namespace Go.Cn.Pk
theorem Gq{L:List BA}{i:Nat}{x:BA}(E:L[i]? = some x):(L.take (i+1)).flatMap Go.Proofs.YtmapagggnigfpaaGreat.pk.strc=(L.take i).flatMap Go.Proofs.YtmapagggnigfpaaGreat.pk.strc++[.string x]:=by
 rw[VG,E];simp[Go.Proofs.YtmapagggnigfpaaGreat.pk.strc]
theorem Ek{n:Nat}{d:LU}(G:d.length=32)(O:n<=32):dX n d=d↔∀i,n<=i->i < 32->d[i]? = some 0:=by
 unfold dX
 constructor
 ·intro h i U V;rw[<-h,VN (by rw[Uq];omega),Wm,if_pos (by rw[Uq];omega)]
 ·intro h;apply Vi;intro i;by_cases hi:i < n
  ·rw[VQ (by rw[Uq];omega),VZ,if_pos hi]
  ·by_cases E:i < 32
   ·rw[VN (by rw[Uq];omega),Wm,if_pos (by rw[Uq];omega),h i (by omega) E]
   ·rw[VI (by simp;omega),VI (by omega)]
end Go.Cn.Pk
namespace Go.Proofs.YtmapagggnigfpaaGreat.pk
open Cn Cn.Pk vc
theorem Cf(p w:Int)(h:Hp):C 20 [fr p w] h fun v h'=>v = .bool (decide (Fr p w))/\h'=h:=by
 refine uP ?_;refine sv FZ fun wf=>?_;intro E e1;obtain⟨b1,O,n1,U⟩:=aB wf e1;have r0:E.cellsAt h.next 0 1=some [.int .i64 p]:=b1.one rfl;have G:E.cellsAt h.next 1 1=some [.int .i64 w]:=b1.one rfl;refine⟨rfl,p,⟨rfl,r0⟩,fun _=>rfl,p,fun _=>⟨rfl,r0⟩,fun _=>rfl,p,fun _=>⟨rfl,r0⟩,fun _=>rfl,p,fun _=>⟨rfl,r0⟩,fun _=>rfl,w,fun _=>⟨rfl,G⟩,fun _=>rfl,w,fun _=>⟨rfl,G⟩,?_,O⟩;congr 1;rw[Va];simp only[bN,cG,cK,eV,aV,decide_eq_true_eq];unfold Fr
 omega
theorem zN(a1 a2 a3:OA)(l1 c1 l2 c2 l3 c3:Nat)(h:Hp):C 70 [.agg #[.slice a1 l1 c1,.slice a2 l2 c2,.slice a3 l3 c3]] h fun v h'=>v = .bool (decide (l2=0/\l3=0))/\h'=h:=by
 refine uP ?_;refine sv Iq fun wf=>?_;intro O e1;obtain⟨b1,E,n1,G⟩:=aB wf e1;refine⟨rfl,a2,l2,c2,⟨rfl,b1.one rfl⟩,fun _=>rfl,a3,l3,c3,fun _=>⟨rfl,b1.one rfl⟩,?_,E⟩;congr 1;rw[Va,bN,aV,aV,decide_eq_true_eq,aF,aF]
 omega
theorem Sx(w:Nat)(hw:w<=32)(d:LU)(U:d.length=32)(h:Hp):
  C 120 [.int .i64 (w:Int),.agg (bc d).toArray] h fun v h'=>v = .bool (decide (dX w d=d))/\h'=h:=by
 refine uP ?_;rw[<-aH U];refine sv It fun wf=>?_;intro V e1;rw[aH U]at e1;obtain⟨b1,k1,n1,ae⟩:=aB wf e1;refine⟨fun vals m hh=>∃i:Nat,[.int .i64 (i:Int)]=vals/\m=32 - i/\w<=i/\i<=32/\(∀j,w<=j->j < i->d[j]? = some 0)/\hh=V,⟨32 - w,w,rfl,rfl,Uf _,hw,fun j V h2=>by omega,rfl⟩,?_⟩;rintro n m hh ⟨i,e,rfl,aa,hi,hz,rfl⟩;simp only[Ur,Value.int.injEq,true_and,and_true]at e;subst e;by_cases W:bO (i:Int) 32=true
 ·rw[if_pos W];have G:i < 32:=by rw[aC]at W;omega
  obtain⟨u,eu⟩:∃u,d[i]? = some u:=⟨_,Uh (by omega)⟩;have ac:aA 0 (i:Int) 1=i:=by unfold aA;rw[Uo];omega
  have O:hh.cellsAt h.next i 1=some [.int .u8 (u.toNat:Int)]:=b1.one (by rw[eU,VB,eu];rfl);refine⟨⟨rfl,Ui _,by omega⟩,(u.toNat:Int),⟨rfl,by rw[ac];exact O⟩,?_⟩;by_cases E:cP (u.toNat:Int) 0=true
  ·rw[if_pos E];refine⟨?_,k1⟩;rw[bA]at E;congr 1
   symm
   rw[decide_eq_false_iff_not,Ek U hw];intro h;have:=h i aa G;rw[eu]at this;injection this with this
   subst this;exact E rfl
  ·rw[if_neg E];rw[bA]at E;have hu:u=0:=by
    apply Wn.1;have:(u.toNat:Int)=0:=Classical.byContradiction E;show u.toNat=0
    omega
   refine⟨32 - (i+1),by simp only[aI];omega,i+1,?_,rfl,by omega,by omega,?_,rfl⟩
   ·rw[show aG .i64 (i:Int) 1=_ from cN 1 i (by omega)]
   ·intro j V h2;by_cases ad:j=i
    ·subst ad;rw[eu,hu]
    ·exact hz j V (by omega)
 ·rw[if_neg W];have G:i=32:=by
   by_cases E:i=32
   ·exact E
   ·exact absurd (aC.2 (by omega)) W
  subst G;refine⟨?_,k1⟩;congr 1
  symm
  rw[decide_eq_true_eq,Ek U hw];exact hz
theorem QT{h:Hp}(q:Int){a:OA}{l c:Nat}{gr:ON}{L:List BA}(sl:SlT strc 1 h gr a l c L)(ae:l<=1099511600000):
  C 119 [.slice a l c,.int .i64 q] h fun r h'=>(∃b:Bool,r = .bool b/\(b=true↔AF q L))/\h'=h:=by
 refine sv Ir fun wf=>?_;have hL:=sl.len;refine⟨fun vals m hh=>∃i:Nat,[.int .i64 (i:Int)]=vals/\m=l - i/\i<=l/\(∀j,j < i->Cy q L j)/\hh=h,⟨l,0,rfl,rfl,Uk _,fun j hj=>by omega,rfl⟩,?_⟩;rintro n2 m hh ⟨i,e,rfl,hi,U,rfl⟩;simp only[Ur,Value.int.injEq,true_and,and_true]at e;subst e;by_cases hc:bO (i:Int) (aE l)=true
 ·rw[if_pos hc];have V:i < l:=by rw[aC,aF]at hc;omega
  obtain⟨s1,eb⟩:∃q,L[i]? = some q:=⟨_,Uh (by omega)⟩;obtain⟨ha,E⟩:=sl.get dV eb (j:=0) (m:=1) (by omega);have W:∀j:Nat,aA (off a) (j:Int) 1=off a+j * 1+0:=fun j=>by unfold aA;rw[Uo];omega
  have E:hh.cellsAt (blk a) (aA (off a) (i:Int) 1) 1=some [.string s1]:=by rw[W];exact E
  obtain⟨t1,ht⟩:∃t1,0 < i->L[i - 1]? = some t1:=by
   by_cases h0:0 < i
   ·exact⟨_,fun _=>Uh (l:=L) (i:=i - 1) (by omega)⟩
   ·exact⟨.empty,fun h=>absurd h h0⟩
  have G:0 < i->bB .i64 (i:Int) 1=((i - 1:Nat):Int):=fun h0=>by rw[bY (by omega) (by omega)];omega
  have aa:∀{b:Bool},dJ (dB (i:Int) 0) b=true->0 < i:=fun h=>by rw[zZ,aS]at h;omega
  have O:a.isSome=true/\bS (i:Int) l:=⟨ha,Ui _,by omega⟩;refine⟨O,s1,⟨rfl,E⟩,fun _=>O,s1,fun _=>⟨rfl,E⟩,?_,t1,?_,fun _=>O,s1,fun _=>⟨rfl,E⟩,?_⟩
  ·intro hq;have h0:=aa hq;rw[G h0];exact⟨ha,Ui _,by omega⟩
  ·intro hq;have h0:=aa hq;rw[G h0,W];exact⟨rfl,(sl.get dV (ht h0) (j:=0) (m:=1) (by omega)).2⟩
  by_cases hf:aR (aR (bO (aE (aU s1)) 1) true (dB (aE (aU s1)) q)) true (aR (dB (i:Int) 0) (aD (Go.Cn.strLt t1 s1)) false)=true
  ·rw[if_pos hf];exact⟨⟨false,rfl,by simp;exact fun hr=>(nV eb ht).1 hf (hr i)⟩,rfl⟩
  ·rw[if_neg hf];have ac:Cy q L i:=Classical.byContradiction fun hn=>hf ((nV eb ht).2 hn);refine⟨l - (i+1),by simp only[aI];omega,i+1,?_,rfl,by omega,fun j hj=>?_,rfl⟩
   ·rw[show aG .i64 (i:Int) 1=_ from cN 1 i (by omega)]
   ·by_cases ad:j=i
    ·subst ad;exact ac
    ·exact U j (by omega)
 ·rw[if_neg hc];have V:i=l:=by
   by_cases hq:i=l
   ·exact hq
   ·exact absurd (aC.2 (by rw[aF];omega)) hc
  subst V;exact⟨⟨true,rfl,by simp;exact yD fun j hj=>U j (by omega)⟩,rfl⟩
theorem vD{h:Hp}{a:OA}{l c:Nat}{g:ON}{ks:List KidT}(sl:SlT kidC 33 h g a l c ks){i:Nat}{k:KidT}(O:ks[i]? = some k):
  a.isSome=true/\h.cellsAt (blk a) (aA (off a) (i:Int) 33) 1=some [.int .u32 (k.page:Int)]/\h.cellsAt (blk a) (cI (aA (off a) (i:Int) 33) 1) 32=some (aK .u8 32 (cV k.sum)):=by
 obtain⟨U,h0⟩:=sl.get dL O (j:=0) (m:=1) (by omega);obtain⟨_,G⟩:=sl.get dL O (j:=1) (m:=32) (by omega);have E:aA (off a) (i:Int) 33=off a+i * 33+0:=by unfold aA;rw[Uo];omega
 refine⟨U,by rw[E];exact h0,?_⟩;rw[E,aH k.hs];unfold kidC at G;simp only[WZ,Wt,VC]at G;rw[Uj (by rw[aJ,k.hs];omega)]at G;exact G
theorem oP{h:Hp}{a:OA}{l c:Nat}{g:ON}{ps:List PairT}(sl:SlT pairC 2 h g a l c ps){i:Nat}{q:PairT}(G:ps[i]? = some q):
  a.isSome=true/\h.cellsAt (blk a) (aA (off a) (i:Int) 2) 1=some [.string q.1]/\h.cellsAt (blk a) (cI (aA (off a) (i:Int) 2) 1) 1=some [.string q.2]:=by
 obtain⟨O,h0⟩:=sl.get gZ G (j:=0) (m:=1) (by omega);obtain⟨_,U⟩:=sl.get gZ G (j:=1) (m:=1) (by omega);have E:aA (off a) (i:Int) 2=off a+i * 2+0:=by unfold aA;rw[Uo];omega
 exact⟨O,by rw[E];exact h0,by rw[E];exact U⟩
theorem BF{h:Hp}{a:OA}{l c:Nat}{g:ON}{K:List BA}(sl:SlT strc 1 h g a l c K){i:Nat}{s:BA}(G:K[i]? = some s):
  a.isSome=true/\h.cellsAt (blk a) (aA (off a) (i:Int) 1) 1=some [.string s]:=by
 obtain⟨O,h0⟩:=sl.get dV G (j:=0) (m:=1) (by omega);have E:aA (off a) (i:Int) 1=off a+i * 1+0:=by unfold aA;rw[Uo];omega
 exact⟨O,by rw[E];exact h0⟩
theorem Pa{h:Hp}{n:Nat}{nv:Value}{N:NodeT}(x:NodeAt h n nv N){p w:Int}(hF:Fr p w)(a7:N.ps.length<=1099511500000)(a8:N.K.length<=1099511500000)(a9:N.ks.length<=1099511500000):
  C 96 [fr p w,nv] h fun r h'=>(∃b:Bool,r = .bool b/\(b=true↔cS p w N))/\h'=h:=by
 refine SCalls.trim (K:=fun r h'=>(∃b:Bool,r = .bool b/\(b=true↔cS p w N))/\Kept h h') (of_decide_eq_true (by kernel_rfl)) ?_ fun v h' ⟨⟨e,e1,e2⟩,k⟩=>⟨fS k,by rw[e1];rfl,e,e1,e2⟩;obtain⟨a1,l1,c1,a2,l2,c2,a3,l3,c3,rfl,q1,q2,q3⟩:=x;refine sv DL fun wf=>?_;intro h1 e1 h2 e2;obtain⟨b1,k1,n1,an⟩:=aB wf e1;obtain⟨b2,k2,n2,ah⟩:=aB an e2;have V:Kept h h2:=k1.trans wf k2 fF;have ae:=Kept.blk k2 b1;have ao:N.K.length=l2:=by obtain⟨_,_,q⟩:=q2;exact q.len
 have ap:N.ks.length=l3:=by obtain⟨_,_,q⟩:=q3;exact q.len
 have ba:N.ps.length=l1:=by obtain⟨_,_,q⟩:=q1;exact q.len
 obtain⟨f1,f2,f3,f4⟩:=qF hF;refine⟨a1,l1,c1,a2,l2,c2,a3,l3,c3,⟨rfl,by rw[b2.cells (by simp)];rfl⟩,?_⟩;refine(zN a1 a2 a3 l1 c1 l2 c2 l3 c3 h2).mono fun v G ⟨e,e3⟩=>⟨_,e,?_⟩;subst e3;rw[fG ao ap];have hS:∀y x,y < h.next->some y=some x->¬(h.next<=x):=fun x y hx hy O=>by simp at hy;omega
 by_cases hL:N.leaf=true
 ·rw[if_pos hL];obtain⟨_,_,s1⟩:=q1;obtain⟨g1,bb,s1⟩:=s1.grp wf;refine⟨fun vals m U=>∃(i:Nat) (a:OA),[.slice a i i,.int .i64 (i:Int)]=vals/\m=l1 - i/\i<=l1/\Bd U 1 (G.next<=·) a i i ((N.ps.map (·.1)).take i |>.flatMap strc)/\(∀q∈N.ps.take i,(q.2.size:Int)<=eP .i64 p 8)/\Keep (G.next<=·) G U/\Wf U,⟨l1,0,none,rfl,rfl,Uk _,Bd.nil _ _ _,by simp,Keep.refl _ _,ah⟩,?_⟩;rintro a l c n3 m U ⟨i,a',e,rfl,hi,bd,hv,k,ai⟩;simp only[Ur,Value.int.injEq,Value.slice.injEq,true_and,and_true]at e;obtain⟨⟨rfl,rfl,rfl⟩,rfl⟩:=e;have aq:Keep (G.next<=·) h U:=(V.mono wf (S':=(G.next<=·)) fun _ _ hf=>hf.elim).trans wf k fun _ _ E=>E;have kept:Kept h U:=aq.mono wf fun g E hs=>by have:=V.next;omega
  have ar:=k.blk ae fun x hx O=>by simp at hx;omega
  have au:=k.blk b2 fun x hx O=>by simp at hx;omega
  have av:=s1.keep kept fF;have rl:U.cellsAt h1.next 0 1=some [.slice a1 l1 c1]:=au.one rfl;have rp:U.cellsAt h.next 0 1=some [.int .i64 p]:=ar.one rfl;refine⟨rfl,a1,l1,c1,⟨rfl,rl⟩,?_⟩;by_cases O:bO (i:Int) (aE l1)=true
  ·rw[if_pos O];have W:i < l1:=by rw[aC,aF]at O;omega
   obtain⟨q,eb⟩:∃q,N.ps[i]? = some q:=⟨_,Uh (by omega)⟩;obtain⟨ha,r0,r1⟩:=oP av eb;refine⟨rfl,a1,l1,c1,⟨rfl,rl⟩,⟨ha,Ui _,by omega⟩,rfl,q.1,⟨rfl,r0⟩,?_⟩;intro h4 e4;obtain⟨b4,k4,n4,bf⟩:=aB ai e4;obtain⟨a',h5,e5,ax,k5,ay⟩:=Bd.append1 ai vP (S:=(G.next<=·)) (fun g E=>Nat.le_trans k.next E) bd e4 rfl rfl (bM (by omega));have ad:Keep (G.next<=·) G h5:=k.trans ah k5 fun _ _ E=>E;have aj:Keep (G.next<=·) h h5:=(V.mono wf (S':=(G.next<=·)) fun _ _ hf=>hf.elim).trans wf ad fun _ _ E=>E;have aa:Kept h h5:=aj.mono wf fun g E hs=>by have:=V.next;omega
   have az:=ad.blk ae fun x hx O=>by simp at hx;omega
   have a0:=ad.blk b2 fun x hx O=>by simp at hx;omega
   have a4:=s1.keep aa fF;obtain⟨_,_,a5⟩:=oP a4 eb;refine⟨a',i+1,i+1,h5,e5,rfl,a1,l1,c1,⟨rfl,a0.one rfl⟩,⟨ha,Ui _,by omega⟩,rfl,q.2,⟨rfl,a5⟩,rfl,p,⟨rfl,az.one rfl⟩,by simp[bW],?_⟩;have hz:aE (aU q.2)=(q.2.size:Int):=rfl;by_cases E:dB (aE (aU q.2)) (eP .i64 p 8)=true
   ·rw[if_pos E];rw[aS,hz]at E;refine⟨⟨false,rfl,?_⟩,aa⟩;unfold cS;rw[if_pos hL];simp only[VA,false_iff];exact fun af=>af.2 ⟨q,Uy eb,E⟩
   ·rw[if_neg E];rw[aS,hz]at E;refine⟨l1 - (i+1),by simp only[aI];omega,i+1,a',?_,rfl,by omega,?_,?_,ad,ay⟩
    ·rw[show aG .i64 (i:Int) 1=_ from cN 1 i (by omega)]
    ·rw[Gq (x:=q.1) (by rw[VB,eb];rfl)];exact ax
    ·intro q' hm;rw[VG,eb]at hm;rcases VF.1 hm with hm | hm
     ·exact hv q' hm
     ·simp only[Option.toList_some,WC]at hm;subst hm
      omega
  ·rw[if_neg O];have W:i=l1:=by
    by_cases hq:i=l1
    ·exact hq
    ·exact absurd (aC.2 (by rw[aF];omega)) O
   subst W;rw[Uj (by rw[VP];omega)]at bd;rw[Uj (by omega)]at hv;obtain⟨gg,bg,sk⟩:=bd.slT (by rw[VP];omega);refine⟨rfl,p,⟨rfl,rp⟩,by simp[bW],?_⟩;refine(QT (eP .i64 p 16) sk (by omega)).mono fun v h6 ⟨⟨b,e,hb⟩,e6⟩=>⟨b,e,⟨b,rfl,?_⟩,by rw[e6];exact kept⟩;unfold cS;rw[if_pos hL,hb]
   constructor
   ·intro hr;exact⟨hr,fun⟨q,h1,h2⟩=>by have:=hv q h1;omega⟩
   ·intro hr;exact hr.1
 ·rw[if_neg hL];have ac:=V;have ak:=ae;have ag:=b2;obtain⟨g3,_,s3⟩:=cD ac (fF) q3;obtain⟨g2,_,s2⟩:=cD ac (fF) q2;have r1:G.cellsAt h1.next 0 1=some [.slice a1 l1 c1]:=ag.one rfl;have r2:G.cellsAt h1.next 1 1=some [.slice a2 l2 c2]:=ag.one rfl;have r3:G.cellsAt h1.next 2 1=some [.slice a3 l3 c3]:=ag.one rfl;have al:aR (aR (dB (aE l1) 0) true (bO (aE l3) 2)) true (cP (aE l2) (bB .i64 (aE l3) 1))=true↔¬(l1=0/\2<=l3/\l2+1=l3):=by
   rw[cG,cG,aS,aC,bA,aF,aF,aF,bY (by omega) (by omega)]
   omega
  refine⟨rfl,a1,l1,c1,⟨rfl,r1⟩,fun _=>rfl,a3,l3,c3,fun _=>⟨rfl,r3⟩,fun _=>rfl,a2,l2,c2,fun _=>⟨rfl,r2⟩,fun _=>rfl,a3,l3,c3,fun _=>⟨rfl,r3⟩,?_⟩;by_cases hs:aR (aR (dB (aE l1) 0) true (bO (aE l3) 2)) true (cP (aE l2) (bB .i64 (aE l3) 1))=true
  ·rw[if_pos hs];refine⟨⟨false,rfl,?_⟩,ac⟩;simp only[VA,false_iff];unfold cS;rw[if_neg hL];rintro⟨g1,g2,g3,_,_⟩;exact al.1 hs ⟨by omega,by omega,by omega⟩
  ·rw[if_neg hs];have bh:l1=0/\2<=l3/\l2+1=l3:=Classical.byContradiction fun h=>hs (al.2 h);obtain⟨wn,rfl⟩:∃wn:Nat,w=(wn:Int):=⟨w.toNat,by omega⟩;have hW:fW (wn:Int):=⟨f3,f4⟩;refine⟨fun vals m U=>∃i:Nat,[.int .i64 (i:Int)]=vals/\m=l3 - i/\i<=l3/\(∀k∈N.ks.take i,dX wn k.sum=k.sum)/\U=G,⟨l3,0,rfl,rfl,Uk _,by simp,rfl⟩,?_⟩;rintro n3 m U ⟨i,e,rfl,hi,hk,rfl⟩;simp only[Ur,Value.int.injEq,true_and,and_true]at e;subst e;have a6:U.cellsAt h.next 1 1=some [.int .i64 (wn:Int)]:=ak.one rfl;refine⟨rfl,a3,l3,c3,⟨rfl,r3⟩,?_⟩;by_cases O:bO (i:Int) (aE l3)=true
   ·rw[if_pos O];have W:i < l3:=by rw[aC,aF]at O;omega
    obtain⟨kd,eb⟩:∃q,N.ks[i]? = some q:=⟨_,Uh (by omega)⟩;obtain⟨ha,_,rd⟩:=vD s3 eb;refine⟨rfl,(wn:Int),⟨rfl,a6⟩,rfl,a3,l3,c3,⟨rfl,r3⟩,⟨ha,Ui _,by omega⟩,rfl,cV kd.sum,⟨rfl,rd⟩,?_⟩;rw[aH kd.hs];refine(Sx wn (by omega) kd.sum kd.hs U).mono fun v h5 ⟨e,e5⟩=>⟨_,e,?_⟩;subst e5;by_cases hq:dX wn kd.sum=kd.sum
    ·rw[if_neg (by simp[aD,hq])];refine⟨l3 - (i+1),by simp only[aI];omega,i+1,?_,rfl,by omega,?_,rfl⟩
     ·rw[show aG .i64 (i:Int) 1=_ from cN 1 i (by omega)]
     ·intro k' hm;rw[VG,eb]at hm;rcases VF.1 hm with hm | hm
      ·exact hk k' hm
      ·simp only[Option.toList_some,WC]at hm;subst hm;exact hq
    ·rw[if_pos (by simp[aD,hq])];refine⟨⟨false,rfl,?_⟩,ac⟩;simp only[VA,false_iff];unfold cS;rw[if_neg hL];rintro⟨_,_,_,g4,_⟩;exact g4 ⟨kd,Uy eb,fun hx=>hq (by have:=hx.2;rwa [Uo]at this)⟩
   ·rw[if_neg O];have W:i=l3:=by
     by_cases hq:i=l3
     ·exact hq
     ·exact absurd (aC.2 (by rw[aF];omega)) O
    subst W;rw[Uj (by omega)]at hk;refine⟨rfl,a2,l2,c2,⟨rfl,r2⟩,rfl,p,⟨rfl,ak.one rfl⟩,by simp[bW],?_⟩;refine(QT (eP .i64 p 16) s2 (by omega)).mono fun v h6 ⟨⟨b,e,hb⟩,e6⟩=>⟨b,e,⟨b,rfl,?_⟩,by rw[e6];exact ac⟩;unfold cS;rw[if_neg hL,hb]
    constructor
    ·intro hr;exact⟨by omega,by omega,by omega,fun⟨k,h1,h2⟩=>h2 ⟨hW,by rw[Uo];exact hk k h1⟩,hr⟩
    ·rintro⟨_,_,_,_,g⟩;exact g
theorem Gu{h:Hp}{n:Nat}{nv:Value}{N:NodeT}(x:NodeAt h n nv N)(p w:Int)(U:N.ps.length<=1099511500000)(V:N.K.length<=1099511500000)(W:N.ks.length<=1099511500000):
  C 71 [fr p w,nv] h fun r h'=>(∃e:Int,r = .int .i64 e/\kL p w N e)/\h'=h:=by
 refine SCalls.trim (K:=fun r h'=>(∃e:Int,r = .int .i64 e/\kL p w N e)/\Kept h h') (of_decide_eq_true (by kernel_rfl)) ?_ fun v h' ⟨⟨e,e1,e2⟩,k⟩=>⟨fS k,by rw[e1];rfl,e,e1,e2⟩;have x0:=x;obtain⟨a1,l1,c1,a2,l2,c2,a3,l3,c3,rfl,q1,q2,q3⟩:=x;refine sv Fe fun wf=>?_;intro h1 e1 h2 e2;obtain⟨b1,k1,n1,aa⟩:=aB wf e1;obtain⟨b2,k2,n2,ad⟩:=aB aa e2;have E:Kept h h2:=k1.trans wf k2 fF;have ac:=Kept.blk k2 b1;have rp:h2.cellsAt h.next 0 2=some [.int .i64 p,.int .i64 w]:=by rw[ac.cells (by simp)];rfl
 refine⟨p,w,⟨rfl,rp⟩,(Cf p w h2).mono fun v h3 ⟨e,e3⟩=>⟨_,e,?_⟩⟩;subst e3;by_cases G:Fr p w
 ·rw[if_neg (by simp[aD,G])];refine⟨p,w,⟨rfl,rp⟩,a1,l1,c1,a2,l2,c2,a3,l3,c3,⟨rfl,by rw[b2.cells (by simp)];rfl⟩,?_⟩;refine(Pa (x0.keep E fF) G U V W).mono fun v h4 ⟨⟨b,e,hb⟩,e4⟩=>⟨b,e,?_⟩;subst e4;by_cases O:cS p w N
  ·rw[if_neg (by rw[hb.2 O];simp[aD])];exact⟨⟨0,rfl,.inr (.inl ⟨G,O,rfl⟩)⟩,E⟩
  ·rw[if_pos (by rw[gR];cases b;rfl;exact absurd (hb.1 rfl) O)];exact⟨⟨70,rfl,.inr (.inr ⟨G,O,rfl⟩)⟩,E⟩
 ·rw[if_pos (by simp[aD,G])];exact⟨⟨2,rfl,.inl ⟨G,rfl⟩⟩,E⟩
def Td(g:Bool)(nb fb:Nat)(i:Int)(S:BA)(hA:Hp)(K:BA->Hp->Prop):Prop :=
 if g=true then
 aN (some (Addr.mk nb 0 none))=true/\
 ∃(a:OA),
 ∃(l:Nat),
 ∃(c:Nat),
 (aN (some (Addr.mk nb 2 none))=true/\hA.cellsAt nb 2 1=some [Value.slice a l c])/\
 (a.isSome=true/\bS i l)/\
 aN (some (Addr.mk (blk a) (aA (off a) i 33) none))=true/\
 ∃(n_1:Int),
 (aN (some (Addr.mk (blk a) (aA (off a) i 33) none))=true/\hA.cellsAt (blk a) (aA (off a) i 33) 1=some [Value.int IntKind.u32 n_1])/\
 C 99 [Value.int IntKind.u64 (cC IntKind.u64 n_1),Value.int IntKind.i64 4] hA fun(v:Value) (h'_5:Hp) =>
 ∃(s_3:BA),
 v=Value.string s_3/\
 gW S s_3/\
 aN (some (Addr.mk fb 0 none))=true/\
 ∃(n_2:Int),
 (aN (some (Addr.mk fb 1 none))=true/\h'_5.cellsAt fb 1 1=some [Value.int IntKind.i64 n_2])/\
 aN (some (Addr.mk nb 0 none))=true/\
 ∃(a:OA),
 ∃(l:Nat),
 ∃(c:Nat),
 (aN (some (Addr.mk nb 2 none))=true/\h'_5.cellsAt nb 2 1=some [Value.slice a l c])/\
 (a.isSome=true/\bS i l)/\
 aN (some (Addr.mk (blk a) (aA (off a) i 33) none))=true/\
 ∃(D:Nat->Int),
 (aN (some (Addr.mk (blk a) (cI (aA (off a) i 33) 1) none))=true/\
 h'_5.cellsAt (blk a) (cI (aA (off a) i 33) 1) 32 =
 some
 ((aK .u8 32 D)))/\
 C 100
 [Value.int IntKind.i64 n_2,
 Value.agg
 (Array.mk
 ((aK .u8 32 D)))]
 h'_5 fun(v:Value) (h':Hp) =>
 ∃(s_4:BA),v=Value.string s_4/\gW (dH S s_3) s_4/\K (dH (dH S s_3) s_4) h'
 else
 aN (some (Addr.mk fb 0 none))=true/\
 ∃(n_1:Int),
 (aN (some (Addr.mk fb 1 none))=true/\hA.cellsAt fb 1 1=some [Value.int IntKind.i64 n_1])/\
 aN (some (Addr.mk nb 0 none))=true/\
 ∃(a:OA),
 ∃(l:Nat),
 ∃(c:Nat),
 (aN (some (Addr.mk nb 2 none))=true/\hA.cellsAt nb 2 1=some [Value.slice a l c])/\
 (a.isSome=true/\bS i l)/\
 aN (some (Addr.mk (blk a) (aA (off a) i 33) none))=true/\
 ∃(D:Nat->Int),
 (aN (some (Addr.mk (blk a) (cI (aA (off a) i 33) 1) none))=true/\
 hA.cellsAt (blk a) (cI (aA (off a) i 33) 1) 32 =
 some
 ((aK .u8 32 D)))/\
 C 100
 [Value.int IntKind.i64 n_1,
 Value.agg
 (Array.mk
 ((aK .u8 32 D)))]
 hA fun(v:Value) (h':Hp)=>∃(s_3:BA),v=Value.string s_3/\gW S s_3/\K (dH S s_3) h'
theorem IF{g:Bool}{nb fb i:Nat}{L:LU}{O:Hp}{K:BA->Hp->Prop}{a1 a2 a3:OA}{l1 l2 l3 c1 c2 c3:Nat}{gn gf:ON}{p w:Int}{G:ON}{ks:List KidT}{E:KidT}
  (bn:Blk O nb gn [.slice a1 l1 c1,.slice a2 l2 c2,.slice a3 l3 c3]) (bf:Blk O fb gf [.int .i64 p,.int .i64 w]) (s3:SlT kidC 33 O G a3 l3 c3 ks) (eb:ks[i]? = some E) (hl:L.length<=1099511600000)
  (W:K (str (L++((if g=true then be 4 E.page else [])++E.sum.take (inW w)))) O):Td g nb fb (i:Int) (str L) O K:=by
 have hi:i < l3:=by
  have:=s3.len;rcases Nat.lt_or_ge i l3 with h | h
  ·exact h
  ·rw[VI (by omega)]at eb;simp at eb
 obtain⟨ha,rp,rd⟩:=vD s3 eb;have U:a3.isSome=true/\bS (i:Int) l3:=⟨ha,Ui _,by omega⟩;have r3:O.cellsAt nb 2 1=some [.slice a3 l3 c3]:=bn.one rfl;have V:O.cellsAt fb 1 1=some [.int .i64 w]:=bf.one rfl;have hw:=Gp w;unfold Td;by_cases hg:g=true
 ·rw[if_pos hg];refine⟨rfl,a3,l3,c3,⟨rfl,r3⟩,U,rfl,(E.page:Int),⟨rfl,rp⟩,?_⟩;have hp:=E.hp;rw[cQ,Up (by omega)];refine(Rm E.page 4 (by omega) (by omega) O).mono fun v h5 ⟨e,e5⟩=>⟨_,e,mJ (by rw[cO];omega),?_⟩;subst e5;refine⟨rfl,w,⟨rfl,V⟩,rfl,a3,l3,c3,⟨rfl,r3⟩,U,rfl,cV E.sum,⟨rfl,rd⟩,?_⟩;rw[aH E.hs];refine(IJ w E.sum E.hs h5).mono fun v h6 ⟨e,e6⟩=>?_;subst e6;refine⟨_,e,?_,?_⟩
  ·rw[gJ];exact mJ (by rw[Ug,cO,Uq];omega)
  ·rw[gJ,gJ,Ut];rw[if_pos hg]at W;exact W
 ·rw[if_neg hg];refine⟨rfl,w,⟨rfl,V⟩,rfl,a3,l3,c3,⟨rfl,r3⟩,U,rfl,cV E.sum,⟨rfl,rd⟩,?_⟩;rw[aH E.hs];refine(IJ w E.sum E.hs O).mono fun v h6 ⟨e,e6⟩=>?_;subst e6;refine⟨_,e,mJ (by rw[Uq];omega),?_⟩;rw[gJ];rw[if_neg hg]at W;exact W
theorem QU{h:Hp}{n:Nat}{nv:Value}{N:NodeT}(x:NodeAt h n nv N)(p w:Int)(gb:Bool)(hk:N.leaf=false->N.ks.length<=N.K.length+1)(hl:(cJ gb w N).length<=1099511500000)(ak:N.ps.length<=1099511500000)(al:N.ks.length<=1099511500000):
  C 74 [fr p w,nv,.bool gb] h fun r h'=>r = .string (str (cJ gb w N))/\h'=h:=by
 refine uP ?_;obtain⟨a1,l1,c1,a2,l2,c2,a3,l3,c3,rfl,q1,q2,q3⟩:=x;refine sv Is fun wf=>?_;intro h1 e1 h2 e2;obtain⟨b1,k1,n1,ai⟩:=aB wf e1;obtain⟨b2,k2,n2,an⟩:=aB ai e2;have E:Kept h h2:=k1.trans wf k2 fF;have ad:=Kept.blk k2 b1;have aj:N.K.length=l2:=by obtain⟨_,_,q⟩:=q2;exact q.len
 have ac:N.ks.length=l3:=by obtain⟨_,_,q⟩:=q3;exact q.len
 have ae:N.ps.length=l1:=by obtain⟨_,_,q⟩:=q1;exact q.len
 refine⟨a1,l1,c1,a2,l2,c2,a3,l3,c3,⟨rfl,by rw[b2.cells (by simp)];rfl⟩,?_⟩;refine(zN a1 a2 a3 l1 c1 l2 c2 l3 c3 h2).mono fun v h3 ⟨e,e3⟩=>⟨_,e,?_⟩;subst e3;rw[fG aj ac];have r1:h3.cellsAt h1.next 0 1=some [.slice a1 l1 c1]:=b2.one rfl;have r2:h3.cellsAt h1.next 1 1=some [.slice a2 l2 c2]:=b2.one rfl;have r3:h3.cellsAt h1.next 2 1=some [.slice a3 l3 c3]:=b2.one rfl;unfold cJ at hl ⊢;by_cases hL:N.leaf=true
 ·rw[if_pos hL];rw[if_pos hL]at hl ⊢;obtain⟨g1,_,s1⟩:=cD E (fF) q1;have hf:=eN (n:=l1) (by omega);unfold BB at hl ⊢;rw[Ug,Ug,cO,ae]at hl;refine⟨rfl,a1,l1,c1,⟨rfl,r1⟩,?_⟩;rw[aF,cQ,Up (by omega)];refine(wK l1 (by omega) h3).mono fun v h4 ⟨e,e4⟩=>⟨_,e,mJ (L:=[1]) (by rw[Wd];omega),?_⟩;subst e4;refine⟨fun vals m U=>∃i:Nat,[.string (str (be 1 1++(cU l1++(N.ps.take i).flatMap dT))),.int .i64 (i:Int)]=vals/\m=l1 - i/\i<=l1/\U=h4,⟨l1,0,?_,rfl,Uk _,rfl⟩,?_⟩
  ·simp only[Vn,List.flatMap_nil,VJ];rw[show ByteArray.mk (Array.mk [1])=str [1] from rfl,gJ]
   rfl
  rintro s n4 m U ⟨i,e,rfl,hi,rfl⟩;simp only[Ur,Value.int.injEq,Value.string.injEq,true_and,and_true]at e;obtain⟨rfl,rfl⟩:=e;refine⟨rfl,a1,l1,c1,⟨rfl,r1⟩,?_⟩;by_cases V:bO (i:Int) (aE l1)=true
  ·rw[if_pos V];have G:i < l1:=by rw[aC,aF]at V;omega
   obtain⟨q,eb⟩:∃q,N.ps[i]? = some q:=⟨_,Uh (by omega)⟩;obtain⟨ha,c0,af⟩:=oP s1 eb;have ag:a1.isSome=true/\bS (i:Int) l1:=⟨ha,Ui _,by omega⟩;have hle:=tW dT N.ps (i+1);rw[oD dT eb,Ug]at hle;have ao:(dT q).length=(cU q.1.size).length+q.1.size+((cU q.2.size).length+q.2.size):=by unfold dT;rw[Ug,textB_len,textB_len]
   have ap:=textB_len q.1;have aq:=textB_len q.2;refine⟨rfl,a1,l1,c1,⟨rfl,r1⟩,ag,rfl,q.1,⟨rfl,c0⟩,rfl,a1,l1,c1,⟨rfl,r1⟩,ag,rfl,q.2,⟨rfl,af⟩,?_⟩;refine(My q.1 (by omega) U).mono fun v h5 ⟨e,e5⟩=>?_;subst e5;refine⟨_,e,⟨rfl,af⟩,⟨rfl,r1⟩,mJ (by rw[Ug,Ug,cO];omega),?_⟩;refine(My q.2 (by omega) h5).mono fun v h6 ⟨e,e6⟩=>?_;subst e6;refine⟨_,e,?_,l1 - (i+1),by simp only[aI];omega,i+1,?_,rfl,by omega,rfl⟩
   ·rw[gJ];exact mJ (by rw[Ug,Ug,Ug,cO];omega)
   ·rw[show aG .i64 (i:Int) 1=_ from cN 1 i (by omega),gJ,gJ,oD dT eb];unfold dT;simp only[Ut]
  ·rw[if_neg V];have G:i=l1:=by
    by_cases hq:i=l1
    ·exact hq
    ·exact absurd (aC.2 (by rw[aF];omega)) V
   subst G;rw[Uj (by omega),ae];exact⟨rfl,E⟩
 ·rw[if_neg hL];rw[if_neg hL]at hl ⊢;have hk:=hk (by simpa using hL);obtain⟨g3,_,s3⟩:=cD E (fF) q3;obtain⟨g2,_,s2⟩:=cD E (fF) q2;have hf:=eN (n:=l3) (by omega);unfold pG at hl ⊢;rw[Ug,Ug,cO,ac]at hl;refine⟨rfl,a3,l3,c3,⟨rfl,r3⟩,?_⟩;rw[aF,cQ,Up (by omega)];refine(wK l3 (by omega) h3).mono fun v h4 ⟨e,e4⟩=>⟨_,e,mJ (L:=[2]) (by rw[Wd];omega),?_⟩;subst e4;refine⟨fun vals m U=>∃i:Nat,[.string (str (be 1 2++(cU l3++gB gb w N.K (N.ks.take i)))),.int .i64 (i:Int)]=vals/\m=l3 - i/\i<=l3/\U=h4,⟨l3,0,?_,rfl,Uk _,rfl⟩,?_⟩
  ·simp only[Vn];rw[show ByteArray.mk (Array.mk [2])=str [2] from rfl,gJ,show gB gb w N.K []=[] from rfl,VJ]
   rfl
  rintro s n4 m U ⟨i,e,rfl,hi,rfl⟩;simp only[Ur,Value.int.injEq,Value.string.injEq,true_and,and_true]at e;obtain⟨rfl,rfl⟩:=e;refine⟨rfl,a3,l3,c3,⟨rfl,r3⟩,?_⟩;by_cases V:bO (i:Int) (aE l3)=true
  ·rw[if_pos V];have G:i < l3:=by rw[aC,aF]at V;omega
   obtain⟨kd,eb⟩:∃q,N.ks[i]? = some q:=⟨_,Uh (by omega)⟩;have hle:=rW (g:=gb) (w:=w) (K:=N.K) N.ks (i+1);rw[oS eb,Ug]at hle;have O:∀L:LU,L=be 1 2++(cU l3++gB gb w N.K (N.ks.take i))++(if 0 < i then gI (N.K.getD (i - 1) .empty) else [])->
     ∃m',aI m' (l3 - i)/\∃j:Nat,[.string (str (be 1 2++(cU l3++gB gb w N.K (N.ks.take j)))),.int .i64 (j:Int)]=[Value.string (str (L++((if gb=true then be 4 kd.page else [])++kd.sum.take (inW w)))),.int .i64 (aG .i64 (i:Int) 1)]/\m'=l3 - j/\j<=l3/\U=U:=by
    rintro L rfl;refine⟨l3 - (i+1),by simp only[aI];omega,i+1,?_,rfl,by omega,rfl⟩;rw[show aG .i64 (i:Int) 1=_ from cN 1 i (by omega),oS eb];unfold kS;simp only[Ut]
   by_cases h0:dB (i:Int) 0=true
   ·rw[if_pos h0];have W:0 < i:=by rw[aS]at h0;omega
    obtain⟨sk,ek⟩:∃q,N.K[i - 1]? = some q:=⟨_,Uh (by omega)⟩;have ah:N.K.getD (i - 1) .empty=sk:=by rw[Uz,ek];rfl
    obtain⟨ha,ck⟩:=BF s2 ek;have aa:bB .i64 (i:Int) 1=((i - 1:Nat):Int):=by rw[bY (by omega) (by omega)];omega
    have ar:(gI sk).length<=(kS gb w N.K kd i).length:=by
     unfold kS;rw[if_pos W,ah,Ug,Ug];omega
    have ht:=textB_len sk;refine⟨rfl,a2,l2,c2,⟨rfl,r2⟩,by rw[aa];exact⟨ha,Ui _,by omega⟩,sk,by rw[aa];exact⟨rfl,ck⟩,?_⟩;refine(My sk (by omega) U).mono fun v h5 ⟨e,e5⟩=>?_;subst e5;refine⟨_,e,mJ (by rw[Ug,Ug,cO];omega),?_⟩;rw[gJ];refine IF (K:=fun s hx=>∃m',aI m' (l3 - i)/\∃j:Nat,[.string (str (be 1 2++(cU l3++gB gb w N.K (N.ks.take j)))),.int .i64 (j:Int)]=[Value.string s,.int .i64 (aG .i64 (i:Int) 1)]/\m'=l3 - j/\j<=l3/\hx=h5) b2 ad s3 eb (by rw[Ug,Ug,Ug,cO];omega) (O _ ?_);rw[if_pos W,ah]
   ·rw[if_neg h0];have W:¬0 < i:=by rw[aS]at h0;omega
    refine IF (K:=fun s hx=>∃m',aI m' (l3 - i)/\∃j:Nat,[.string (str (be 1 2++(cU l3++gB gb w N.K (N.ks.take j)))),.int .i64 (j:Int)]=[Value.string s,.int .i64 (aG .i64 (i:Int) 1)]/\m'=l3 - j/\j<=l3/\hx=U) b2 ad s3 eb (by rw[Ug,Ug,cO];omega) (O _ ?_);rw[if_neg W,VJ]
  ·rw[if_neg V];have G:i=l3:=by
    by_cases hq:i=l3
    ·exact hq
    ·exact absurd (aC.2 (by rw[aF];omega)) V
   subst G;rw[Uj (by omega),ac];exact⟨rfl,E⟩
theorem NF(p w:Int)(hp:0<=p/\p<=8192)(h:Hp):C 73 [fr p w] h fun v h'=>v = .int .i64 (p - 32)/\h'=h:=by
 refine uP ?_;refine sv Ip fun wf=>?_;intro O e1;obtain⟨b1,E,n1,G⟩:=aB wf e1;exact⟨rfl,p,⟨rfl,b1.one rfl⟩,by rw[bY (by omega) (by omega)],E⟩
theorem Ty(a1 a2 a3:OA)(l1 c1 l2 c2 l3 c3:Nat){N:NodeT}(O:N.K.length=l2)(U:N.ks.length=l3)(h:Hp):C 79 [.agg #[.slice a1 l1 c1,.slice a2 l2 c2,.slice a3 l3 c3]] h fun v h'=>v = .string (AK N)/\h'=h:=by
 refine uP ?_;refine sv LA fun wf=>?_;intro V e1;obtain⟨b1,G,n1,W⟩:=aB wf e1;refine⟨a1,l1,c1,a2,l2,c2,a3,l3,c3,⟨rfl,by rw[b1.cells (by simp)];rfl⟩,(zN a1 a2 a3 l1 c1 l2 c2 l3 c3 V).mono fun v aa ⟨e,e3⟩=>⟨_,e,?_⟩⟩;subst e3;rw[fG O U];unfold AK;by_cases E:N.leaf=true
 ·rw[if_pos E,if_pos E];exact⟨rfl,G⟩
 ·rw[if_neg E,if_neg E];exact⟨rfl,G⟩
theorem tQ(n:Nat):aE (aU (str (cU n)))=(iX n:Int):=rfl
theorem CZ(s:BA)(hs:s.size<=1099511627776):cC .u64 (aE (aU s))=((s.size:Nat):Int):=by
 rw[aF,cQ,Up (by have:aU s=s.size:=rfl;omega)];rfl
theorem QR{h:Hp}{n:Nat}{nv:Value}{N:NodeT}(x:NodeAt h n nv N)(p w:Int)(ag:N.ps.length<=1099511500000)(ah:N.K.length<=1099511500000)(ai:N.ks.length<=1099511500000):
  C 72 [fr p w,nv] h fun r h'=>(∃z:Int,r = .int .i64 z/\(Fr p w/\cS p w N->z=(gK w N:Int))/\(¬(Fr p w/\cS p w N)->z=0))/\h'=h:=by
 refine SCalls.trim (K:=fun r h'=>(∃z:Int,r = .int .i64 z/\(Fr p w/\cS p w N->z=(gK w N:Int))/\(¬(Fr p w/\cS p w N)->z=0))/\Kept h h') (of_decide_eq_true (by kernel_rfl)) ?_ fun v h' ⟨⟨z,e,e2⟩,k⟩=>⟨fS k,by rw[e];rfl,z,e,e2⟩;have x0:=x;obtain⟨a1,l1,c1,a2,l2,c2,a3,l3,c3,rfl,q1,q2,q3⟩:=x;refine sv Im fun wf=>?_;intro h1 e1 h2 e2;obtain⟨b1,k1,n1,aj⟩:=aB wf e1;obtain⟨b2,k2,n2,au⟩:=aB aj e2;have E:Kept h h2:=k1.trans wf k2 fF;have aa:=Kept.blk k2 b1;have rp:h2.cellsAt h.next 0 2=some [.int .i64 p,.int .i64 w]:=by rw[aa.cells (by simp)];rfl
 have rs:h2.cellsAt h1.next 0 3=some [.slice a1 l1 c1,.slice a2 l2 c2,.slice a3 l3 c3]:=by rw[b2.cells (by simp)];rfl
 have ak:N.K.length=l2:=by obtain⟨_,_,q⟩:=q2;exact q.len
 have ac:N.ks.length=l3:=by obtain⟨_,_,q⟩:=q3;exact q.len
 have al:N.ps.length=l1:=by obtain⟨_,_,q⟩:=q1;exact q.len
 refine⟨p,w,⟨rfl,rp⟩,a1,l1,c1,a2,l2,c2,a3,l3,c3,⟨rfl,rs⟩,?_⟩;refine(Gu (x0.keep E fF) p w ag ah ai).mono fun v h3 ⟨⟨e,e3,G⟩,e4⟩=>⟨e,e3,?_⟩;subst e4;by_cases he:cP e 0=true
 ·rw[if_pos he];rw[bA]at he;exact⟨⟨0,rfl,fun hg=>absurd (G.zero.2 hg) he,fun _=>rfl⟩,E⟩
 rw[if_neg he];have an:e=0:=by rw[bA]at he;omega
 obtain⟨hF,hG⟩:=G.zero.1 an;obtain⟨f1,f2,f3,f4⟩:=qF hF
 suffices hs:∀(z:Int) (hx:Hp),z=(gK w N:Int)->Kept h hx->((∃z':Int,Value.int .i64 z = .int .i64 z'/\(Fr p w/\cS p w N->z'=(gK w N:Int))/\(¬(Fr p w/\cS p w N)->z'=0))/\Kept h hx) by
  refine⟨a1,l1,c1,a2,l2,c2,a3,l3,c3,⟨rfl,rs⟩,?_⟩;refine(zN a1 a2 a3 l1 c1 l2 c2 l3 c3 h3).mono fun v h4 ⟨e,e4⟩=>⟨_,e,?_⟩;subst e4;rw[fG ak ac];have r1:h4.cellsAt h1.next 0 1=some [.slice a1 l1 c1]:=b2.one rfl;have r2:h4.cellsAt h1.next 1 1=some [.slice a2 l2 c2]:=b2.one rfl;have r3:h4.cellsAt h1.next 2 1=some [.slice a3 l3 c3]:=b2.one rfl;have ad:h4.cellsAt h.next 1 1=some [.int .i64 w]:=aa.one rfl;have PO:=oY (n:=l1) (by omega);have av:=oY (n:=l3) (by omega);by_cases hL:N.leaf=true
  ·rw[if_pos hL];have hP:=BJ hF hG hL;obtain⟨g1,_,s1⟩:=cD E (fF) q1;refine⟨rfl,a1,l1,c1,⟨rfl,r1⟩,?_⟩;rw[aF,cQ,Up (by omega)];refine(wK l1 (by omega) h4).mono fun v h5 ⟨e,e5⟩=>⟨_,e,?_⟩;subst e5;refine⟨fun vals m W=>∃i:Nat,[.int .i64 ((1+iX l1+((N.ps.take i).map mC).sum:Nat):Int),.int .i64 (i:Int)]=vals/\m=l1 - i/\i<=l1/\W=h5,⟨l1,0,?_,rfl,Uk _,rfl⟩,?_⟩
   ·rw[tQ,show(1:Int)=((1:Nat):Int) from rfl,addNat _ _ (by omega)];simp
   rintro z n3 m W ⟨i,e,rfl,hi,rfl⟩;simp only[Ur,Value.int.injEq,true_and,and_true]at e;obtain⟨rfl,rfl⟩:=e;refine⟨rfl,a1,l1,c1,⟨rfl,r1⟩,?_⟩;by_cases G:bO (i:Int) (aE l1)=true
   ·rw[if_pos G];have O:i < l1:=by rw[aC,aF]at G;omega
    obtain⟨q,eb⟩:∃q,N.ps[i]? = some q:=⟨_,Uh (by omega)⟩;have hq:=hP q (Uy eb);have ao:=nR q.1;have ax:=nR q.2;have ap:mC q=fA q.1+fA q.2:=rfl;obtain⟨ha,c0,aq⟩:=oP s1 eb;have ae:a1.isSome=true/\bS (i:Int) l1:=⟨ha,Ui _,by omega⟩;refine⟨rfl,a1,l1,c1,⟨rfl,r1⟩,ae,rfl,q.1,⟨rfl,c0⟩,rfl,a1,l1,c1,⟨rfl,r1⟩,ae,rfl,q.2,⟨rfl,aq⟩,?_⟩;rw[CZ q.1 (by omega)];refine(wK q.1.size (by omega) W).mono fun v h6 ⟨e,e6⟩=>⟨_,e,?_⟩;subst e6;rw[CZ q.2 (by omega)];refine(wK q.2.size (by omega) h6).mono fun v h7 ⟨e,e7⟩=>⟨_,e,l1 - (i+1),by simp only[aI];omega,i+1,?_,rfl,by omega,e7⟩;have ar:=mT mC 100000 N.ps i (by omega) hP;have U:fA q.1=iX q.1.size+q.1.size:=rfl;have af:fA q.2=iX q.2.size+q.2.size:=rfl;rw[tQ,tQ,show aE (aU q.1)=((q.1.size:Nat):Int) from rfl,show aE (aU q.2)=((q.2.size:Nat):Int) from rfl,addNat _ _ (by omega),addNat _ _ (by omega),addNat _ _ (by omega),addNat _ _ (by omega),pS mC eb,ap,U,af,show aG .i64 (i:Int) 1=_ from cN 1 i (by omega)]
    congr 3
    omega
   ·rw[if_neg G];have O:i=l1:=by
     by_cases hq:i=l1
     ·exact hq
     ·exact absurd (aC.2 (by rw[aF];omega)) G
    subst O;refine hs _ _ ?_ E;unfold gK;rw[if_pos hL,al,Uj (by omega)]
  ·rw[if_neg hL];have hK:=EY hF hG hL;obtain⟨wn,rfl⟩:∃wn:Nat,w=(wn:Int):=⟨w.toNat,by omega⟩;obtain⟨g2,_,s2⟩:=cD E (fF) q2;refine⟨rfl,a3,l3,c3,⟨rfl,r3⟩,rfl,a3,l3,c3,⟨rfl,r3⟩,rfl,(wn:Int),⟨rfl,ad⟩,?_⟩;rw[aF,cQ,Up (by omega)];refine(wK l3 (by omega) h4).mono fun v h5 ⟨e,e5⟩=>?_;subst e5;refine⟨_,e,⟨rfl,ad⟩,⟨rfl,r3⟩,?_⟩;have hmul:l3 * (4+wn)<=1099511500000 * 36:=WB (by omega) (by omega);have V:aG .i64 (aG .i64 1 (iX l3:Int)) (cY .i64 (l3:Int) (aG .i64 4 (wn:Int)))=((1+iX l3+l3 * (4+wn):Nat):Int):=by
    rw[show(1:Int)=((1:Nat):Int) from rfl,show(4:Int)=((4:Nat):Int) from rfl,addNat _ _ (by omega),addNat 4 wn (by omega)];have:cY .i64 (l3:Int) ((4+wn:Nat):Int)=((l3 * (4+wn):Nat):Int):=by
     unfold cY IntKind.wrap;rw[<-Int.natCast_mul];generalize l3 * (4+wn)=z at *;simp[IntKind.bits,IntKind.signed]
     omega
    rw[this,addNat _ _ (by omega)]
   refine⟨fun vals m W=>∃i:Nat,[.int .i64 ((1+iX l3+l3 * (4+wn)+((N.K.take i).map fA).sum:Nat):Int),.int .i64 (i:Int)]=vals/\m=l2 - i/\i<=l2/\W=h5,⟨l2,0,?_,rfl,Uk _,rfl⟩,?_⟩
   ·rw[tQ,V];simp
   rintro z n3 m W ⟨i,e,rfl,hi,rfl⟩;simp only[Ur,Value.int.injEq,true_and,and_true]at e;obtain⟨rfl,rfl⟩:=e;refine⟨rfl,a2,l2,c2,⟨rfl,r2⟩,?_⟩;by_cases G:bO (i:Int) (aE l2)=true
   ·rw[if_pos G];have O:i < l2:=by rw[aC,aF]at G;omega
    obtain⟨q,eb⟩:∃q,N.K[i]? = some q:=⟨_,Uh (by omega)⟩;have hq:=hK q (Uy eb);have ao:=nR q;have U:fA q=iX q.size+q.size:=rfl;obtain⟨ha,c0⟩:=BF s2 eb;refine⟨rfl,a2,l2,c2,⟨rfl,r2⟩,⟨ha,Ui _,by omega⟩,q,⟨rfl,c0⟩,?_⟩;rw[CZ q (by omega)];refine(wK q.size (by omega) W).mono fun v h7 ⟨e,e7⟩=>⟨_,e,l2 - (i+1),by simp only[aI];omega,i+1,?_,rfl,by omega,e7⟩;have ar:=mT fA 100000 N.K i (by omega) hK;rw[tQ,show aE (aU q)=((q.size:Nat):Int) from rfl,addNat _ _ (by omega),addNat _ _ (by omega),pS fA eb,U,show aG .i64 (i:Int) 1=_ from cN 1 i (by omega)];congr 3
    omega
   ·rw[if_neg G];have O:i=l2:=by
     by_cases hq:i=l2
     ·exact hq
     ·exact absurd (aC.2 (by rw[aF];omega)) G
    subst O;refine hs _ _ ?_ E;unfold gK;rw[if_neg hL,ac,Uj (by omega)]
    rfl
 rintro z hx hz hk;exact⟨⟨z,rfl,fun _=>hz,fun hn=>absurd ⟨hF,hG⟩ hn⟩,hk⟩
theorem NC{h:Hp}{n:Nat}{nv:Value}{N:NodeT}(x:NodeAt h n nv N)(p w:Int)(G:N.ps.length<=1099511500000)(V:N.K.length<=1099511500000)(O:N.ks.length<=1099511500000):
  C 57 [fr p w,nv] h fun r h'=>(∃(e:Int) (s:BA),r = .tuple #[.string s,.int .i64 e]/\MayIs p w N e/\(e=0->s=str (cJ false w N))/\(e≠0->s=ByteArray.mk #[]))/\h'=h:=by
 refine SCalls.trim (K:=fun r h'=>(∃(e:Int) (s:BA),r = .tuple #[.string s,.int .i64 e]/\MayIs p w N e/\(e=0->s=str (cJ false w N))/\(e≠0->s=ByteArray.mk #[]))/\Kept h h') (of_decide_eq_true (by kernel_rfl)) ?_ fun v h' ⟨⟨e,s,e1,e2⟩,k⟩=>⟨fS k,by rw[e1];rfl,e,s,e1,e2⟩;have x0:=x;obtain⟨a1,l1,c1,a2,l2,c2,a3,l3,c3,rfl,q1,q2,q3⟩:=x;refine sv Fa fun wf=>?_;intro h1 e1 h2 e2;obtain⟨b1,k1,n1,aa⟩:=aB wf e1;obtain⟨b2,k2,n2,ae⟩:=aB aa e2;have E:Kept h h2:=k1.trans wf k2 fF;have ac:=Kept.blk k2 b1;have W:h2.cellsAt h.next 0 2=some [.int .i64 p,.int .i64 w]:=by rw[ac.cells (by simp)];rfl
 have rs:h2.cellsAt h1.next 0 3=some [.slice a1 l1 c1,.slice a2 l2 c2,.slice a3 l3 c3]:=by rw[b2.cells (by simp)];rfl
 have x2:=x0.keep E fF;refine⟨p,w,⟨rfl,W⟩,a1,l1,c1,a2,l2,c2,a3,l3,c3,⟨rfl,rs⟩,?_⟩;refine(Gu x2 p w G V O).mono fun v h3 ⟨⟨e,e3,hc⟩,e4⟩=>⟨e,e3,?_⟩;subst e4;by_cases he:cP e 0=true
 ·rw[if_pos he];rw[bA]at he;exact⟨⟨e,_,rfl,.inl ⟨hc,he⟩,fun h=>absurd h he,fun _=>rfl⟩,E⟩
 rw[if_neg he];have ad:e=0:=by rw[bA]at he;omega
 obtain⟨hF,hG⟩:=hc.zero.1 ad;obtain⟨f1,f2,f3,f4⟩:=qF hF;refine⟨p,w,⟨rfl,W⟩,a1,l1,c1,a2,l2,c2,a3,l3,c3,⟨rfl,rs⟩,p,w,⟨rfl,W⟩,?_⟩;refine(QR x2 p w G V O).mono fun v h4 ⟨⟨z,e,hz,_⟩,e4⟩=>⟨z,e,?_⟩;subst e4;have hz:=hz ⟨hF,hG⟩;subst hz;refine⟨⟨rfl,W⟩,(NF p w ⟨by omega,f2⟩ h4).mono fun v h5 ⟨e,e5⟩=>⟨_,e,?_⟩⟩;subst e5;by_cases hg:dB (gK w N:Int) (p - 32)=true
 ·rw[if_pos hg];rw[aS]at hg;exact⟨⟨71,_,rfl,.inr (.inl ⟨hF,hG,hg,rfl⟩),fun h=>by omega,fun _=>rfl⟩,E⟩
 ·rw[if_neg hg];rw[aS]at hg;have U:=kB hG;have hle:(cJ false w N).length<=8192:=by
   obtain⟨wn,rfl⟩:∃wn:Nat,w=(wn:Int):=⟨w.toNat,by omega⟩;have:=mX (p:=p) (w:=wn) (N:=N) (by omega) false (U.imp id fun h=>by omega) U
   omega
  refine⟨p,w,⟨rfl,W⟩,a1,l1,c1,a2,l2,c2,a3,l3,c3,⟨rfl,rs⟩,?_⟩;refine(QU x2 p w false (fun hL=>by rcases U with U | U;rw[U]at hL;simp at hL;omega) (by omega) G O).mono fun v h6 ⟨e,e6⟩=>⟨_,e,?_⟩;subst e6;exact⟨⟨0,_,rfl,.inr (.inr ⟨hF,hG,by omega,rfl⟩),fun _=>rfl,fun h=>absurd rfl h⟩,E⟩
theorem QS{h:Hp}{n:Nat}{nv:Value}{N:NodeT}(x:NodeAt h n nv N)(p w:Int)(V:N.ps.length<=1099511500000)(ac:N.K.length<=1099511500000)(W:N.ks.length<=1099511500000):
  C 44 [fr p w,nv] h fun r h'=>(∃(e:Int) (s:BA),r = .tuple #[.string s,.int .i64 e]/\mN p w N e/\(e=0->s=str (cJ true w N))/\(e≠0->s=ByteArray.mk #[]))/\h'=h:=by
 refine SCalls.trim (K:=fun r h'=>(∃(e:Int) (s:BA),r = .tuple #[.string s,.int .i64 e]/\mN p w N e/\(e=0->s=str (cJ true w N))/\(e≠0->s=ByteArray.mk #[]))/\Kept h h') (of_decide_eq_true (by kernel_rfl)) ?_ fun v h' ⟨⟨e,s,e1,e2⟩,k⟩=>⟨fS k,by rw[e1];rfl,e,s,e1,e2⟩;have x0:=x;obtain⟨a1,l1,c1,a2,l2,c2,a3,l3,c3,rfl,q1,q2,q3⟩:=x;refine sv Io fun wf=>?_;intro h1 e1 h2 e2;obtain⟨b1,k1,n1,ah⟩:=aB wf e1;obtain⟨b2,k2,n2,an⟩:=aB ah e2;have E:Kept h h2:=k1.trans wf k2 fF;have ai:=Kept.blk k2 b1;have rp:h2.cellsAt h.next 0 2=some [.int .i64 p,.int .i64 w]:=by rw[ai.cells (by simp)];rfl
 have rs:h2.cellsAt h1.next 0 3=some [.slice a1 l1 c1,.slice a2 l2 c2,.slice a3 l3 c3]:=by rw[b2.cells (by simp)];rfl
 have aj:N.K.length=l2:=by obtain⟨_,_,q⟩:=q2;exact q.len
 have ak:N.ks.length=l3:=by obtain⟨_,_,q⟩:=q3;exact q.len
 have ao:N.ps.length=l1:=by obtain⟨_,_,q⟩:=q1;exact q.len
 have x2:=x0.keep E fF;refine⟨p,w,⟨rfl,rp⟩,a1,l1,c1,a2,l2,c2,a3,l3,c3,⟨rfl,rs⟩,?_⟩;refine(Gu x2 p w V ac W).mono fun v h3 ⟨⟨e,e3,U⟩,e4⟩=>⟨e,e3,?_⟩;subst e4;by_cases he:cP e 0=true
 ·rw[if_pos he];rw[bA]at he;have G:¬mO p w N:=fun h=>he (U.zero.2 ⟨h.1,h.2.1⟩);exact⟨⟨e,_,rfl,.inr (.inl ⟨G,.inl ⟨U,he⟩,he⟩),fun h=>absurd h he,fun _=>rfl⟩,E⟩
 rw[if_neg he];have al:e=0:=by rw[bA]at he;omega
 obtain⟨hF,hG⟩:=U.zero.1 al;obtain⟨f1,f2,f3,f4⟩:=qF hF;refine⟨a1,l1,c1,a2,l2,c2,a3,l3,c3,⟨rfl,rs⟩,?_⟩;refine(zN a1 a2 a3 l1 c1 l2 c2 l3 c3 h3).mono fun v h4 ⟨e,e4⟩=>⟨_,e,?_⟩;subst e4;rw[fG aj ak];have r1:h4.cellsAt h1.next 0 1=some [.slice a1 l1 c1]:=b2.one rfl;have r3:h4.cellsAt h1.next 2 1=some [.slice a3 l3 c3]:=b2.one rfl;refine⟨fun _=>rfl,a1,l1,c1,fun _=>⟨rfl,r1⟩,?_⟩;have hH:aR N.leaf (bX (aE l1) 0) false=true↔mO p w N:=by
  rw[bN,aV,aF];unfold mO
  constructor
  ·rintro⟨h1,h2⟩;exact⟨hF,hG,h1,by omega⟩
  ·rintro⟨_,_,h1,h2⟩;exact⟨h1,by omega⟩
 by_cases hh:aR N.leaf (bX (aE l1) 0) false=true
 ·rw[if_pos hh];exact⟨⟨70,_,rfl,.inl ⟨hH.1 hh,rfl⟩,fun h=>by omega,fun _=>rfl⟩,E⟩
 rw[if_neg hh];have G:¬mO p w N:=fun h=>hh (hH.2 h);refine⟨p,w,⟨rfl,rp⟩,a1,l1,c1,a2,l2,c2,a3,l3,c3,⟨rfl,rs⟩,p,w,⟨rfl,rp⟩,?_⟩;refine(QR x2 p w V ac W).mono fun v h5 ⟨⟨z,e,hz,_⟩,e5⟩=>⟨z,e,?_⟩;subst e5;have hz:=hz ⟨hF,hG⟩;subst hz;refine⟨⟨rfl,rp⟩,(NF p w ⟨by omega,f2⟩ h5).mono fun v h6 ⟨e,e6⟩=>⟨_,e,?_⟩⟩;subst e6;by_cases hg:dB (gK w N:Int) (p - 32)=true
 ·rw[if_pos hg];rw[aS]at hg;exact⟨⟨71,_,rfl,.inr (.inl ⟨G,.inr (.inl ⟨hF,hG,hg,rfl⟩),by omega⟩),fun h=>by omega,fun _=>rfl⟩,E⟩
 rw[if_neg hg];rw[aS]at hg;have hm:MayIs p w N 0:=.inr (.inr ⟨hF,hG,by omega,rfl⟩);have hk:=kB hG;have hle:(cJ true w N).length<=8192:=by
  obtain⟨wn,rfl⟩:∃wn:Nat,w=(wn:Int):=⟨w.toNat,by omega⟩;have:=mX (p:=p) (w:=wn) (N:=N) (by omega) true (hk.imp id fun h=>by omega) hk
  omega
 obtain⟨g3,_,s3⟩:=cD E (fF) q3;refine⟨fun vals m hh=>∃i:Nat,[.int .i64 (i:Int)]=vals/\m=l3 - i/\i<=l3/\(∀k∈N.ks.take i,qR k)/\hh=h6,⟨l3,0,rfl,rfl,Uk _,by simp,rfl⟩,?_⟩;rintro n3 m hh ⟨i,e,ap,hi,aa,rfl⟩;simp only[Ur,Value.int.injEq,true_and,and_true]at e;subst e;refine⟨rfl,a3,l3,c3,⟨rfl,r3⟩,?_⟩;by_cases U:bO (i:Int) (aE l3)=true
 ·rw[if_pos U];have ad:i < l3:=by rw[aC,aF]at U;omega
  obtain⟨O,eb⟩:∃O,N.ks[i]? = some O:=⟨_,Uh (by omega)⟩;obtain⟨ha,ae,_⟩:=vD s3 eb;have af:a3.isSome=true/\bS (i:Int) l3:=⟨ha,Ui _,by omega⟩;refine⟨rfl,a3,l3,c3,⟨rfl,r3⟩,af,rfl,(O.page:Int),⟨rfl,ae⟩,fun _=>rfl,a3,l3,c3,fun _=>⟨rfl,r3⟩,fun _=>af,fun _=>rfl,(O.page:Int),fun _=>⟨rfl,ae⟩,?_⟩;have ag:aR (bO (O.page:Int) 2) true (iE (O.page:Int) 2147483648)=true↔¬qR O:=by
   rw[cG,aC,cK];unfold qR
   omega
  by_cases hq:aR (bO (O.page:Int) 2) true (iE (O.page:Int) 2147483648)=true
  ·rw[if_pos hq];exact⟨⟨72,_,rfl,.inr (.inr (.inl ⟨G,hm,⟨O,Uy eb,ag.1 hq⟩,rfl⟩)),fun h=>by omega,fun _=>rfl⟩,E⟩
  ·rw[if_neg hq];refine⟨l3 - (i+1),by simp only[aI];omega,i+1,?_,rfl,by omega,?_,rfl⟩
   ·rw[show aG .i64 (i:Int) 1=_ from cN 1 i (by omega)]
   ·intro q hm;rw[VG,eb]at hm;rcases VF.1 hm with hm | hm
    ·exact aa q hm
    ·simp only[Option.toList_some,WC]at hm;subst hm;exact Classical.byContradiction fun h=>hq (ag.2 h)
 ·rw[if_neg U];have ad:i=l3:=by
   by_cases hq:i=l3
   ·exact hq
   ·exact absurd (aC.2 (by rw[aF];omega)) U
  subst ad;rw[Uj (by omega)]at aa;refine⟨p,w,⟨rfl,rp⟩,a1,l1,c1,a2,l2,c2,a3,_,c3,⟨rfl,rs⟩,?_⟩;refine(QU x2 p w true (fun hL=>by rcases hk with hk | hk;rw[hk]at hL;simp at hL;omega) (by omega) V W).mono fun v h8 ⟨e8,e9⟩=>⟨_,e8,?_⟩;subst e9;exact⟨⟨0,_,rfl,.inr (.inr (.inr ⟨G,hm,aa,rfl⟩)),fun _=>rfl,fun h=>absurd rfl h⟩,E⟩
end Go.Proofs.YtmapagggnigfpaaGreat.pk
namespace Go.Proofs.YtmapagggnigfpaaGreat.sb
open Go Go.Cn Go.Cn.Sha Go.Cn.Crc Go.Proofs Go.Proofs.YtmapagggnigfpaaGreat.vc
end Go.Proofs.YtmapagggnigfpaaGreat.sb
namespace Go.Proofs.YtmapagggnigfpaaGreat.vc
open Cn
open Value (int bool string slice pointer agg tuple)
variable {C:CT} {h:Hp} {K:KT}
end Go.Proofs.YtmapagggnigfpaaGreat.vc
namespace Go.Proofs.YtmapagggnigfpaaGreat.sb
open Go Go.Cn Go.Cn.Sha Go.Proofs Go.Proofs.YtmapagggnigfpaaGreat.vc
end Go.Proofs.YtmapagggnigfpaaGreat.sb
namespace Go.Proofs.YtmapagggnigfpaaGreat.vc
open Cn
open Value (int bool string slice pointer agg tuple)
variable {C:CT} {h:Hp} {K:KT}
def SN:FuncId->Bool:=fun f=>f==179
theorem RG{x n:Int}:vX C Tryz.prog SN eE Tryz.f179 [int .u32 x,int .i64 n] h K=(bR (cC .u64 n)/\bR (cC .u64 (bB .i64 32 n))/\K (int .u32 (tL .u32 (gL .u32 x (cC .u64 n)) (jM .u32 x (cC .u64 (bB .i64 32 n))))) h):=by kernel_rfl
def Ol:SH:=fun i=>if i=3 then [(3,144)] else if i=7 then [(3,144),(5,3)] else []
theorem RL{s:BA}:vX C Tryz.prog SN Ol Tryz.f170 [string s] h K=(∀b,b=h.alloc (oJ s) 5->∀g,g=b.alloc [int .u8 128] 5->∃a m n i,aQ Tryz.prog 144 144 (slice (some (Addr.mk h.next 0 (some 1))) (aU s) (aU s)) (slice (sB b.next) 1 1) g=some (slice a m n,i)/\∃(I:IT),(∃d,I [slice a m n] d i)/\∀a l c m h,I [slice a l c] m h->bW 64/\if cP (iO (aE l) 64) 56 then ∀b,b=h.alloc [int .u8 0] 5->∃j d n e,aQ Tryz.prog 144 144 (slice a l c) (slice (sB h.next) 1 1) b=some (slice j d n,e)/\∃f,aI f m/\I [slice j d n] f e else ∃(I:IT),(∃m,I [slice a l c,int .i64 7] m h)/\∀a l c n m h,I [slice a l c,int .i64 n] m h->if iE n 0 then bR (cC .u64 (cY .i64 8 n))/\∀b,b=h.alloc [int .u8 (cC .u8 (gL .u64 (cY .u64 (cC .u64 (aE (aU s))) 8) (cC .u64 (cY .i64 8 n))))] 5->∃k d o e,aQ Tryz.prog 144 144 (slice a l c) (slice (sB h.next) 1 1) b=some (slice k d o,e)/\∃f,aI f m/\I [slice k d o,int .i64 (bB .i64 n 1)] f e else K (slice a l c) h):=by kernel_rfl
def Ok:SH:=fun i=>if i=3 then [(7,257),(8,3)] else if i=7 then [(7,257),(9,3)] else if i=15 then [(12,257),(13,3)] else if i=25 then [(19,257),(20,3)] else []
theorem RK{O a1 a2:OA}{l0 c0 l1 c1 l2 c2:Nat}:vX C Tryz.prog SN Ok Tryz.f171 [slice O l0 c0,slice a1 l1 c1,slice a2 l2 c2] h K=(∃(I:IT),(∃(m:Nat),I [nS,int .i64 0] m h)/\∀(a:OA) (l c:Nat) (n:Int) (m:Nat) (h:Hp),I [slice a l c,int .i64 n] m h->if bO n 16 then(a2.isSome/\bS (cY .i64 4 n) l2)/\∃(i:Int),(rD h (blk a2) (aA (off a2) (cY .i64 4 n) 1) 1 [int .u8 i])/\bR 24/\(a2.isSome/\bS (aG .i64 (cY .i64 4 n) 1) l2)/\∃(g:Int),(rD h (blk a2) (aA (off a2) (aG .i64 (cY .i64 4 n) 1) 1) 1 [int .u8 g])/\bR 16/\(a2.isSome/\bS (aG .i64 (cY .i64 4 n) 2) l2)/\∃(f:Int),(rD h (blk a2) (aA (off a2) (aG .i64 (cY .i64 4 n) 2) 1) 1 [int .u8 f])/\bR 8/\(a2.isSome/\bS (aG .i64 (cY .i64 4 n) 3) l2)/\∃(p:Int),(rD h (blk a2) (aA (off a2) (aG .i64 (cY .i64 4 n) 3) 1) 1 [int .u8 p])/\∀(d:Hp),d=h.alloc [int .u32 (tL .u32 (tL .u32 (tL .u32 (jM .u32 (cC .u32 i) 24) (jM .u32 (cC .u32 g) 16)) (jM .u32 (cC .u32 f) 8)) (cC .u32 p))] 39->∃(A:OA) (o q:Nat) (j:Hp),aQ Tryz.prog 257 257 (slice a l c) (slice (sB h.next) 1 1) d=some (slice A o q,j)/\∃(k:Nat),aI k m/\I [slice A o q,int .i64 (aG .i64 n 1)] k j else ∃(I:IT),(∃(m:Nat),I [slice a l c,int .i64 16] m h)/\∀(a:OA) (l c:Nat) (n:Int) (m:Nat) (h:Hp),I [slice a l c,int .i64 n] m h->if bO n 64 then(a.isSome/\bS (bB .i64 n 15) l)/\∃(i:Int),(rD h (blk a) (aA (off a) (bB .i64 n 15) 1) 1 [int .u32 i])/\(a.isSome/\bS (bB .i64 n 15) l)/\∃(g:Int),(rD h (blk a) (aA (off a) (bB .i64 n 15) 1) 1 [int .u32 g])/\(a.isSome/\bS (bB .i64 n 15) l)/\∃(f:Int),(rD h (blk a) (aA (off a) (bB .i64 n 15) 1) 1 [int .u32 f])/\bR 3/\C 179 [int .u32 i,int .i64 7] h fun v d=>∃(p:Int),v=int .u32 p/\(rD d (blk a) (aA (off a) (bB .i64 n 15) 1) 1 [int .u32 f])/\(rD d (blk a) (aA (off a) (bB .i64 n 15) 1) 1 [int .u32 g])/\C 179 [int .u32 g,int .i64 18] d fun v d=>∃(q:Int),v=int .u32 q/\(rD d (blk a) (aA (off a) (bB .i64 n 15) 1) 1 [int .u32 f])/\(a.isSome/\bS (bB .i64 n 2) l)/\∃(t:Int),(rD d (blk a) (aA (off a) (bB .i64 n 2) 1) 1 [int .u32 t])/\(a.isSome/\bS (bB .i64 n 2) l)/\∃(s:Int),(rD d (blk a) (aA (off a) (bB .i64 n 2) 1) 1 [int .u32 s])/\(a.isSome/\bS (bB .i64 n 2) l)/\∃(r:Int),(rD d (blk a) (aA (off a) (bB .i64 n 2) 1) 1 [int .u32 r])/\bR 10/\C 179 [int .u32 t,int .i64 17] d fun v d=>∃(u:Int),v=int .u32 u/\(rD d (blk a) (aA (off a) (bB .i64 n 2) 1) 1 [int .u32 r])/\(rD d (blk a) (aA (off a) (bB .i64 n 2) 1) 1 [int .u32 s])/\C 179 [int .u32 s,int .i64 19] d fun v d=>∃(w:Int),v=int .u32 w/\(rD d (blk a) (aA (off a) (bB .i64 n 2) 1) 1 [int .u32 r])/\(a.isSome/\bS (bB .i64 n 16) l)/\∃(x:Int),(rD d (blk a) (aA (off a) (bB .i64 n 16) 1) 1 [int .u32 x])/\(a.isSome/\bS (bB .i64 n 7) l)/\∃(y:Int),(rD d (blk a) (aA (off a) (bB .i64 n 7) 1) 1 [int .u32 y])/\∀(j:Hp),j=d.alloc [int .u32 (aG .u32 (aG .u32 (aG .u32 x (fO .u32 (fO .u32 p q) (gL .u32 f 3))) y) (fO .u32 (fO .u32 u w) (gL .u32 r 10)))] 39->∃(b:OA) (o z:Nat) (E:Hp),aQ Tryz.prog 257 257 (slice a l c) (slice (sB d.next) 1 1) j=some (slice b o z,E)/\∃(k:Nat),aI k m/\I [slice b o z,int .i64 (aG .i64 n 1)] k E else ∃(A:OA) (m n:Nat) (d:Hp),aQ Tryz.prog 257 257 nS (slice O l0 c0) h=some (slice A m n,d)/\∃(I:IT),(∃(o:Nat),I [slice A m n,int .i64 0] o d)/\∀(b:OA) (e c:Nat) (n:Int) (m:Nat) (h:Hp),I [slice b e c,int .i64 n] m h->if bO n 64 then(b.isSome/\bS 4 e)/\∃(i:Int),(rD h (blk b) (aA (off b) 4 1) 1 [int .u32 i])/\(b.isSome/\bS 4 e)/\∃(g:Int),(rD h (blk b) (aA (off b) 4 1) 1 [int .u32 g])/\(b.isSome/\bS 4 e)/\∃(f:Int),(rD h (blk b) (aA (off b) 4 1) 1 [int .u32 f])/\C 179 [int .u32 i,int .i64 6] h fun v d=>∃(p:Int),v=int .u32 p/\(rD d (blk b) (aA (off b) 4 1) 1 [int .u32 f])/\(rD d (blk b) (aA (off b) 4 1) 1 [int .u32 g])/\C 179 [int .u32 g,int .i64 11] d fun v d=>∃(q:Int),v=int .u32 q/\(rD d (blk b) (aA (off b) 4 1) 1 [int .u32 f])/\C 179 [int .u32 f,int .i64 25] d fun v d=>∃(t:Int),v=int .u32 t/\(b.isSome/\bS 4 e)/\∃(s:Int),(rD d (blk b) (aA (off b) 4 1) 1 [int .u32 s])/\(b.isSome/\bS 5 e)/\∃(r:Int),(rD d (blk b) (aA (off b) 5 1) 1 [int .u32 r])/\(b.isSome/\bS 4 e)/\∃(u:Int),(rD d (blk b) (aA (off b) 4 1) 1 [int .u32 u])/\(b.isSome/\bS 6 e)/\∃(w:Int),(rD d (blk b) (aA (off b) 6 1) 1 [int .u32 w])/\(b.isSome/\bS 7 e)/\∃(x:Int),(rD d (blk b) (aA (off b) 7 1) 1 [int .u32 x])/\(a1.isSome/\bS n l1)/\∃(y:Int),(rD d (blk a1) (aA (off a1) n 1) 1 [int .u32 y])/\(a.isSome/\bS n l)/\∃(z:Int),(rD d (blk a) (aA (off a) n 1) 1 [int .u32 z])/\(b.isSome/\bS 0 e)/\∃(F:Int),(rD d (blk b) (aA (off b) 0 1) 1 [int .u32 F])/\(b.isSome/\bS 0 e)/\∃(D:Int),(rD d (blk b) (aA (off b) 0 1) 1 [int .u32 D])/\(b.isSome/\bS 0 e)/\∃(B:Int),(rD d (blk b) (aA (off b) 0 1) 1 [int .u32 B])/\C 179 [int .u32 F,int .i64 2] d fun v d=>∃(G:Int),v=int .u32 G/\(rD d (blk b) (aA (off b) 0 1) 1 [int .u32 B])/\(rD d (blk b) (aA (off b) 0 1) 1 [int .u32 D])/\C 179 [int .u32 D,int .i64 13] d fun v d=>∃(H:Int),v=int .u32 H/\(rD d (blk b) (aA (off b) 0 1) 1 [int .u32 B])/\C 179 [int .u32 B,int .i64 22] d fun v d=>∃(L:Int),v=int .u32 L/\(b.isSome/\bS 0 e)/\∃(M:Int),(rD d (blk b) (aA (off b) 0 1) 1 [int .u32 M])/\(b.isSome/\bS 1 e)/\∃(N:Int),(rD d (blk b) (aA (off b) 1 1) 1 [int .u32 N])/\(b.isSome/\bS 0 e)/\∃(P:Int),(rD d (blk b) (aA (off b) 0 1) 1 [int .u32 P])/\(b.isSome/\bS 2 e)/\∃(Q:Int),(rD d (blk b) (aA (off b) 2 1) 1 [int .u32 Q])/\(b.isSome/\bS 1 e)/\∃(R:Int),(rD d (blk b) (aA (off b) 1 1) 1 [int .u32 R])/\(b.isSome/\bS 2 e)/\∃(S:Int),(rD d (blk b) (aA (off b) 2 1) 1 [int .u32 S])/\(b.isSome/\bS 0 e)/\∃(T:Int),(rD d (blk b) (aA (off b) 0 1) 1 [int .u32 T])/\(b.isSome/\bS 1 e)/\∃(U:Int),(rD d (blk b) (aA (off b) 1 1) 1 [int .u32 U])/\(b.isSome/\bS 2 e)/\∃(V:Int),(rD d (blk b) (aA (off b) 2 1) 1 [int .u32 V])/\(b.isSome/\bS 3 e)/\∃(W:Int),(rD d (blk b) (aA (off b) 3 1) 1 [int .u32 W])/\(b.isSome/\bS 4 e)/\∃(X:Int),(rD d (blk b) (aA (off b) 4 1) 1 [int .u32 X])/\(b.isSome/\bS 5 e)/\∃(Y:Int),(rD d (blk b) (aA (off b) 5 1) 1 [int .u32 Y])/\(b.isSome/\bS 6 e)/\∃(Z:Int),(rD d (blk b) (aA (off b) 6 1) 1 [int .u32 Z])/\∀(j:Hp),j=d.alloc [int .u32 (aG .u32 (aG .u32 (aG .u32 (aG .u32 (aG .u32 (aG .u32 x (fO .u32 (fO .u32 p q) t)) (fO .u32 (iD .u32 s r) (iD .u32 (Em IntKind.u32 u) w))) y) z) (fO .u32 (fO .u32 G H) L)) (fO .u32 (fO .u32 (iD .u32 M N) (iD .u32 P Q)) (iD .u32 R S))),int .u32 T,int .u32 U,int .u32 V,int .u32 (aG .u32 W (aG .u32 (aG .u32 (aG .u32 (aG .u32 x (fO .u32 (fO .u32 p q) t)) (fO .u32 (iD .u32 s r) (iD .u32 (Em IntKind.u32 u) w))) y) z)),int .u32 X,int .u32 Y,int .u32 Z] 39->∃(k:Nat),aI k m/\I [slice (sB d.next) 8 8,int .i64 (aG .i64 n 1)] k j else ∃(I:IT),(∃(m:Nat),I [nS,int .i64 0] m h)/\∀(a:OA) (l c:Nat) (n:Int) (m:Nat) (h:Hp),I [slice a l c,int .i64 n] m h->if bO n 8 then(O.isSome/\bS n l0)/\∃(i:Int),(rD h (blk O) (aA (off O) n 1) 1 [int .u32 i])/\(b.isSome/\bS n e)/\∃(g:Int),(rD h (blk b) (aA (off b) n 1) 1 [int .u32 g])/\∀(d:Hp),d=h.alloc [int .u32 (aG .u32 i g)] 39->∃(aa:OA) (o f:Nat) (j:Hp),aQ Tryz.prog 257 257 (slice a l c) (slice (sB h.next) 1 1) d=some (slice aa o f,j)/\∃(k:Nat),aI k m/\I [slice aa o f,int .i64 (aG .i64 n 1)] k j else K (slice a l c) h):=by kernel_rfl
def Oo:SH:=fun i=>if i=4 then [(6,257),(7,3)] else if i=9 then [(9,3)] else []
theorem RQ{E a1:OA}{G O l1 c1:Nat}{s:BA}:vX C Tryz.prog SN Oo Tryz.f146 [agg (Array.mk [slice E G O,slice a1 l1 c1]),string s] h K=(∀b,b=h.alloc [slice E G O,slice a1 l1 c1] 259->∀j,j=b.alloc fH 41->C 170 [string s] j fun v k=>∃a l c,v=slice a l c/\pA h.next 0/\∃o p q,(rD k h.next 0 1 [slice o p q])/\∃(I:IT),(∃m,I [slice o p q,int .i64 0] m k)/\∀e g r n m d,I [slice e g r,int .i64 n] m d->if bO n (aE l) then pA h.next 0/\∃t l u,(rD d h.next 1 1 [slice t l u])/\(jO n (aG .i64 n 64) (aE c) (aE c)/\nK 1 a)/\C 171 [slice e g r,slice t l u,slice (vO n 1 a) (dO (aG .i64 n 64) n) (dO (aE c) n)] d fun v b=>∃a l c,v=slice a l c/\∃f,aI f m/\I [slice a l c,int .i64 (aG .i64 n 64)] f b else ∀w,w=d.alloc fH 41->∃(I:IT),(∃m,I [int .i64 0] m w)/\∀n m h,I [int .i64 n] m h->if bO n 32 then bW 4/\(e.isSome/\bS (eP .i64 n 4) g)/\∃x,(rD h (blk e) (aA (off e) (eP .i64 n 4) 1) 1 [int .u32 x])/\bW 4/\bR (cC .u64 (bB .i64 24 (cY .i64 8 (iO n 4))))/\(pA d.next 0/\bS n 32)/\pA d.next (aA 0 n 1)/\∃b,h.store d.next (aA 0 n 1) [int .u8 (cC .u8 (gL .u32 x (cC .u64 (bB .i64 24 (cY .i64 8 (iO n 4))))))]=some b/\∃f,aI f m/\I [int .i64 (aG .i64 n 1)] f b else ∃D,(rD h d.next 0 32 ((aK .u8 32 D)))/\pA b.next 0/\∃i,h.store b.next 0 ((aK .u8 32 D))=some i/\∃D,(rD i b.next 0 32 ((aK .u8 32 D)))/\K (agg (Array.mk ((aK .u8 32 D)))) i):=by kernel_rfl
theorem RP:vX C Tryz.prog SN eE Tryz.f147 [] h K=(∀b,b=h.alloc [nS,nS] 259->∀d,d=b.alloc [int .u32 1779033703,int .u32 3144134277,int .u32 1013904242,int .u32 2773480762,int .u32 1359893119,int .u32 2600822924,int .u32 528734635,int .u32 1541459225] 39->∀f,f=d.alloc [int .u32 1116352408,int .u32 1899447441,int .u32 3049323471,int .u32 3921009573,int .u32 961987163,int .u32 1508970993,int .u32 2453635748,int .u32 2870763221,int .u32 3624381080,int .u32 310598401,int .u32 607225278,int .u32 1426881987,int .u32 1925078388,int .u32 2162078206,int .u32 2614888103,int .u32 3248222580,int .u32 3835390401,int .u32 4022224774,int .u32 264347078,int .u32 604807628,int .u32 770255983,int .u32 1249150122,int .u32 1555081692,int .u32 1996064986,int .u32 2554220882,int .u32 2821834349,int .u32 2952996808,int .u32 3210313671,int .u32 3336571891,int .u32 3584528711,int .u32 113926993,int .u32 338241895,int .u32 666307205,int .u32 773529912,int .u32 1294757372,int .u32 1396182291,int .u32 1695183700,int .u32 1986661051,int .u32 2177026350,int .u32 2456956037,int .u32 2730485921,int .u32 2820302411,int .u32 3259730800,int .u32 3345764771,int .u32 3516065817,int .u32 3600352804,int .u32 4094571909,int .u32 275423344,int .u32 430227734,int .u32 506948616,int .u32 659060556,int .u32 883997877,int .u32 958139571,int .u32 1322822218,int .u32 1537002063,int .u32 1747873779,int .u32 1955562222,int .u32 2024104815,int .u32 2227730452,int .u32 2361852424,int .u32 2428436474,int .u32 2756734187,int .u32 3204031479,int .u32 3329325298] 39->pA h.next 0/\∃e,f.store h.next 0 [slice (sB b.next) 8 8,slice (sB d.next) 64 64]=some e/\∃a l c g i j,(rD e h.next 0 2 [slice a l c,slice g i j])/\K (agg #[slice a l c,slice g i j]) e):=by kernel_rfl
theorem RT{s:BA}:vX C Tryz.prog SN eE Tryz.f123 [string s] h K=(∀b,b=h.alloc fH 41->C 147 [] b fun v b=>∃a l c e f g,v=agg #[slice a l c,slice e f g]/\C 146 [agg #[slice a l c,slice e f g],string s] b fun v b=>∃D,v=agg (Array.mk ((aK .u8 32 D)))/\pA h.next 0/\∃d,b.store h.next 0 ((aK .u8 32 D))=some d/\∃D,(rD d h.next 0 32 ((aK .u8 32 D)))/\K (agg (Array.mk ((aK .u8 32 D)))) d):=by kernel_rfl
end Go.Proofs.YtmapagggnigfpaaGreat.vc
namespace Go.Proofs.YtmapagggnigfpaaGreat.sb
open Go Go.Cn Go.Cn.Sha Go.Proofs Go.Proofs.YtmapagggnigfpaaGreat.vc
theorem Ac{x n:Nat}(E:gF x)(h0:0 < n)(O:n < 32)(h:Hp):C 179 [.int .u32 x,.int .i64 n] h fun v h'=>v = .int .u32 (rot n x:Nat)/\h'=h:=by
 refine pk.sv RG fun wf=>?_;have e1:cC .u64 (n:Int)=(n:Nat):=by unfold cC;rw[wrap_u64,Up (by omega)]
 have e2:bB .i64 32 (n:Int)=((32 - n:Nat):Int):=by rw[bY (by omega) (by omega)];omega
 have G:cC .u64 ((32 - n:Nat):Int)=((32 - n:Nat):Int):=by unfold cC;rw[wrap_u64,Up (by omega)]
 rw[e1,e2,G,shrW_nat _ _ _ (show n<=32 by omega),pT _ _ (by omega),tK (E.shr n) (.mod _)];exact⟨Ui _,Ui _,rfl,rfl⟩
theorem Ib:AppT Tryz.prog 257 257 39 1 4:=AppT.of _ (by kernel_rfl)
theorem UG(s:BA)(h:Hp)(hs:s.size<=1073741824):C 170 [.string s] h fun v h'=>∃a l,v = .slice a l l/\l=(pad (bytes8 s)).length/\Bd h' 1 (h.next<=·) a l l ((pad (bytes8 s)).map u8)/\Kept h h':=by
 refine pk.sv RL fun wf=>?_;intro h1 e1 h2 e2;obtain⟨b1,k1,n1,ac⟩:=aB wf e1;have hlen:(bytes8 s).length=s.size:=by simp[bytes8]
 rw[uE]at b1;obtain⟨a,h3,x1,x2,x3,x4⟩:=CY ac sR (S:=(h.next<=·)) (fun g E=>by omega) b1 (l:=s.size) (by simp[hlen]) (Uf _) e2 rfl rfl (bM (by omega));refine⟨a,s.size+1,s.size+1,h3,x1,?_⟩;have k3:Kept h h3:=k1.trans wf x3 fun g E hs=>by omega
 refine⟨fun vals m G=>∃(a:OA) (j:Nat),[.slice a (s.size+1+j) (s.size+1+j)]=vals/\m=dD s.size - j/\j<=dD s.size/\Wf G/\Kept h G/\Bd G 1 (h.next<=·) a (s.size+1+j) (s.size+1+j) ((bytes8 s++128::List.replicate j 0).map u8),⟨dD s.size,a,0,rfl,rfl,Uk _,x4,k3,by simpa[u8]using x2⟩,?_⟩;rintro a l c m G ⟨a',j,e,rfl,hj,V,kh,bd⟩;simp at e;obtain⟨rfl,rfl,rfl⟩:=e;refine⟨by simp[bW],?_⟩;have hz:dD s.size < 64:=Nat.mod_lt _ (by decide);rw[QM];by_cases hc:cP (((s.size+1+j) % 64:Nat):Int) 56=true
 ·rw[if_pos hc];rw[bA]at hc;have W:j < dD s.size:=by
   unfold dD at *
   omega
  intro h4 e4;obtain⟨a2,h5,y1,y2,y3,y4⟩:=Bd.append1 V sR (S:=(h.next<=·)) (fun g E=>by have:=kh.next;omega) bd e4 rfl rfl (bM (by omega));refine⟨a2,_,_,h5,y1,dD s.size - (j+1),by simp only[aI];omega,a2,j+1,rfl,rfl,by omega,y4,kh.trans wf y3 fun g E hs=>by omega,?_⟩;rw[List.replicate_succ'];show Bd h5 1 (h.next<=·) a2 (s.size+1+j+1) (s.size+1+j+1) _;simpa[u8]using y2
 ·rw[if_neg hc];have af:((s.size+1+j) % 64:Nat)=56:=by
   by_cases hq:((s.size+1+j) % 64:Nat)=56
   ·exact hq
   ·exact absurd (bA.2 (by omega)) hc
  have W:j=dD s.size:=by
   unfold dD at *
   omega
  subst W;refine⟨fun vals m G=>∃(a:OA) (j:Nat),[.slice a (s.size+1+dD s.size+j) (s.size+1+dD s.size+j),.int .i64 (7 - (j:Int))]=vals/\m=8 - j/\j<=8/\Wf G/\Kept h G/\Bd G 1 (h.next<=·) a (s.size+1+dD s.size+j) (s.size+1+dD s.size+j) ((bytes8 s++128::(List.replicate (dD s.size) 0++(fE s.size).take j)).map u8),⟨8,a',0,rfl,rfl,Uk _,V,kh,by simpa using bd⟩,?_⟩;rintro a l c n m h6 ⟨a3,j,e,rfl,hj,ad,k6,O⟩;simp at e;obtain⟨⟨rfl,rfl,rfl⟩,rfl⟩:=e;by_cases E:iE (7 - (j:Int)) 0=true
  ·rw[if_pos E];rw[cK]at E;have U:j < 8:=by omega
   have m1:cY .i64 8 (7 - (j:Int))=((56 - 8 * j:Nat):Int):=by
    unfold cY;rw[show(8 * (7 - (j:Int)))=((56 - 8 * j:Nat):Int) by omega];have:=cF (a:=((56 - 8 * j:Nat):Int)) (b:=0) (by omega) (by omega);unfold aG at this;simpa using this
   have m2:cC .u64 ((56 - 8 * j:Nat):Int)=((56 - 8 * j:Nat):Int):=by unfold cC;rw[wrap_u64,Up (by omega)]
   have m3:cY .u64 (cC .u64 (aE (aU s))) 8=((s.size * 8 % 18446744073709551616:Nat):Int):=SY s.size;rw[m1,m2,m3,shrW_nat _ _ _ (show 56 - 8 * j<=64 by omega)];have m4:∀x:Nat,cC .u8 (x:Int)=((x % 256:Nat):Int):=fun x=>by unfold cC;rw[wrap_u8]
   rw[m4];refine⟨Ui _,?_⟩;have m5:=rV s.size j U;generalize (s.size * 8 % 18446744073709551616) >>> (56 - 8 * j) % 256=bt at m5 ⊢;clear m1 m2 m3 m4;intro h7 e7;obtain⟨a2,h8,y1,y2,y3,y4⟩:=Bd.append1 ad sR (S:=(h.next<=·)) (fun g E=>by have:=k6.next;omega) O e7 rfl rfl (bM (by omega));refine⟨a2,_,_,h8,y1,8 - (j+1),by simp only[aI];omega,a2,j+1,?_,rfl,by omega,y4,k6.trans wf y3 fun g E hs=>by omega,?_⟩
   ·rw[bY (by omega) (by omega),show(7 - (j:Int) - 1)=7 - ((j+1:Nat):Int) by omega]
    rfl
   ·rw[m5];show Bd h8 1 (h.next<=·) a2 (s.size+1+dD s.size+j+1) (s.size+1+dD s.size+j+1) _;simpa[u8]using y2
  ·rw[if_neg E];have U:j=8:=by
    by_cases hq:j=8
    ·exact hq
    ·exact absurd (cK.2 (by omega)) E
   subst U;have aa:(fE s.size).length=8:=rfl;have hp:(bytes8 s++128::(List.replicate (dD s.size) 0++(fE s.size).take 8))=pad (bytes8 s):=by
    unfold pad;rw[hlen,Uj (by rw[aa];omega)]
   rw[hp]at O;have ae:(pad (bytes8 s)).length=s.size+1+dD s.size+8:=by
    unfold pad;simp only[Ug,Ux,WQ,hlen,aa]
    omega
   exact⟨a3,_,rfl,ae.symm,O,k6⟩
set_option maxRecDepth 4000 in
theorem UF{h:Hp}{g0 g1 g2:ON}{a0 a1 a2:OA}{c0 c1 c2:Nat}{hs bs:LN}(s0:AE h g0 a0 8 c0 hs)(s1:AE h g1 a1 64 c1 K)(s2:UX h g2 a2 64 c2 bs)(hb:∀b∈bs,b < 256)(hw:∀w∈hs,gF w):
  C 171 [.slice a0 8 c0,.slice a1 64 c1,.slice a2 64 c2] h fun v h'=>∃a,v = .slice a 8 8/\Bd h' 1 (h.next<=·) a 8 8 ((block hs bs).map u32)/\Kept h h':=by
 refine pk.sv RK fun wf=>?_;have ar:bs.length=64:=s2.len;have aa:hs.length=8:=s0.len;have bk:=uM 16 bs ar;have bl:=xQ 16 bs ar hb;refine⟨fun vals m O=>∃(a:OA) (i:Nat),[.slice a i i,.int .i64 (i:Int)]=vals/\m=16 - i/\i<=16/\Wf O/\Kept h O/\Bd O 1 (h.next<=·) a i i (((words bs).take i).map u32),⟨16,none,0,rfl,rfl,Uk _,wf,Keep.refl _ _,Bd.nil _ _ _⟩,?_⟩;rintro a l c n m h1 ⟨a',i,e,rfl,hi,au,k1,ai⟩;simp at e;obtain⟨⟨rfl,rfl,rfl⟩,rfl⟩:=e;by_cases E:bO (i:Int) 16=true
 ·rw[if_pos E];have ac:i < 16:=by rw[aC]at E;omega
  have q0:=Rb ac;have q1:aG .i64 ((4 * i:Nat):Int) 1=((4 * i+1:Nat):Int):=cN 1 (by omega);have q2:aG .i64 ((4 * i:Nat):Int) 2=((4 * i+2:Nat):Int):=cN 2 (by omega);have q3:aG .i64 ((4 * i:Nat):Int) 3=((4 * i+3:Nat):Int):=cN 3 (by omega);rw[q0,q1,q2,q3];have e0:bs[4 * i]? = some (bs[4 * i]'(by omega)):=Uh _;have e1:bs[4 * i+1]? = some (bs[4 * i+1]'(by omega)):=Uh _;have e2:bs[4 * i+2]? = some (bs[4 * i+2]'(by omega)):=Uh _;have e3:bs[4 * i+3]? = some (bs[4 * i+3]'(by omega)):=Uh _;generalize bs[4 * i]'(by omega)=b0 at e0;generalize bs[4 * i+1]'(by omega)=b1 at e1;generalize bs[4 * i+2]'(by omega)=b2 at e2;generalize bs[4 * i+3]'(by omega)=b3 at e3;have t2:=s2.keep k1 fF;refine⟨(uL t2 e0).1,_,(uL t2 e0).2,by simp[bR],(uL t2 e1).1,_,(uL t2 e1).2,by simp[bR],(uL t2 e2).1,_,(uL t2 e2).2,by simp[bR],(uL t2 e3).1,_,(uL t2 e3).2,?_⟩;intro h4 e4;rw[Hf (hb _ (Uy e0)) (hb _ (Uy e1)) (hb _ (Uy e2)) (hb _ (Uy e3))]at e4
  obtain⟨a2,h5,y1,y2,y3,y4⟩:=Bd.append1 au Ib (S:=(h.next<=·)) (fun g W=>by have:=k1.next;omega) ai e4 rfl rfl (bM (by omega));refine⟨a2,_,_,h5,y1,16 - (i+1),by simp only[aI];omega,a2,i+1,?_,rfl,by omega,y4,k1.trans wf y3 fun g W hs=>by omega,?_⟩
  ·rw[show aG .i64 (i:Int) 1=((i+1:Nat):Int) from cN 1 (by omega)]
  ·rw[VG,uN i bs e0 e1 e2 e3];simpa[u32]using y2
 ·rw[if_neg E];have ac:i=16:=by
   by_cases hq:i=16
   ·exact hq
   ·exact absurd (aC.2 (by omega)) E
  subst ac;rw[Uj (by omega)]at ai;refine⟨fun vals m O=>∃(a:OA) (i:Nat) (r:LN),[.slice a i i,.int .i64 (i:Int)]=vals/\m=64 - i/\16<=i/\i<=64/\r.length=i/\(∀w∈r,gF w)/\Ga (64 - i) r=Ga 48 (words bs).reverse/\Wf O/\Kept h O/\Bd O 1 (h.next<=·) a i i (r.reverse.map u32),
   ⟨48,a',16,(words bs).reverse,rfl,rfl,Uf _,by omega,by simp[bk],fun w hx=>bl w (List.mem_reverse.1 hx),rfl,au,k1,by rw[List.reverse_reverse];exact ai⟩,?_⟩
  rintro a l c n m h2 ⟨a3,i,r,e,rfl,bu,bv,aj,ak,av,al,k2,ad⟩;simp at e;obtain⟨⟨rfl,rfl,rfl⟩,rfl⟩:=e;by_cases E:bO (i:Int) 64=true
  ·rw[if_pos E];have af:i < 64:=by rw[aC]at E;omega
   have bm:bB .i64 (i:Int) 15=((i - 15:Nat):Int):=AL (b:=15) (by omega) (by omega);have q2:bB .i64 (i:Int) 2=((i - 2:Nat):Int):=AL (b:=2) (by omega) (by omega);have bn:bB .i64 (i:Int) 16=((i - 16:Nat):Int):=AL (b:=16) (by omega) (by omega);have q7:bB .i64 (i:Int) 7=((i - 7:Nat):Int):=AL (b:=7) (by omega) (by omega);rw[bm,q2,bn,q7];obtain⟨g,t⟩:=Ia ad (by simp[aj]);have G:=uL t (i:=i - 15) (by rw[show i - 15=r.length - 1 - 14 by omega];exact tE (by omega));have r2:=uL t (i:=i - 2) (by rw[show i - 2=r.length - 1 - 1 by omega];exact tE (by omega));have ax:=uL t (i:=i - 16) (by rw[show i - 16=r.length - 1 - 15 by omega];exact tE (by omega));have r7:=uL t (i:=i - 7) (by rw[show i - 7=r.length - 1 - 6 by omega];exact tE (by omega));have an:=xH ak 14;have w1:=xH ak 1;refine⟨G.1,_,G.2,G.1,_,G.2,G.1,_,G.2,by simp[bR],?_⟩;refine(Ac an (n:=7) (by omega) (by omega) h2).mono fun v h3 ⟨e1,e2⟩=>?_;subst e2
   refine⟨_,e1,G.2,G.2,?_⟩;refine(Ac an (n:=18) (by omega) (by omega) h3).mono fun v h4 ⟨e1,e2⟩=>?_;subst e2;refine⟨_,e1,G.2,r2.1,_,r2.2,r2.1,_,r2.2,r2.1,_,r2.2,by simp[bR],?_⟩;refine(Ac w1 (n:=17) (by omega) (by omega) h4).mono fun v h5 ⟨e1,e2⟩=>?_;subst e2;refine⟨_,e1,r2.2,r2.2,?_⟩;refine(Ac w1 (n:=19) (by omega) (by omega) h5).mono fun v h6 ⟨e1,e2⟩=>?_;subst e2;refine⟨_,e1,r2.2,ax.1,_,ax.2,r7.1,_,r7.2,?_⟩;intro h7 e7;rw[QL an,QK w1,iL,iL,iL]at e7;obtain⟨a4,h8,y1,y2,y3,y4⟩:=Bd.append1 al Ib (S:=(h.next<=·)) (fun g W=>by have:=k2.next;omega) ad e7 rfl rfl (bM (by omega));refine⟨a4,_,_,h8,y1,64 - (i+1),by simp only[aI];omega,a4,i+1,Ae r::r,?_,rfl,by omega,by omega,by simp[aj],?_,?_,y4,k2.trans wf y3 fun g W hs=>by omega,?_⟩
   ·rw[show aG .i64 (i:Int) 1=((i+1:Nat):Int) from cN 1 (by omega)]
   ·intro w hx;rcases VM.1 hx with rfl | hx
    ·exact .add _ _
    ·exact ak w hx
   ·rw[<-av,show 64 - i=(64 - (i+1))+1 by omega]
    rfl
   ·rw[List.reverse_cons,VY];exact y2
  ·rw[if_neg E];have af:i=64:=by
    by_cases hq:i=64
    ·exact hq
    ·exact absurd (aC.2 (by omega)) E
   subst af;have ay:r.reverse=iT bs:=by unfold iT;rw[<-av];rfl
   rw[ay]at ad;have az:(iT bs).length=64:=by rw[<-ay];simp[aj]
   have ag:=ad.bound al;have hd:=lR ((s0.keep k2 fF).sl);obtain⟨a4,h3,y1,y2,y3,y4⟩:=Bd.append al Ib (S:=(h2.next<=·)) (fun g W=>W) (Bd.nil _ _ _) hd (by rw[<-iJ];simp[aa]) (by rw[<-iJ];exact sP _) (bM (by omega));refine⟨a4,_,_,h3,y1,?_⟩;have k3:Kept h h3:=k2.trans wf y3 fun g W hs=>by have:=k2.next;omega
   obtain⟨gw,tw⟩:=Ia (ag.keep y3 fun x hx q=>by omega) az;rw[VH]at y2;obtain⟨gs,_,ts⟩:=y2.slT aa;have a9:AE h3 gs a4 8 8 (nW (wP hs)):=by rw[QO aa];exact ts
   refine⟨fun vals m O=>∃(a:OA) (c t:Nat) (st:St),[.slice a 8 c,.int .i64 (t:Int)]=vals/\m=64 - t/\t<=64/\W8 st/\rounds (K.drop t) ((iT bs).drop t) st=rounds K (iT bs) (wP hs)/\Wf O/\Kept h O/\(∃g,AE O g a 8 c (nW st))/\AE O gw a3 64 64 (iT bs),
    ⟨64,a4,8,0,wP hs,rfl,rfl,Uk _,QH aa hw,rfl,y4,k3,⟨gs,a9⟩,tw⟩,?_⟩
   clear y1 y2 y3 y4 a9 ts tw ad ag hd;rintro a5 l c n m h4 ⟨a6,c6,t,st,e,rfl,ht,dN,ba,ao,k4,⟨g4,t4⟩,tw⟩;simp at e;obtain⟨⟨rfl,rfl,rfl⟩,rfl⟩:=e;by_cases E:bO (t:Int) 64=true
   ·rw[if_pos E];have ah:t < 64:=by rw[aC]at E;omega
    have ek:K[t]? = some (K[t]'(by rw[AG];omega)):=Uh _;generalize K[t]'(by rw[AG];omega)=k at ek;have ew:(iT bs)[t]? = some ((iT bs)[t]'(by omega)):=Uh _;generalize (iT bs)[t]'(by omega)=w at ew;have rk:=uL (s1.keep k4 fF) ek;have bb:=uL tw ew;have U:=uL t4 (i:=0) (x:=st.a) rfl;have R1:=uL t4 (i:=1) (x:=st.b) rfl;have R2:=uL t4 (i:=2) (x:=st.c) rfl;have R3:=uL t4 (i:=3) (x:=st.d) rfl;have V:=uL t4 (i:=4) (x:=st.e) rfl;have R5:=uL t4 (i:=5) (x:=st.f) rfl;have R6:=uL t4 (i:=6) (x:=st.g) rfl;have R7:=uL t4 (i:=7) (x:=st.h) rfl;obtain⟨ha,bf,bg,hd,he,hf,W,bo⟩:=dN;refine⟨V.1,_,V.2,V.1,_,V.2,V.1,_,V.2,?_⟩;refine(Ac he (n:=6) (by omega) (by omega) h4).mono fun v h5 ⟨e1,e2⟩=>?_;subst e2;refine⟨_,e1,V.2,V.2,?_⟩;refine(Ac he (n:=11) (by omega) (by omega) h5).mono fun v h6 ⟨e1,e2⟩=>?_;subst e2;refine⟨_,e1,V.2,?_⟩;refine(Ac he (n:=25) (by omega) (by omega) h6).mono fun v h7 ⟨e1,e2⟩=>?_;subst e2;refine⟨_,e1,V.1,_,V.2,R5.1,_,R5.2,V.1,_,V.2,R6.1,_,R6.2,R7.1,_,R7.2,rk.1,_,rk.2,bb.1,_,bb.2,U.1,_,U.2,U.1,_,U.2,U.1,_,U.2,?_⟩
    refine(Ac ha (n:=2) (by omega) (by omega) h7).mono fun v h8 ⟨e1,e2⟩=>?_;subst e2;refine⟨_,e1,U.2,U.2,?_⟩;refine(Ac ha (n:=13) (by omega) (by omega) h8).mono fun v h9 ⟨e1,e2⟩=>?_;subst e2;refine⟨_,e1,U.2,?_⟩;refine(Ac ha (n:=22) (by omega) (by omega) h9).mono fun v bw ⟨e1,e2⟩=>?_;subst e2;refine⟨_,e1,U.1,_,U.2,R1.1,_,R1.2,U.1,_,U.2,R2.1,_,R2.2,R1.1,_,R1.2,R2.1,_,R2.2,U.1,_,U.2,R1.1,_,R1.2,R2.1,_,R2.2,R3.1,_,R3.2,V.1,_,V.2,R5.1,_,R5.2,R6.1,_,R6.2,?_⟩;intro bx ap;rw[He he,He ha,QV he hf W,MZ ha bf bg]at ap;simp only[iL]at ap;obtain⟨b1,kk,n1,bh⟩:=aB ao ap;refine⟨64 - (t+1),by simp only[aI];omega,some ⟨_,0,none⟩,8,t+1,round st k w,?_,rfl,by omega,W8.round ⟨ha,bf,bg,hd,he,hf,W,bo⟩ k w,?_,bh,k4.trans wf kk fF,⟨some _,⟨Uf _,rfl,.inl rfl,fun _=>⟨_,b1,Uf _,rfl⟩⟩,rfl⟩,tw.keep kk fF⟩
    ·rw[show aG .i64 (t:Int) 1=((t+1:Nat):Int) from cN 1 (by omega)]
    ·rw[<-ba,qL ek,qL ew]
     rfl
   ·rw[if_neg E];have ah:t=64:=by
     by_cases hq:t=64
     ·exact hq
     ·exact absurd (aC.2 (by omega)) E
    subst ah;have bi:st=rounds K (iT bs) (wP hs):=by
     rw[<-ba,VV (by rw[AG];exact Uf _)]
     rfl
    have ae:block hs bs=List.zipWith add hs (nW st):=by rw[bi];rfl
    have bt:(block hs bs).length=8:=by rw[ae,List.length_zipWith,aa];rfl
    obtain⟨g5,bp,t5⟩:=t4.grp ao;refine⟨fun vals m O=>∃(a:OA) (i:Nat),[.slice a i i,.int .i64 (i:Int)]=vals/\m=8 - i/\i<=8/\Wf O/\Kept h O/\h4.next<=O.next/\AE O g5 a6 8 c6 (nW st)/\Bd O 1 (h4.next<=·) a i i (((block hs bs).take i).map u32),⟨8,none,0,rfl,rfl,Uk _,ao,k4,Uf _,t5,Bd.nil _ _ _⟩,?_⟩;rintro a l c n m h5 ⟨a7,i,e,rfl,hi,bq,k5,br,t6,aq⟩;simp at e;obtain⟨⟨rfl,rfl,rfl⟩,rfl⟩:=e;by_cases E:bO (i:Int) 8=true
    ·rw[if_pos E];have bj:i < 8:=by rw[aC]at E;omega
     have e1:hs[i]? = some (hs[i]'(by omega)):=Uh _;generalize hs[i]'(by omega)=x at e1;have e2:(nW st)[i]? = some ((nW st)[i]'(by show i < 8;omega)):=Uh _;generalize (nW st)[i]'(by show i < 8;omega)=y at e2;have r1:=uL (s0.keep k5 fF) e1;have r2:=uL t6 e2;refine⟨r1.1,_,r1.2,r2.1,_,r2.2,?_⟩;intro h6 e6;rw[iL]at e6;obtain⟨a8,h7,y1,y2,y3,y4⟩:=Bd.append1 bq Ib (S:=(h4.next<=·)) (fun g W=>by omega) aq e6 rfl rfl (bM (by omega));refine⟨a8,_,_,h7,y1,8 - (i+1),by simp only[aI];omega,a8,i+1,?_,rfl,by omega,y4,k5.trans wf y3 fun g W hs=>by have:=k4.next;omega,Nat.le_trans br y3.next,t6.keep y3 fun x hx q=>by have:=bp x hx;omega,?_⟩
     ·rw[show aG .i64 (i:Int) 1=((i+1:Nat):Int) from cN 1 (by omega)]
     ·rw[ae,DA e1 e2,<-ae,VY];exact y2
    ·rw[if_neg E];have bj:i=8:=by
      by_cases hq:i=8
      ·exact hq
      ·exact absurd (aC.2 (by omega)) E
     subst bj;rw[Uj (by omega)]at aq;exact⟨_,rfl,aq.mono fun g W=>Nat.le_trans k4.next W,k5⟩
def Ue(h:Hp)(v:Value):Prop:=∃g0 g1 a0 a1 c0 c1,v = .agg #[.slice a0 8 c0,.slice a1 64 c1]/\AE h g0 a0 8 c0 H0/\AE h g1 a1 64 c1 K
theorem UK(h:Hp):C 147 [] h fun v h'=>Ue h' v/\Kept h h':=by
 refine pk.sv RP fun wf=>?_;intro h1 e1 h2 e2 h3 e3;obtain⟨b1,k1,n1,E⟩:=aB wf e1;obtain⟨b2,k2,n2,G⟩:=aB E e2;obtain⟨b3,U,n3,V⟩:=aB G e3;have t2:=MX (f:=u32) (L:=H0) E e2 (l:=8) rfl;have t3:=MX (f:=u32) (L:=K) G e3 (l:=64) rfl;have W:=k1.trans wf k2 fF;have O:=W.trans wf U fF;have aa:=Kept.blk U (Kept.blk k2 b1);obtain⟨h4,y1,y2,y3,y4,y5,y6⟩:=bP V aa O wf (Uf _) (vs:=[.slice (some ⟨h1.next,0,none⟩) 8 8,.slice (some ⟨h2.next,0,none⟩) 64 64]) rfl rfl;refine⟨rfl,h4,y1,_,_,_,_,_,_,⟨rfl,(y2.cells (Vo rfl)).trans rfl⟩,⟨some h1.next,some h2.next,_,_,_,_,rfl,?_,?_⟩,y3⟩
 ·exact(t2.keep U fF).keep y4 fun x hx q=>by simp at hx;omega
 ·exact t3.keep y4 fun x hx q=>by simp at hx;omega
set_option maxRecDepth 20000 in
theorem UL{h:Hp}{g0 g1:ON}{a0 a1:OA}{c0 c1:Nat}(s0:AE h g0 a0 8 c0 H0)(s1:AE h g1 a1 64 c1 K)(s:BA)(hs:s.size<=1073741824):
  C 146 [.agg #[.slice a0 8 c0,.slice a1 64 c1],.string s] h fun v h'=>v = .agg ((sum (bytes8 s)).map u8).toArray/\Kept h h':=by
 refine pk.sv RQ fun wf=>?_;intro h1 e1 h2 e2;obtain⟨b1,k1,n1,bn⟩:=aB wf e1;obtain⟨b2,k2,n2,bx⟩:=aB bn e2;have bo:=k1.trans wf k2 fF;refine(UG s h2 hs).wf fun v h3 af _ ⟨a,l,e3,hl,bp,k3⟩=>?_;have ag:=bo.trans wf k3 fF;have ah:=Ht (bytes8 s);obtain⟨N,hN⟩:=ah;have ai:=Kept.blk k3 (Kept.blk k2 b1);have bq:=Kept.blk k3 b2;obtain⟨gp,tp⟩:=Ia bp hl.symm;refine⟨a,l,l,e3,rfl,a0,8,c0,⟨rfl,(ai.cells (Vo rfl)).trans rfl⟩,?_⟩;have bz:N < 33554432:=by
  have:(pad (bytes8 s)).length<=s.size+200:=by
   have br:(fE (bytes8 s).length).length=8:=rfl;have hlen:(bytes8 s).length=s.size:=by simp[bytes8]
   have hz:dD (bytes8 s).length < 64:=Nat.mod_lt _ (by decide);unfold pad;simp only[Ug,Ux,WQ,br]
   omega
  omega
 refine⟨fun vals m hh=>∃(a:OA) (c j:Nat) (E:LN),[.slice a 8 c,.int .i64 ((64 * j:Nat):Int)]=vals/\m=N - j/\j<=N/\E.length=8/\(∀w∈E,gF w)/\blocks (N - j) E ((pad (bytes8 s)).drop (64 * j))=blocks N H0 (pad (bytes8 s))/\Wf hh/\Kept h3 hh/\(∃g,AE hh g a 8 c E),
  ⟨N,a0,c0,0,H0,rfl,rfl,Uk _,rfl,Ic,rfl,af,Keep.refl _ _,⟨g0,s0.keep ag fF⟩⟩,?_⟩
 rintro a2 l2 c2 n m h4 ⟨a3,c3,j,E,e,rfl,hj,ac,bt,ad,aj,k4,⟨g4,t4⟩⟩;simp at e;obtain⟨⟨rfl,rfl,rfl⟩,rfl⟩:=e;have ak:=ag.trans wf k4 fF;by_cases O:bO (64 * (j:Int)) (aE l)=true
 ·rw[if_pos O];have al:j < N:=by rw[aC,aF]at O;omega
  have q1:aG .i64 (64 * (j:Int)) 64=((64 * (j+1):Nat):Int):=by rw[cF (by omega) (by omega)];omega
  have q0:(64 * (j:Int))=((64 * j:Nat):Int):=by omega
  rw[q1,q0];have an:=Kept.blk k4 ai;have tc:=NJ (tp.keep k4 fF) (i:=64 * j) (k:=64) (by omega);refine⟨rfl,a1,64,c1,⟨rfl,(an.cells (Vo rfl)).trans rfl⟩,⟨⟨by omega,by omega,by rw[aF];omega,WH _⟩,?_⟩,?_⟩
  ·have hm:=tp.sl.mem;unfold nK
   cases a with
   | none=>trivial
   | some q=>obtain⟨b,o,sp⟩:=q;exact hm.1
  ·have d1:dO ((64 * (j+1):Nat):Int) ((64 * j:Nat):Int)=64:=by unfold dO;omega
   have d2:dO (aE l) ((64 * j:Nat):Int)=l - 64 * j:=by unfold dO;rw[aF];omega
   rw[d1,d2];refine(UF t4 (s1.keep ak fF) tc (fun b hb=>MQ (oH s) b (Ws (WM hb))) bt).wf fun v h5 ae _ ⟨a5,e5,bu,k5⟩=>?_;obtain⟨g5,t5⟩:=Ia bu (lT ac);refine⟨a5,8,8,e5,N - (j+1),by simp only[aI];omega,a5,8,j+1,block E (((pad (bytes8 s)).drop (64 * j)).take 64),rfl,rfl,by omega,lT ac,zW _ _,?_,ae,k4.trans af k5 fF,⟨g5,t5⟩⟩;rw[<-ad,show N - j=(N - (j+1))+1 by omega];show _=blocks (N - (j+1)) (block E (((pad (bytes8 s)).drop (64 * j)).take 64)) (((pad (bytes8 s)).drop (64 * j)).drop 64);rw[WJ,show 64 * j+64=64 * (j+1) by omega]
 ·rw[if_neg O];have al:j=N:=by
   by_cases hq:j=N
   ·exact hq
   ·exact absurd (aC.2 (by rw[aF];omega)) O
  subst al;have V:E=blocks j H0 (pad (bytes8 s)):=by rw[<-ad,Vu];rfl
  have W:sum (bytes8 s)=(E.map outBytes).flatten:=by
   unfold sum;rw[hN,Nat.mul_div_cancel_left _ (by omega),<-V]
  rw[W];have U:((E.map outBytes).flatten).length=32:=by
   match E,ac with
   | [a,b,c,d,e,f,g,x],_=>rfl
  generalize aa:(E.map outBytes).flatten=out at U;intro h5 e5;obtain⟨b5,k5,n5,ae⟩:=aB aj e5;refine⟨fun vals m hh=>∃i:Nat,[.int .i64 (i:Int)]=vals/\m=32 - i/\i<=32/\Wf hh/\Kept h4 hh/\Blk hh h4.next (some h4.next) ((out.take i++List.replicate (32 - i) 0).map u8),⟨32,0,rfl,rfl,Uk _,ae,k5,by simpa[u8,fH,aP]using b5⟩,?_⟩;rintro n m h6 ⟨i,e,rfl,hi,ao,k6,b6⟩;simp at e;subst e;by_cases O:bO (i:Int) 32=true
  ·rw[if_pos O];have G:i < 32:=by rw[aC]at O;omega
   rw[To G,UZ G];have ew:E[i / 4]? = some (E[i / 4]'(by omega)):=Uh _;generalize E[i / 4]'(by omega)=w at ew;have ro:=uL (t4.keep k6 fF) ew;have eo:out[i]? = some ((w >>> (24 - 8 * (i % 4))) % 256):=by rw[<-aa];exact CJ (H:=[]) ew
   have m4:cC .u8 ((w >>> (24 - 8 * (i % 4)):Nat):Int)=((w >>> (24 - 8 * (i % 4)) % 256:Nat):Int):=by unfold cC;rw[wrap_u8]
   refine⟨by simp[bW],ro.1,_,ro.2,by simp[bW],Ui _,⟨rfl,Ui _,by omega⟩,rfl,?_⟩;rw[shrW_nat _ _ _ (show 24 - 8 * (i % 4)<=32 by omega),m4];have hlen:((out.take i++List.replicate (32 - i) 0).map u8).length=32:=by simp;omega
   obtain⟨h7,y1,y2,y3,y4,y5⟩:=b6.set (o:=i) (by omega) (v:=u8 (w >>> (24 - 8 * (i % 4)) % 256)) rfl;rw[BP eo 32 U]at y2;have bv:aA 0 (i:Int) 1=i:=by simp[aA]
   rw[bv];refine⟨h7,y1,32 - (i+1),by simp only[aI];omega,i+1,?_,rfl,by omega,y5 ao,k6.trans aj y3 fun g hg hs=>by omega,y2⟩;rw[show aG .i64 (i:Int) 1=((i+1:Nat):Int) from cN 1 (by omega)]
  ·rw[if_neg O];have G:i=32:=by
    by_cases hq:i=32
    ·exact hq
    ·exact absurd (aC.2 (by omega)) O
   subst G;rw[Uj (by omega),Vu,List.replicate_zero,VJ]at b6;have bw:Kept h h6:=ak.trans wf k6 fF;have ap:=Kept.blk k6 (Kept.blk k4 bq);obtain⟨h7,y1,y2,y3,y4,y5,y6⟩:=bP ao ap bw wf (by omega) (vs:=out.map u8) (by simp[U]) (by simp[u8,isCell]);clear aa W V ad;obtain⟨x0,x1,x2,x3,x4,x5,x6,x7,x8,x9,aq,ar,au,av,ax,ay,az,a4,a6,a7,a8,a9,ba,bb,bf,bg,bh,bi,bj,bk,bl,bm,rfl⟩:=PT U;exact⟨(fun i=>((([x0,x1,x2,x3,x4,x5,x6,x7,x8,x9,aq,ar,au,av,ax,ay,az,a4,a6,a7,a8,a9,ba,bb,bf,bg,bh,bi,bj,bk,bl,bm]:LN).getD i 0:Nat):Int)),⟨rfl,(b6.cells (Vo rfl)).trans rfl⟩,rfl,h7,y1,(fun i=>((([x0,x1,x2,x3,x4,x5,x6,x7,x8,x9,aq,ar,au,av,ax,ay,az,a4,a6,a7,a8,a9,ba,bb,bf,bg,bh,bi,bj,bk,bl,bm]:LN).getD i 0:Nat):Int)),⟨rfl,(y2.cells (Vo rfl)).trans rfl⟩,rfl,y3⟩
set_option maxRecDepth 20000 in
theorem TV(s:BA)(h:Hp)(hs:s.size<=1073741824):C 123 [.string s] h fun v h'=>v=sumV s/\Kept h h':=by
 refine pk.sv RT fun wf=>?_;intro h1 e1;obtain⟨b1,k1,n1,az⟩:=aB wf e1;refine(UK h1).wf fun v h2 a4 _ ⟨⟨g0,g1,a0,a1,c0,c1,e2,s0,s1⟩,k2⟩=>?_;refine⟨a0,8,c0,a1,64,c1,e2,?_⟩;refine(UL s0 s1 s hs).wf fun v h3 au _ ⟨e3,k3⟩=>?_;have hl:=sum_len (bytes8 s);have av:=k1.trans wf k2 fF;have ax:=av.trans wf k3 fF;have ay:=Kept.blk k3 (Kept.blk k2 b1);obtain⟨h4,y1,y2,y3,y4,y5,y6⟩:=bP au ay ax wf (Uf _) (vs:=(sum (bytes8 s)).map u8) (by simp[hl]) (by simp[u8,isCell]);unfold sumV;generalize sum (bytes8 s)=out at *;obtain⟨x0,x1,x2,x3,x4,x5,x6,x7,x8,x9,E,G,O,U,V,W,aa,ac,ad,ae,af,ag,ah,ai,aj,ak,al,an,ao,ap,aq,ar,rfl⟩:=PT hl;exact⟨(fun i=>((([x0,x1,x2,x3,x4,x5,x6,x7,x8,x9,E,G,O,U,V,W,aa,ac,ad,ae,af,ag,ah,ai,aj,ak,al,an,ao,ap,aq,ar]:LN).getD i 0:Nat):Int)),e3,rfl,h4,y1,(fun i=>((([x0,x1,x2,x3,x4,x5,x6,x7,x8,x9,E,G,O,U,V,W,aa,ac,ad,ae,af,ag,ah,ai,aj,ak,al,an,ao,ap,aq,ar]:LN).getD i 0:Nat):Int)),⟨rfl,(y2.cells (Vo rfl)).trans rfl⟩,rfl,y3⟩
theorem c242(s:BA)(h:Hp)(hs:s.size<=1073741824):C 123 [.string s] h fun v h'=>v=sumV s/\h'=h :=
 (TV s h hs).trim (of_decide_eq_true (by kernel_rfl)) fun v h' ⟨e,k⟩=>⟨fS k,by rw[e];exact xY s,e⟩
end Go.Proofs.YtmapagggnigfpaaGreat.sb
namespace Go.Proofs.YtmapagggnigfpaaGreat.pk
open Cn Cn.Pk vc
end Go.Proofs.YtmapagggnigfpaaGreat.pk
namespace Go.Proofs.YtmapagggnigfpaaGreat.pk
open Go Go.Cn Go.Cn.Pk Go.Proofs
end Go.Proofs.YtmapagggnigfpaaGreat.pk
