/- Joined: SzL, SzM, SzO, SzP, SzQ, NodL, NodM, NodN, RdQ, RdF, RdG, RdH, TrkA, TrkB, TrkC, TrkD. -/
import Derived.Test.YtmapagggnigfpaaGreatDn14
set_option linter.unusedVariables false
namespace Go.Proofs.YtmapagggnigfpaaGreat.sb
open Go Go.Cn Go.Cn.Sha Go.Proofs Go.Proofs.YtmapagggnigfpaaGreat.vc
set_option maxRecDepth 20000 in
theorem TS{h:Hp}{b n g:Nat}{CS:LV}{hs bs:LN}(hb:Blk h b (some g) CS)(hn:n+8<=CS.length)(ay:(CS.drop n).take 8=hs.map u32)(an:hs.length=8)(ac:bs.length=64)(ae:∀b∈bs,b < 256)(hw:∀w∈hs,gF w):
  C 177 [.pointer (some ⟨b,n,none⟩),.agg (bs.map u8).toArray] h fun v h'=>v = .tuple #[]/\Blk h' b (some g) (splice CS n ((block hs bs).map u32))/\Keep (· = g) h h':=by
 refine pk.sv RH fun wf=>?_;intro h1 e1 h2 e2;obtain⟨b1,k1,n1,bz⟩:=aB wf e1;obtain⟨b2,k2,n2,b4⟩:=aB bz e2;have b5:=k1.trans wf k2 fF;have az:Blk h2 h.next (some h.next) (bs.map u8):=Kept.blk k2 b1;have a0:=uM 16 bs ac;have b7:=xQ 16 bs ac ae;refine⟨fun vals m E=>∃i:Nat,[.int .i64 (i:Int)]=vals/\m=16 - i/\i<=16/\Wf E/\Kept h E/\h2.next<=E.next/\Blk E h.next (some h.next) (bs.map u8)/\Blk E h1.next (some h1.next) (((words bs).take i++List.replicate (64 - i) 0).map u32),⟨16,0,rfl,rfl,Uk _,b4,b5,Uf _,az,b2⟩,?_⟩;rintro x m h3 ⟨i,e,rfl,hi,a4,k3,b9,bb,W⟩;simp at e;subst e;by_cases G:bO (i:Int) 16=true
 ·rw[if_pos G];have af:i < 16:=by rw[aC]at G;omega
  have q0:=Rb af;have q1:aG .i64 ((4 * i:Nat):Int) 1=((4 * i+1:Nat):Int):=cN 1 (by omega);have q2:aG .i64 ((4 * i:Nat):Int) 2=((4 * i+2:Nat):Int):=cN 2 (by omega);have q3:aG .i64 ((4 * i:Nat):Int) 3=((4 * i+3:Nat):Int):=cN 3 (by omega);rw[q0,q1,q2,q3];have e0:bs[4 * i]? = some (bs[4 * i]'(by omega)):=Uh _;have e1:bs[4 * i+1]? = some (bs[4 * i+1]'(by omega)):=Uh _;have e2:bs[4 * i+2]? = some (bs[4 * i+2]'(by omega)):=Uh _;have e3:bs[4 * i+3]? = some (bs[4 * i+3]'(by omega)):=Uh _;generalize bs[4 * i]'(by omega)=b0 at e0;generalize bs[4 * i+1]'(by omega)=b1 at e1;generalize bs[4 * i+2]'(by omega)=b2 at e2;generalize bs[4 * i+3]'(by omega)=b3 at e3;have r0:=AR bb e0 ac;have r1:=AR bb e1 ac;have r2:=AR bb e2 ac;have r3:=AR bb e3 ac;refine⟨r0.1,_,r0.2,by simp[bR],r1.1,_,r1.2,by simp[bR],r2.1,_,r2.2,by simp[bR],r3.1,_,r3.2,⟨rfl,Ui _,by omega⟩,rfl,?_⟩;rw[Hf (ae _ (Uy e0)) (ae _ (Uy e1)) (ae _ (Uy e2)) (ae _ (Uy e3))]
  have ca:=uN i bs e0 e1 e2 e3;obtain⟨h4,y1,y2,y3,y4,y5⟩:=Tg W (i:=i) (by simp;omega) (x:=word b0 b1 b2 b3) rfl;rw[Ig ca a0]at y2;refine⟨h4,y1,16 - (i+1),by simp only[aI];omega,i+1,?_,rfl,by omega,y5 a4,k3.trans wf y3 fun x O q=>by omega,by omega,y3.blk bb fun x O q=>by simp at O;omega,y2⟩;rw[show aG .i64 (i:Int) 1=((i+1:Nat):Int) from cN 1 (by omega)]
 ·rw[if_neg G];have af:i=16:=by
   by_cases hq:i=16
   ·exact hq
   ·exact absurd (aC.2 (by omega)) G
  subst af;rw[Uj (by omega)]at W;clear bb az b2 b1;refine⟨fun vals m E=>∃(i:Nat) (r:LN),[.int .i64 (i:Int)]=vals/\m=64 - i/\16<=i/\i<=64/\r.length=i/\(∀w∈r,gF w)/\Ga (64 - i) r=Ga 48 (words bs).reverse/\Wf E/\Kept h E/\h2.next<=E.next/\Blk E h1.next (some h1.next) ((r.reverse++List.replicate (64 - i) 0).map u32),
   ⟨48,16,(words bs).reverse,rfl,rfl,Uf _,by omega,by simp[a0],fun w O=>b7 w (List.mem_reverse.1 O),rfl,a4,k3,b9,by rw[List.reverse_reverse];exact W⟩,?_⟩
  rintro x m h4 ⟨i,r,e,rfl,cr,ct,ad,ao,a5,cc,k4,cu,W⟩;simp at e;subst e;by_cases G:bO (i:Int) 64=true
  ·rw[if_pos G];have ag:i < 64:=by rw[aC]at G;omega
   have cd:bB .i64 (i:Int) 15=((i - 15:Nat):Int):=AL (b:=15) (by omega) (by omega);have q2:bB .i64 (i:Int) 2=((i - 2:Nat):Int):=AL (b:=2) (by omega) (by omega);have ce:bB .i64 (i:Int) 16=((i - 16:Nat):Int):=AL (b:=16) (by omega) (by omega);have q7:bB .i64 (i:Int) 7=((i - 7:Nat):Int):=AL (b:=7) (by omega) (by omega);rw[cd,q2,ce,q7];have cf:r.reverse.length=i:=by simp[ad]
   have rd:∀k,k < r.length->(r.reverse++List.replicate (64 - i) 0)[i - 1 - k]? = some (r.getD k 0):=fun k hk=>by
    rw[VQ (by omega),<-ad];exact tE hk
   have ah:(r.reverse++List.replicate (64 - i) 0).length=64:=by simp[ad];omega
   have a6:=AR W (i:=i - 15) (by rw[show i - 15=i - 1 - 14 by omega];exact rd 14 (by omega)) ah;have r2:=AR W (i:=i - 2) (by rw[show i - 2=i - 1 - 1 by omega];exact rd 1 (by omega)) ah;have a7:=AR W (i:=i - 16) (by rw[show i - 16=i - 1 - 15 by omega];exact rd 15 (by omega)) ah;have r7:=AR W (i:=i - 7) (by rw[show i - 7=i - 1 - 6 by omega];exact rd 6 (by omega)) ah;have ap:=xH ao 14;have w1:=xH ao 1;have aq:aN (some (Addr.mk h1.next 0 none))=true/\bS (i:Int) 64:=⟨rfl,Ui _,by omega⟩;refine⟨a6.1,_,a6.2,r2.1,_,r2.2,a7.1,_,a7.2,r7.1,_,r7.2,aq,rfl,?_⟩;rw[iL];obtain⟨h5,y1,y2,y3,y4,y5⟩:=Tg W (i:=i) (by omega) (x:=add (r.getD 15 0) (r.getD 6 0)) rfl;rw[xN ag]at y2;have ms:=@CN r.reverse (List.replicate (64 - (i+1)) 0);have mg:=@PG r.reverse (List.replicate (64 - (i+1)) 0);rw[cf]at ms mg;rw[ms]at y2;have ai:∀z,(r.reverse++z::List.replicate (64 - (i+1)) 0).length=64:=fun z=>by simp[ad];omega
   have s1:=AR y2 mg (ai _);refine⟨h5,y1,s1.1,_,s1.2,by simp[bR],?_⟩;refine(Ab ap (k:=7) (by omega) (by omega) h5).mono fun v h6 ⟨e1,e2⟩=>?_;subst e2;refine⟨_,e1,s1.2,?_⟩;refine(Ab ap (k:=18) (by omega) (by omega) h6).mono fun v h7 ⟨e1,e2⟩=>?_;subst e2;refine⟨_,e1,s1.2,aq,rfl,?_⟩;rw[QL ap,iL];obtain⟨h8,z1,z2,z3,z4,z5⟩:=Tg y2 (i:=i) (by rw[ai];omega) (x:=add (add (r.getD 15 0) (r.getD 6 0)) (s0 (r.getD 14 0))) rfl;rw[ms]at z2;have s2:=AR z2 mg (ai _);refine⟨h8,z1,s2.1,_,s2.2,by simp[bR],?_⟩;refine(Ab w1 (k:=17) (by omega) (by omega) h8).mono fun v h9 ⟨e1,e2⟩=>?_;subst e2;refine⟨_,e1,s2.2,?_⟩;refine(Ab w1 (k:=19) (by omega) (by omega) h9).mono fun v aa ⟨e1,e2⟩=>?_;subst e2;refine⟨_,e1,s2.2,aq,rfl,?_⟩;rw[QK w1,iL,Kp];obtain⟨U,x1,x2,x3,x4,x5⟩:=Tg z2 (i:=i) (by rw[ai];omega) (x:=Ae r) rfl;rw[ms]at x2;refine⟨U,x1,64 - (i+1),by simp only[aI];omega,i+1,Ae r::r,?_,rfl,by omega,by omega,by simp[ad],?_,?_,x5 (z5 (y5 cc)),?_,by omega,?_⟩
   ·rw[show aG .i64 (i:Int) 1=((i+1:Nat):Int) from cN 1 (by omega)]
   ·intro w O;rcases VM.1 O with rfl | O
    ·exact .add _ _
    ·exact ao w O
   ·rw[<-a5,show 64 - i=(64 - (i+1))+1 by omega]
    rfl
   ·exact((k4.trans wf y3 fun x O q=>by omega).trans wf z3 fun x O q=>by omega).trans wf x3 fun x O q=>by omega
   ·rw[List.reverse_cons,Ut];exact x2
  ·rw[if_neg G];have ag:i=64:=by
    by_cases hq:i=64
    ·exact hq
    ·exact absurd (aC.2 (by omega)) G
   subst ag;have a8:r.reverse=iT bs:=by unfold iT;rw[<-a5];rfl
   rw[a8,Vu,List.replicate_zero,VJ]at W;have a9:(iT bs).length=64:=by rw[<-a8];simp[ad]
   refine(UD h4).wf fun v h5 ba cv ⟨e5,k5⟩=>?_;have bf:=Kept.blk k5 W;refine⟨(fun i=>((Sha.K.getD i 0:Nat):Int)),e5.trans rfl,?_⟩;intro h6 e6;obtain⟨b6,k6,n6,cg⟩:=aB ba e6;obtain⟨h7,y1,y2,y3,y4,y5,y6⟩:=bP cg b6 k6 ba (Uf _) (vs:=K.map u32) rfl rfl;refine⟨rfl,h7,y1,rfl,?_⟩;have ar:Kept h5 h7:=y3;have ci:=k4.trans wf k5 fF;have au:=ci.trans wf ar fF;have bg:=Kept.blk ar bf;have bh:=Kept.blk au hb;have dI:h7.cellsAt b n 8=some ((nW (wP hs)).map u32):=by rw[bh.cells (by omega),ay,QO an]
   refine⟨_,_,_,_,_,_,_,_,⟨rfl,dI.trans rfl⟩,?_⟩;intro h8 e8;obtain⟨b8,k8,n8,cj⟩:=aB y6 e8;obtain⟨h9,z1,z2,z3,z4,z5,z6⟩:=bP cj b8 k8 y6 (Uf _) (vs:=(nW (wP hs)).map u32) rfl rfl;refine⟨rfl,h9,z1,?_⟩;have ck:=au.trans wf z3 fF;have bi:=Kept.blk z3 bg;have bj:=Kept.blk z3 y2;refine⟨fun vals m E=>∃(t:Nat) (st:St),[.int .i64 (t:Int)]=vals/\m=64 - t/\t<=64/\W8 st/\rounds (K.drop t) ((iT bs).drop t) st=rounds K (iT bs) (wP hs)/\Wf E/\Kept h E/\h9.next<=E.next/\Blk E h1.next (some h1.next) ((iT bs).map u32)/\Blk E h5.next (some h5.next) (K.map u32)/\Blk E h7.next (some h7.next) ((nW st).map u32),
    ⟨64,0,wP hs,rfl,rfl,Uk _,QH an hw,rfl,z6,ck,Uf _,bi,bj,z2⟩,?_⟩
   have cy:h5.next < h7.next:=by omega
   have cz:=z3.next;have c0:=hb.glt wf;have cp:=au.next;clear z1 z2 z3 z4 z5 z6 y1 y2 y3 y4 y5 y6 bi bj bg bf W b6 b8 ar bh;rintro x m aa ⟨t,st,e,rfl,ht,dN,bl,aj,av,bm,W,bk,bv⟩;simp at e;subst e;by_cases G:bO (t:Int) 64=true
   ·rw[if_pos G];have ak:t < 64:=by rw[aC]at G;omega
    have ek:K[t]? = some (K[t]'(by rw[AG];omega)):=Uh _;generalize K[t]'(by rw[AG];omega)=k at ek;have ew:(iT bs)[t]? = some ((iT bs)[t]'(by omega)):=Uh _;generalize (iT bs)[t]'(by omega)=w at ew;have rk:=AR bk ek AG;have bn:=AR W ew a9;have V:(nW st).length=8:=rfl;have R0:=AR bv (i:=0) (x:=st.a) rfl V;have R1:=AR bv (i:=1) (x:=st.b) rfl V;have R2:=AR bv (i:=2) (x:=st.c) rfl V;have R3:=AR bv (i:=3) (x:=st.d) rfl V;have R4:=AR bv (i:=4) (x:=st.e) rfl V;have R5:=AR bv (i:=5) (x:=st.f) rfl V;have R6:=AR bv (i:=6) (x:=st.g) rfl V;have R7:=AR bv (i:=7) (x:=st.h) rfl V;obtain⟨ax,q1,q2,q3,q4,q5⟩:=bv.store (o:=0) (vs:=(nW (round st k w)).map u32) (by simp[nW]) (sP _);rw[<-MB]at q1;obtain⟨ha,cl,cm,hd,he,hf,hg,c4⟩:=id dN;refine⟨rfl,rk.1,_,rk.2,R4.1,_,R4.2,R7.1,_,R7.2,bn.1,_,bn.2,?_⟩;refine(Ab he (k:=6) (by omega) (by omega) aa).mono fun v U ⟨e1,e2⟩=>?_
    cases e2
    refine⟨_,e1,?_⟩;refine(Ab he (k:=11) (by omega) (by omega) aa).mono fun v U ⟨e1,e2⟩=>?_
    cases e2
    refine⟨_,e1,?_⟩;refine(Ab he (k:=25) (by omega) (by omega) aa).mono fun v U ⟨e1,e2⟩=>?_
    cases e2
    refine⟨_,e1,R5.1,_,R5.2,R6.1,_,R6.2,R0.1,_,R0.2,?_⟩;refine(Ab ha (k:=2) (by omega) (by omega) aa).mono fun v U ⟨e1,e2⟩=>?_
    cases e2
    refine⟨_,e1,?_⟩;refine(Ab ha (k:=13) (by omega) (by omega) aa).mono fun v U ⟨e1,e2⟩=>?_
    cases e2
    refine⟨_,e1,?_⟩;refine(Ab ha (k:=22) (by omega) (by omega) aa).mono fun v U ⟨e1,e2⟩=>?_
    cases e2
    refine⟨_,e1,R1.1,_,R1.2,R2.1,_,R2.2,R1.1,_,R1.2,R2.1,_,R2.2,R0.1,_,R0.2,R1.1,_,R1.2,R2.1,_,R2.2,R3.1,_,R3.2,R4.1,_,R4.2,R5.1,_,R5.2,R6.1,_,R6.2,rfl,?_⟩;rw[He he,He ha,QV he hf hg,MZ ha cl cm];simp only[iL];refine⟨ax,q1,64 - (t+1),by simp only[aI];omega,t+1,round st k w,?_,rfl,by omega,W8.round dN k w,?_,q5 aj,av.trans wf q3 fun x O q=>by omega,by rw[q4];exact bm,q3.blk W fun x O q=>by simp at O;omega,q3.blk bk fun x O q=>by simp at O;omega,q2⟩
    ·rw[show aG .i64 (t:Int) 1=((t+1:Nat):Int) from cN 1 (by omega)]
    ·rw[<-bl,qL ek,qL ew]
     rfl
   ·rw[if_neg G];have ak:t=64:=by
     by_cases hq:t=64
     ·exact hq
     ·exact absurd (aC.2 (by omega)) G
    subst ak;have bo:st=rounds K (iT bs) (wP hs):=by
     rw[<-bl,VV (by rw[AG];exact Uf _)]
     rfl
    have al:block hs bs=List.zipWith add hs (nW st):=by rw[bo];rfl
    have cq:(block hs bs).length=8:=by rw[al,List.length_zipWith,an];rfl
    have cn:splice CS n (hs.map u32)=CS:=by
     rw[<-ay];unfold splice;rw[Uq,Vf,Vc (by omega),Ut,<-WJ,WA,WA]
    refine⟨fun vals m E=>∃i:Nat,[.int .i64 (i:Int)]=vals/\m=8 - i/\i<=8/\Wf E/\Keep (· = g) h E/\Blk E h7.next (some h7.next) ((nW st).map u32)/\Blk E b (some g) (splice CS n (((block hs bs).take i++hs.drop i).map u32)),
     ⟨8,0,rfl,rfl,Uk _,aj,av.mono wf fun _ _ hf=>hf.elim,bv,by rw[Vn,VH,VC,cn];exact Kept.blk av hb⟩,?_⟩
    clear W bk bv;rintro x m U ⟨i,e,rfl,hi,bp,bq,bv,bb⟩;simp at e;subst e;by_cases G:bO (i:Int) 8=true
    ·rw[if_pos G];have br:i < 8:=by rw[aC]at G;omega
     have e1:hs[i]? = some (hs[i]'(by omega)):=Uh _;generalize hs[i]'(by omega)=x at e1;have e2:(nW st)[i]? = some ((nW st)[i]'(by show i < 8;omega)):=Uh _;generalize (nW st)[i]'(by show i < 8;omega)=y at e2;have r2:=AR bv e2 (l:=8) rfl;have hp:aA n (i:Int) 1=n+i:=by simp[aA]
     have ah:(((block hs bs).take i++hs.drop i).map u32).length=8:=by simp;omega
     have bt:((block hs bs).take i).length=i:=by rw[Uq];omega
     have bu:(splice CS n (((block hs bs).take i++hs.drop i).map u32))[n+i]? = some (u32 x):=by
      rw[fI (by omega),if_pos (by omega),show n+i - n=i by omega,VB,VN (by omega),bt,Vu,Vp,Vk,e1]
      rfl
     have bx:(splice CS n (((block hs bs).take i++hs.drop i).map u32)).set (n+i) (u32 (add x y))=splice CS n (((block hs bs).take (i+1)++hs.drop (i+1)).map u32):=by
      have e3:(block hs bs).take (i+1)++hs.drop (i+1)=((block hs bs).take i++hs.drop i).set i (add x y):=by
       rw[qL e1];have:=CN (A:=(block hs bs).take i) (Z:=hs.drop (i+1)) (x:=x) (y:=add x y);rw[bt]at this;rw[this,al,DA e1 e2,Ut]
       rfl
      rw[e3,List.map_set];have co:(CS.take n).length=n:=by rw[Uq];omega
      unfold splice;rw[List.length_set,Ut,Wb _ _ (by omega),co,show n+i - n=i by omega,List.set_append_left _ _ (by omega),Ut]
     obtain⟨ax,q1,q2,q3,q4,q5⟩:=bb.set (o:=n+i) (by rw[gC (by omega)];omega) (v:=u32 (add x y)) rfl;rw[bx]at q2;refine⟨rfl,⟨rfl,Ui _,by omega⟩,_,⟨rfl,by rw[hp];exact bb.one bu⟩,r2.1,_,r2.2,rfl,⟨rfl,Ui _,by omega⟩,rfl,?_⟩;rw[iL,hp];refine⟨ax,q1,8 - (i+1),by simp only[aI];omega,i+1,?_,rfl,by omega,q5 bp,bq.trans wf q3 fun x O q=>q,q3.blk bv fun x O q=>by simp at O;omega,q2⟩;rw[show aG .i64 (i:Int) 1=((i+1:Nat):Int) from cN 1 (by omega)]
    ·rw[if_neg G];have br:i=8:=by
      by_cases hq:i=8
      ·exact hq
      ·exact absurd (aC.2 (by omega)) G
     subst br;rw[Uj (by omega),VV (by omega),VJ]at bb;exact⟨rfl,bb,bq⟩
theorem Si:∀{L:LN},L.length=64->∃x0 x1 x2 x3 x4 x5 x6 x7 x8 x9 E G O U V W aa ac ad ae af ag ah ai aj ak al an ao ap aq ar au av ax ay az a0 a4 a5 a6 a7 a8 a9 ba bb bf bg bh bi bj bk bl bm bn bo bp bq br bt bu bv bw bx,L=[x0,x1,x2,x3,x4,x5,x6,x7,x8,x9,E,G,O,U,V,W,aa,ac,ad,ae,af,ag,ah,ai,aj,ak,al,an,ao,ap,aq,ar,au,av,ax,ay,az,a0,a4,a5,a6,a7,a8,a9,ba,bb,bf,bg,bh,bi,bj,bk,bl,bm,bn,bo,bp,bq,br,bt,bu,bv,bw,bx]:=by
 intro L h
 match L,h with
 | x0::x1::x2::x3::x4::x5::x6::x7::x8::x9::E::G::O::U::V::W::aa::ac::ad::ae::af::ag::ah::ai::aj::ak::al::an::ao::ap::aq::ar::au::av::ax::ay::az::a0::a4::a5::a6::a7::a8::a9::ba::bb::bf::bg::bh::bi::bj::bk::bl::bm::bn::bo::bp::bq::br::bt::bu::bv::bw::bx::[],_=>exact⟨x0,x1,x2,x3,x4,x5,x6,x7,x8,x9,E,G,O,U,V,W,aa,ac,ad,ae,af,ag,ah,ai,aj,ak,al,an,ao,ap,aq,ar,au,av,ax,ay,az,a0,a4,a5,a6,a7,a8,a9,ba,bb,bf,bg,bh,bi,bj,bk,bl,bm,bn,bo,bp,bq,br,bt,bu,bv,bw,bx,rfl⟩
theorem PS:∀{L:LN},L.length=8->∃E G O U V W x6 x7,L=[E,G,O,U,V,W,x6,x7]:=by
 intro L h
 match L,h with
 | [E,G,O,U,V,W,x6,x7],_=>exact⟨E,G,O,U,V,W,x6,x7,rfl⟩
def rest(bs:LN):LN:=bs.drop (64 * (bs.length / 64))
def dN(bs:LN):LN:=blocks (bs.length / 64) H0 bs
theorem rest_len(bs:LN):(rest bs).length=bs.length % 64:=by
 unfold rest;rw[Vf]
 omega
theorem xE(bs:LN):(dN bs).length=8:=(rJ _ rfl Ic).1
theorem Mm(bs:LN):∀w∈dN bs,gF w:=(rJ _ rfl Ic).2
theorem Ox{bs:LN}(h:∀b∈bs,b < 256):∀b∈rest bs,b < 256:=fun b hb=>h b (Ws hb)
theorem pH:∀(a b:Nat) (hs xs:LN),blocks (a+b) hs xs=blocks b (blocks a hs xs) (xs.drop (64 * a))
 | 0,b,hs,xs=>by simp[blocks]
 | a+1,b,hs,xs=>by
  rw[show a+1+b=(a+b)+1 by omega];show blocks (a+b) (block hs (xs.take 64)) (xs.drop 64)=blocks b (blocks a (block hs (xs.take 64)) (xs.drop 64)) (xs.drop (64 * (a+1)));rw[pH a b,WJ,show 64+64 * a=64 * (a+1) by omega]
theorem kK:∀(n:Nat) (hs xs t:LN),64 * n<=xs.length->blocks n hs (xs++t)=blocks n hs xs
 | 0,hs,xs,t,h=>rfl
 | n+1,hs,xs,t,h=>by
  show blocks n (block hs ((xs++t).take 64)) ((xs++t).drop 64)=blocks n (block hs (xs.take 64)) (xs.drop 64);rw[Vz (by omega),Vy (by omega)];exact kK n _ _ _ (by rw[Vf];omega)
theorem JV{bs t:LN}(h:(rest bs).length+t.length < 64):rest (bs++t)=rest bs++t/\dN (bs++t)=dN bs:=by
 rw[rest_len]at h;have e:(bs++t).length / 64=bs.length / 64:=by rw[Ug];omega
 unfold rest dN;rw[e];exact⟨Vy (by omega),kK _ _ _ _ (by omega)⟩
theorem JW{bs t:LN}(h:(rest bs).length+t.length=64):rest (bs++t)=[]/\dN (bs++t)=block (dN bs) (rest bs++t):=by
 have h':=h;rw[rest_len]at h;have e:(bs++t).length / 64=bs.length / 64+1:=by rw[Ug];omega
 refine⟨?_,?_⟩
 ·unfold rest;rw[e];exact VV (by rw[Ug];omega)
 ·unfold dN;rw[e,pH,kK _ _ _ _ (by omega),Vy (by omega)];show block _ ((rest bs++t).take 64)=_;rw[Uj (by rw[Ug,h'];exact Uf _)]
def nH(bs:LN):LN:=rest bs++128::(List.replicate (dD bs.length) 0++fE bs.length)
theorem Br(bs:LN):nH bs=(pad bs).drop (64 * (bs.length / 64)):=by
 unfold nH pad rest;rw[Vy (by omega)]
theorem Ln(bs:LN):∃m,(nH bs).length=64 * m/\(pad bs).length / 64=bs.length / 64+m:=by
 obtain⟨N,E⟩:=Ht bs;have hp:bs.length<=(pad bs).length:=by unfold pad;simp
 refine⟨N - bs.length / 64,?_,?_⟩
 ·rw[Br,Vf,E]
  omega
 ·rw[E,Nat.mul_div_cancel_left _ (by omega)]
  omega
theorem Lm(bs:LN){m:Nat}(hm:(pad bs).length / 64=bs.length / 64+m):sum bs=((blocks m (dN bs) (nH bs)).map outBytes).flatten:=by
 unfold sum;rw[hm,pH,<-Br];congr 3;unfold pad dN;exact kK _ _ _ _ (by omega)
theorem Oc{bs:LN}(h:∀b∈bs,b < 256):∀b∈nH bs,b < 256:=fun b hb=>by
 rw[Br]at hb;exact MQ h b (Ws hb)
section
variable {hs:LN} (hl:hs.length=8) (a:OA) (l c n:Nat)
include hl
theorem yX:(dI hs a l c n).length=11:=by simp[dI,hl]
theorem Sb:(dI hs a l c n)[9]? = some (.slice a l c):=by
 obtain⟨E,G,O,U,V,W,x6,x7,rfl⟩:=PS hl
 rfl
theorem Sc:(dI hs a l c n)[10]? = some (.int .i64 (n:Int)):=by
 obtain⟨E,G,O,U,V,W,x6,x7,rfl⟩:=PS hl
 rfl
theorem UT(a':OA)(l' c':Nat):(dI hs a l c n).set 9 (.slice a' l' c')=dI hs a' l' c' n:=by
 obtain⟨E,G,O,U,V,W,x6,x7,rfl⟩:=PS hl
 rfl
theorem PN(m:Nat):(dI hs a l c n).set 10 (.int .i64 (m:Int))=dI hs a l c m:=by
 obtain⟨E,G,O,U,V,W,x6,x7,rfl⟩:=PS hl
 rfl
theorem PO:((dI hs a l c n).drop 1).take 8=hs.map u32:=by
 obtain⟨E,G,O,U,V,W,x6,x7,rfl⟩:=PS hl
 rfl
theorem Tt{E:LN}(G:E.length=8):splice (dI hs a l c n) 1 (E.map u32)=dI E a l c n:=by
 obtain⟨O,U,V,W,x4,x5,x6,x7,rfl⟩:=PS hl;obtain⟨y0,y1,y2,y3,y4,y5,y6,y7,rfl⟩:=PS G
 rfl
end
def HS(h:Hp)(b:Nat)(gr:ON)(hs R:LN)(n:Nat):Prop:=∃a c,Blk h b (some b) (dI hs a R.length c n)/\Ow h 1 gr a R.length c (R.map u8)/\gr≠some b
theorem BT(a:OA):vO 0 1 a=a:=by
 cases a with
 | none=>rfl
 | some a=>rfl
theorem SP(s:BA){l h:Nat}(hl:l<=h)(E:h<=s.size):bytes8 (dQ s (l:Int) (h:Int))=((bytes8 s).drop l).take (h - l):=by
 unfold bytes8 dQ;rw[Uo,Uo,ByteArray.data_extract,Array.toList_extract,List.extract_eq_take_drop,List.map_take,List.map_drop]
theorem eA(s:BA):(bytes8 s).length=s.size:=by simp[bytes8]
theorem UM:AppT Tryz.prog 144 9 5 1 1:=AppT.of _ (by kernel_rfl)
set_option maxRecDepth 20000 in
theorem UI{h:Hp}{b:Nat}{gr ga:ON}{aa:OA}{W ca:Nat}{bs:LN}{parts:List BA}(hh:HS h b gr (dN bs) (rest bs) bs.length)(bm:∀x∈bs,x < 256)
  (sp:SlT (fun s=>[Value.string s]) 1 h ga aa W ca parts) (bn:∀x,ga=some x->¬(x=b\/gr=some x)) (d6:∀x,ga=some x->x < h.next) (az:bs.length+(parts.flatMap bytes8).length<=1073741824) (d7:W<=1073741824) :
  C 166 [.pointer (some ⟨b,0,none⟩),.slice aa W ca] h fun v h'=>v = .tuple #[]/\∃U,HS h' b U (dN (bs++parts.flatMap bytes8)) (rest (bs++parts.flatMap bytes8)) (bs++parts.flatMap bytes8).length/\(U=gr\/∃y,U=some y/\h.next<=y)/\Keep (fun x=>x=b\/gr=some x) h h':=by
 refine pk.sv RN fun wf=>?_;obtain⟨a0,c0,a6,d8,d9⟩:=id hh;refine(TT a6).mono fun v h1 ⟨e1,e2⟩=>?_
 cases e2
 refine⟨false,e1,?_⟩;rw[if_neg (by simp)];have ea:=a6.lt wf;have eb:=sp.len;refine⟨fun vals m hh=>∃(i:Nat) (U:ON),[.int .i64 (i:Int)]=vals/\m=W - i/\i<=W/\Wf hh/\HS hh b U (dN (bs++(parts.take i).flatMap bytes8)) (rest (bs++(parts.take i).flatMap bytes8)) (bs++(parts.take i).flatMap bytes8).length/\(U=gr\/∃y,U=some y/\h.next<=y)/\Keep (fun x=>x=b\/gr=some x) h hh,
  ⟨W,0,gr,rfl,rfl,Uk _,wf,by simpa using hh,.inl rfl,Keep.refl _ _⟩,?_⟩
 rintro x m h2 ⟨i,a7,e,rfl,hi,bo,ap,a8,k2⟩;simp at e;subst e;by_cases hc:bO (i:Int) (aE W)=true
 ·rw[if_pos hc];have aj:i < W:=by rw[aC,aF]at hc;omega
  have ep:parts[i]? = some (parts[i]'(by omega)):=Uh _;generalize parts[i]'(by omega)=s at ep;have hr:=SlT.get (enc:=fun s=>[Value.string s]) (w:=1) (fun _=>rfl) (sp.keep k2 bn) ep (j:=0) (m:=1) (Uf 1);obtain⟨a2,c2,b2,o2,g2⟩:=ap;have G:=xE (bs++(parts.take i).flatMap bytes8);have a9:(parts.take (i+1)).flatMap bytes8=(parts.take i).flatMap bytes8++bytes8 s:=by
   rw[VG,ep];simp
  have ba:bs.length+((parts.take i).flatMap bytes8).length+s.size<=1073741824:=by
   have:parts=parts.take (i+1)++parts.drop (i+1):=(WA _ _).symm;rw[this,VX,a9]at az;simp only[Ug,eA]at az
   omega
  have bb:∀x∈bs++(parts.take i).flatMap bytes8,x < 256:=by
   intro x O;rcases VF.1 O with O | O
   ·exact bm x O
   ·obtain⟨y,_,hy⟩:=WX.1 O;exact oH y x hy
  have bf:(bs++(parts.take i).flatMap bytes8).length=bs.length+((parts.take i).flatMap bytes8).length:=Ug;generalize aq:bs++(parts.take i).flatMap bytes8=cur at *;rw[<-bf]at ba;refine⟨⟨hr.1,Ui _,by omega⟩,s,⟨rfl,hr.2.trans rfl⟩,rfl,rfl,_,⟨rfl,b2.one (Sc G _ _ _ _)⟩,rfl,rfl,rfl,?_⟩;have en:aG .i64 (cur.length:Int) (aE (aU s))=((cur.length+s.size:Nat):Int):=by
   rw[cF (by rw[aF];unfold aU;omega) (by rw[aF];unfold aU;omega),aF];unfold aU
   omega
  rw[en];obtain⟨h3,q1,q2,q3,q4,q5⟩:=b2.set (o:=10) (by rw[yX G];omega) (v:=.int .i64 ((cur.length+s.size:Nat):Int)) rfl;rw[PN G]at q2;refine⟨h3,q1,?_⟩;have k3:Keep (fun x=>x=b\/gr=some x) h h3:=k2.trans wf q3 fun x O q=>.inl q;have o3:=o2.keep q3 fun x O q=>by subst q;exact g2 O
  refine⟨fun vals m hh=>∃(p:BA) (t:LN) (U:ON),[.string p]=vals/\m=p.size/\t++bytes8 p=bytes8 s/\Wf hh/\HS hh b U (dN (cur++t)) (rest (cur++t)) (cur.length+s.size)/\(U=gr\/∃y,U=some y/\h.next<=y)/\Keep (fun x=>x=b\/gr=some x) h hh,
   ⟨s.size,s,[],a7,rfl,rfl,rfl,q5 bo,by rw[VJ];exact⟨a2,c2,q2,o3,g2⟩,a8,k3⟩,?_⟩
  clear q1 q2 q3 q4 q5 o3 o2 b2 hr k3 k2;rintro x m1 h4 ⟨p,t,bp,e,rfl,ac,ar,⟨a4,c4,b4,o4,g4⟩,au,k4⟩;simp at e;subst e;have G:=xE (cur++t);by_cases hc:dB (aE (aU p)) 0=true
  ·rw[if_pos hc];have av:0 < p.size:=by rw[aS,aF]at hc;unfold aU at hc;omega
   have d3:(rest (cur++t)).length < 64:=by rw[rest_len];omega
   have ec:t.length+p.size=s.size:=by
    have:=congrArg List.length ac;simpa[eA]using this
   obtain⟨E,bq,ed,bg,ee,ef⟩:∃E:Nat,wU (bB .i64 64 (aE (rest (cur++t)).length)) (aE (aU p))=(E:Int)/\0 < E/\E<=p.size/\(rest (cur++t)).length+E<=64/\((rest (cur++t)).length+E < 64->E=p.size):=by
    have e1:bB .i64 64 (aE (rest (cur++t)).length)=((64 - (rest (cur++t)).length:Nat):Int):=by
     rw[aF,bY (by omega) (by omega)];omega
    rw[e1];unfold wU aU;rw[aF];by_cases hq:64 - (rest (cur++t)).length<=p.size
    ·exact⟨64 - (rest (cur++t)).length,by rw[if_pos (by omega)],by omega,hq,by omega,fun _=>by omega⟩
    ·exact⟨p.size,by rw[if_neg (by omega)],av,Uf _,by omega,fun _=>rfl⟩
   have r9:=b4.one (Sb G a4 (rest (cur++t)).length c4 (cur.length+s.size));refine⟨rfl,rfl,_,_,_,⟨rfl,r9⟩,rfl,rfl,_,_,_,⟨rfl,r9⟩,?_⟩;rw[bq];have ax:=SP p (l:=0) (h:=E) (Uk _) bg;rw[VC,Nat.sub_zero]at ax;have ay:=SP p (l:=E) (h:=p.size) bg (Uf _);have br:(((bytes8 p).drop E).take (p.size - E))=(bytes8 p).drop E:=Uj (by rw[Vf,eA];exact Uf _);rw[br]at ay;have bh:(dQ p 0 (E:Int)).size=E:=by
    rw[<-eA,show dQ p 0 (E:Int)=dQ p ((0:Nat):Int) (E:Int) from rfl,ax,Uq,eA]
    omega
   have ak:dC 1 (.string (dQ p 0 (E:Int))) h4=some (E,((bytes8 p).take E).map u8):=by
    have:dC 1 (.string (dQ p 0 (E:Int))) h4=some ((dQ p 0 (E:Int)).size,oJ (dQ p 0 (E:Int))):=rfl;rw[this,bh,uE];rw[show dQ p 0 (E:Int)=dQ p ((0:Nat):Int) (E:Int) from rfl,ax]
   have ad:((bytes8 p).take E).length=E:=by rw[Uq,eA];omega
   obtain⟨a5,c5,g5,h5,y1,y2,y3,y4,y5⟩:=Ow.append ar UM o4 ak (by rw[VP,ad,Ve]) (rA _) (bM (by omega));have b5:=y4.blk b4 fun x O q=>by simp at O;subst O;exact g4 q
   obtain⟨h6,q1,q2,q3,q4,q5⟩:=b5.set (o:=9) (by rw[yX G];omega) (v:=.slice a5 ((rest (cur++t)).length+E) c5) rfl;rw[UT G]at q2;have ae:g5≠some b:=by
    rcases y3 with e | ⟨y,e,hy⟩
    ·rw[e];exact g4
    ·rw[e];intro e';simp at e';have:=b4.lt ar;omega
   have o6:=y2.keep q3 fun x O q=>by subst q;exact ae O
   have k6:Keep (fun x=>x=b\/gr=some x) h h6:=by
    refine(k4.trans wf y4 fun x O q=>?_).trans wf q3 fun x O q=>.inl q;rcases au with e | ⟨y,e,hy⟩
    ·rw[<-e];exact .inr q
    ·rw[e]at q;simp at q;omega
   have bi:g5=gr\/∃y,g5=some y/\h.next<=y:=by
    rcases y3 with e | ⟨y,e,hy⟩
    ·rw[e];exact au
    ·exact .inr ⟨y,e,Nat.le_trans k4.next hy⟩
   have bt:=q5 y5;refine⟨⟨WH _,Ui _,by omega⟩,a5,_,c5,h5,y1,rfl,rfl,rfl,h6,q1,⟨Ui _,by rw[aF];unfold aU;omega,by rw[aF];unfold aU;omega⟩,rfl,rfl,_,_,_,⟨rfl,q2.one (Sb G _ _ _ _)⟩,?_⟩;have bu:dQ p (E:Int) (aE (aU p))=dQ p (E:Int) (p.size:Int):=rfl;rw[bu];have d4:(dQ p (E:Int) (p.size:Int)).size=p.size - E:=by
    rw[<-eA,ay,Vf,eA]
   have al:(t++(bytes8 p).take E)++bytes8 (dQ p (E:Int) (p.size:Int))=bytes8 s:=by
    rw[ay,Ut,WA,ac]
   have an:cur++(t++(bytes8 p).take E)=(cur++t)++(bytes8 p).take E:=by rw[Ut]
   by_cases he:bX (aE ((rest (cur++t)).length+E)) 64=true
   ·rw[if_pos he];have ag:(rest (cur++t)).length+E=64:=by rw[aV,aF]at he;omega
    have ah:(rest (cur++t)++(bytes8 p).take E).length=64:=by rw[Ug,ad];exact ag
    have ai:=(o6.sl).cells (i:=0) (m:=64) (by omega) (by omega);rw[<-VY,Vk,VC,Uj (by rw[VP,ah];exact Uf _)]at ai;obtain⟨f1,f2⟩:=JW (bs:=cur++t) (t:=(bytes8 p).take E) (by rw[ad];exact ag);have ao:∀x∈rest (cur++t)++(bytes8 p).take E,x < 256:=by
     intro x O;rcases VF.1 O with O | O
     ·refine Ox (fun y hy=>?_) x O;rcases VF.1 hy with hy | hy
      ·exact bb y hy
      ·exact oH s y (by rw[<-ac];exact WW _ hy)
     ·exact oH p x (WM O)
    have af:=TS q2 (n:=1) (hs:=dN (cur++t)) (bs:=rest (cur++t)++(bytes8 p).take E) (by rw[yX G];omega) (PO G _ _ _ _) G ah ao (Mm _);rw[Tt G _ _ _ _ (lT G),<-f2]at af;have o7:=o6.cut (k:=0) (Uk _);rw[Nat.zero_mul,Vn]at o7;have d5:(rest (cur++t)).length+E<=c5:=o6.sl.le;have bj:nK 1 a5:=by
     have:=o6.sl.mem;unfold nK
     cases a5 with
     | none=>trivial
     | some q=>obtain⟨b',o',eg⟩:=q;exact this.1
    clear f2 ao o6 y1 y2 ak;generalize rest (cur++t)++(bytes8 p).take E=L at ai af ah;obtain⟨x0,x1,x2,x3,x4,x5,x6,x7,x8,x9,bv,bw,bx,bz,b3,b6,b9,cc,cd,ce,cf,cg,ci,cj,ck,cl,cm,cn,co,cp,cq,cr,ct,cu,cv,cy,cz,c6,c7,c8,c9,da,db,dc,dd,de,df,dg,dh,di,dj,dk,dl,dn,dp,dq,dr,ds,dt,du,dv,dw,dx,dz,rfl⟩:=Si ah;refine⟨rfl,rfl,rfl,rfl,_,_,_,⟨rfl,q2.one (Sb G _ _ _ _)⟩,⟨ai.1,by unfold SO;omega⟩,(fun i=>((([x0,x1,x2,x3,x4,x5,x6,x7,x8,x9,bv,bw,bx,bz,b3,b6,b9,cc,cd,ce,cf,cg,ci,cj,ck,cl,cm,cn,co,cp,cq,cr,ct,cu,cv,cy,cz,c6,c7,c8,c9,da,db,dc,dd,de,df,dg,dh,di,dj,dk,dl,dn,dp,dq,dr,ds,dt,du,dv,dw,dx,dz]:LN).getD i 0:Nat):Int)),⟨rfl,ai.2.trans rfl⟩,?_⟩;refine af.wf fun v h7 d1 eh ⟨e7,b7,k7⟩=>?_;have V:=xE (cur++t++(bytes8 p).take E);obtain⟨h8,p1,p2,p3,p4,p5⟩:=b7.set (o:=9) (by rw[yX V];omega) (v:=.slice a5 0 c5) rfl;rw[UT V]at p2;refine⟨e7,rfl,rfl,_,_,_,⟨rfl,b7.one (Sb V _ _ _ _)⟩,⟨⟨WH _,WH _,Ui _,WH _⟩,bj⟩,rfl,rfl,rfl,h8,?_,(dQ p (E:Int) (p.size:Int)).size,by simp only[aI];omega,dQ p (E:Int) (p.size:Int),t++(bytes8 p).take E,g5,rfl,rfl,al,p5 d1,?_,bi,(k6.trans wf k7 fun x O q=>.inl q).trans wf p3 fun x O q=>.inl q⟩
    ·rw[BT];exact p1
    ·rw[an,f1];exact⟨a5,c5,p2,(o7.keep k7 fun x O q=>by subst q;exact ae O).keep p3 fun x O q=>by subst q;exact ae O,ae⟩
   ·rw[if_neg he];have ag:(rest (cur++t)).length+E < 64:=by
     by_cases hq:(rest (cur++t)).length+E < 64
     ·exact hq
     ·exact absurd (aV.2 (by rw[aF];omega)) he
    obtain⟨f1,f2⟩:=JV (bs:=cur++t) (t:=(bytes8 p).take E) (by rw[ad];exact ag);refine⟨(dQ p (E:Int) (p.size:Int)).size,by simp only[aI];omega,dQ p (E:Int) (p.size:Int),t++(bytes8 p).take E,g5,rfl,rfl,al,bt,?_,bi,k6⟩;rw[an,f1,f2];have bk:(rest (cur++t)++(bytes8 p).take E).length=(rest (cur++t)).length+E:=by rw[Ug,ad]
    refine⟨a5,c5,?_,?_,ae⟩
    ·rw[bk];exact q2
    ·rw[bk,VY];exact o6
  ·rw[if_neg hc];have av:p.size=0:=by
    by_cases hq:p.size=0
    ·exact hq
    ·exact absurd (aS.2 (by rw[aF];unfold aU;omega)) hc
   have d2:bytes8 p=[]:=VS (by rw[eA];exact av);rw[d2,VJ]at ac;subst ac;have bl:bs++(parts.take (i+1)).flatMap bytes8=cur++bytes8 s:=by rw[a9,<-Ut,aq]
   refine⟨W - (i+1),by simp only[aI];omega,i+1,bp,?_,rfl,by omega,ar,?_,au,k4⟩
   ·rw[show aG .i64 (i:Int) 1=((i+1:Nat):Int) by rw[cF (by omega) (by omega)];omega]
   ·rw[bl,Ug,eA];exact⟨a4,c4,b4,o4,g4⟩
 ·rw[if_neg hc];have aj:i=W:=by
   by_cases hq:i=W
   ·exact hq
   ·exact absurd (aC.2 (by rw[aF];omega)) hc
  subst aj;rw[Uj (by omega)]at ap;exact⟨rfl,a7,ap,a8,k2⟩
theorem PT:∀{L:LN},L.length=32->∃x0 x1 x2 x3 x4 x5 x6 x7 x8 x9 E G O U V W aa ac ad ae af ag ah ai aj ak al an ao ap aq ar,L=[x0,x1,x2,x3,x4,x5,x6,x7,x8,x9,E,G,O,U,V,W,aa,ac,ad,ae,af,ag,ah,ai,aj,ak,al,an,ao,ap,aq,ar]:=by
 intro L h
 match L,h with
 | [x0,x1,x2,x3,x4,x5,x6,x7,x8,x9,E,G,O,U,V,W,aa,ac,ad,ae,af,ag,ah,ai,aj,ak,al,an,ao,ap,aq,ar],_=>exact⟨x0,x1,x2,x3,x4,x5,x6,x7,x8,x9,E,G,O,U,V,W,aa,ac,ad,ae,af,ag,ah,ai,aj,ak,al,an,ao,ap,aq,ar,rfl⟩
theorem SQ{j:Nat}(E:j < 4):bB .i64 24 (cY .i64 8 (j:Int))=((24 - 8 * j:Nat):Int):=by
 have e2:cY .i64 8 (j:Int)=((8 * j:Nat):Int):=by
  unfold cY;have:=cF (a:=((8 * j:Nat):Int)) (b:=0) (by omega) (by omega);unfold aG at this;rw[show(8 * (j:Int))=((8 * j:Nat):Int) by omega];simpa using this
 rw[e2];exact AL (a:=24) (by omega) (by omega)
theorem Ub{i j:Nat}(hi:i < 8)(E:j < 4):aG .i64 (cY .i64 4 (i:Int)) (j:Int)=((4 * i+j:Nat):Int):=by
 rw[Rb (by omega)];exact cN j (by omega)
set_option maxRecDepth 20000 in
theorem UH{h:Hp}{b:Nat}{gr:ON}{bs:LN}(G:HS h b gr (dN bs) (rest bs) bs.length)(dk:∀x∈bs,x < 256)(fq:bs.length<=1073741824):
  C 167 [.pointer (some ⟨b,0,none⟩)] h fun v h'=>v = .agg ((sum bs).map u8).toArray/\Kept h h':=by
 refine pk.sv RM fun wf=>?_;obtain⟨a0,c0,cq,dl,ft⟩:=G;have fu:=cq.lt wf;have O:=xE bs;have cr:=Mm bs;have fv:=rest_len bs;intro h1 e1 h2 e2;obtain⟨b1,k1,n1,dn⟩:=aB wf e1;obtain⟨b2,k2,n2,ap⟩:=aB dn e2;have aq:=k1.trans wf k2 fF;have ct:Blk h2 h.next (some h.next) (List.replicate 32 (u8 0)):=Kept.blk k2 b1;have cu:Blk h2 h1.next (some h1.next) ((List.replicate 32 0).map u8):=b2;have ag:=Kept.blk aq cq;have cv:=dl.keep aq fF;clear b1 b2;refine(TT ag).mono fun v h3 ⟨e3,e4⟩=>?_
 cases e4
 refine⟨false,e3,?_⟩;rw[if_neg (by simp)];obtain⟨m,fw,dp⟩:=Ln bs;have ah:=Lm bs dp;have cy:=Oc dk;have ai:h2.cellsAt b 1 8=some ((dN bs).map u32):=by rw[ag.cells (by rw[yX O];omega),PO O]
 have r9:(dI (dN bs) a0 (rest bs).length c0 bs.length)[9]? = some (.slice a0 (rest bs).length c0):=Sb O _ _ _ _;have cz:(dI (dN bs) a0 (rest bs).length c0 bs.length)[10]? = some (.int .i64 (bs.length:Int)):=Sc O _ _ _ _;generalize dI (dN bs) a0 (rest bs).length c0 bs.length=HC at ag r9 cz;have ex:∃v0 v1 v2 v3 v4 v5 v6 v7:Nat,dN bs=[v0,v1,v2,v3,v4,v5,v6,v7]:=PS O;obtain⟨v0,v1,v2,v3,v4,v5,v6,v7,hv⟩:=ex;rw[hv]at ai;refine⟨rfl,rfl,_,_,_,_,_,_,_,_,⟨rfl,ai.trans rfl⟩,?_⟩;intro h3 e3;obtain⟨b3,k3,n3,dq⟩:=aB ap e3;obtain⟨h4,y1,y2,y3,y4,y5,y6⟩:=bP dq b3 k3 ap (Uf _) (vs:=(dN bs).map u32) (by simp[O]) (sP _);have c4:h3.store h2.next 0 ([v0,v1,v2,v3,v4,v5,v6,v7].map u32)=some h4:=by rw[<-hv];exact y1
 have b4:=Kept.blk y3 ag;have o4:=cv.keep y3 fF;have fx:=aq.trans wf y3 fF;have fy:=Kept.blk y3 cu;have fz:=Kept.blk y3 ct;refine⟨rfl,h4,c4,rfl,rfl,_,_,_,⟨rfl,b4.one r9⟩,?_⟩;clear y1 c4 ai b3;have hd:=lR o4.sl;obtain⟨a5,h5,z1,z2,z3,z4⟩:=Bd.append y6 sR (S:=(h4.next<=·)) (fun g hg=>hg) (Bd.nil _ _ _) hd (by simp) (rA _) (bM (by omega));rw[VH]at z2;refine⟨a5,_,_,h5,z1,?_⟩;intro h6 e6;obtain⟨a7,h7,w1,w2,w3,w4⟩:=Bd.append1 z4 sR (S:=(h4.next<=·)) (fun g hg=>Nat.le_trans z3.next hg) z2 e6 (new:=[u8 128]) rfl rfl (bM (by omega));refine⟨a7,_,_,h7,w1,?_⟩;have dr:Kept h4 h7:=(z3.trans y6 w3 fun x hx q=>q).mono y6 fun x hx q=>by omega
 have hz:dD bs.length < 64:=Nat.mod_lt _ (by decide);generalize hR:(rest bs).length=R at *;have f0:R < 64:=by omega
 have ds:0+R=R:=Nat.zero_add R;rw[ds]at w2 ⊢;refine⟨fun vals m G=>∃(a:OA) (j:Nat),[.slice a (R+1+j) (R+1+j)]=vals/\m=dD bs.length - j/\j<=dD bs.length/\Wf G/\Kept h4 G/\Bd G 1 (h4.next<=·) a (R+1+j) (R+1+j) ((rest bs++128::List.replicate j 0).map u8),⟨dD bs.length,a7,0,rfl,rfl,Uk _,w4,dr,by simpa[u8]using w2⟩,?_⟩;clear z1 z2 z3 z4 w1 w2 w3 w4 hd o4 b4 cv;rintro a l c m1 h8 ⟨a8,j,e,rfl,hj,c5,k8,bd⟩;simp at e;obtain⟨rfl,rfl,rfl⟩:=e;refine⟨by simp[bW],?_⟩;rw[QM];by_cases W:cP (((R+1+j) % 64:Nat):Int) 56=true
 ·rw[if_pos W];rw[bA]at W;have c6:j < dD bs.length:=by
   unfold dD at *
   omega
  intro h9 e9;obtain⟨a2,aj,y1,y2,y3,y4⟩:=Bd.append1 c5 sR (S:=(h4.next<=·)) (fun g hg=>by have:=k8.next;omega) bd e9 rfl rfl (bM (by omega));refine⟨a2,_,_,aj,y1,dD bs.length - (j+1),by simp only[aI];omega,a2,j+1,rfl,rfl,by omega,y4,k8.trans y6 y3 fun g hg hs=>by omega,?_⟩;rw[List.replicate_succ'];show Bd aj 1 (h4.next<=·) a2 (R+1+j+1) (R+1+j+1) _;simpa[u8]using y2
 ·rw[if_neg W];have f1:((R+1+j) % 64:Nat)=56:=by
   by_cases hq:((R+1+j) % 64:Nat)=56
   ·exact hq
   ·exact absurd (bA.2 (by omega)) W
  have c6:j=dD bs.length:=by
   unfold dD at *
   omega
  subst c6;refine⟨rfl,rfl,_,⟨rfl,(Kept.blk k8 (Kept.blk y3 ag)).one cz⟩,?_⟩;refine⟨fun vals m G=>∃(a:OA) (j:Nat),[.slice a (R+1+dD bs.length+j) (R+1+dD bs.length+j),.int .i64 (56 - 8 * (j:Int))]=vals/\m=8 - j/\j<=8/\Wf G/\Kept h4 G/\Bd G 1 (h4.next<=·) a (R+1+dD bs.length+j) (R+1+dD bs.length+j) ((rest bs++128::(List.replicate (dD bs.length) 0++(fE bs.length).take j)).map u8),⟨8,a8,0,rfl,rfl,Uk _,c5,k8,by simpa using bd⟩,?_⟩;clear bd;rintro a l c n m2 h9 ⟨a9,j,e,rfl,hj,cg,k9,ad⟩;simp at e;obtain⟨⟨rfl,rfl,rfl⟩,rfl⟩:=e;by_cases hg:iE (56 - 8 * (j:Int)) 0=true
  ·rw[if_pos hg];rw[cK]at hg;have ci:j < 8:=by omega
   have m1:(56 - 8 * (j:Int))=((56 - 8 * j:Nat):Int):=by omega
   have m3:cY .u64 (cC .u64 (bs.length:Int)) 8=((bs.length * 8 % 18446744073709551616:Nat):Int):=SY bs.length;have m5:bB .i64 (56 - 8 * (j:Int)) 8=56 - 8 * ((j+1:Nat):Int):=by rw[bY (by omega) (by omega)];omega
   rw[m5,m1,m3,shrW_nat _ _ _ (show 56 - 8 * j<=64 by omega)];have m4:∀x:Nat,cC .u8 (x:Int)=((x % 256:Nat):Int):=fun x=>by unfold cC;rw[wrap_u8]
   rw[m4];refine⟨Ui _,?_⟩;have m6:=rV bs.length j ci;generalize (bs.length * 8 % 18446744073709551616) >>> (56 - 8 * j) % 256=bt at m6 ⊢;clear m1 m3 m4 m5;intro aj dt;obtain⟨a2,ar,y1,y2,y3,y4⟩:=Bd.append1 cg sR (S:=(h4.next<=·)) (fun g hg=>by have:=k9.next;omega) ad dt rfl rfl (bM (by omega));refine⟨a2,_,_,ar,y1,8 - (j+1),by simp only[aI];omega,a2,j+1,rfl,rfl,by omega,y4,k9.trans y6 y3 fun g hg hs=>by omega,?_⟩;rw[m6];show Bd ar 1 (h4.next<=·) a2 (R+1+dD bs.length+j+1) (R+1+dD bs.length+j+1) _;simpa[u8]using y2
  ·rw[if_neg hg];have ci:j=8:=by
    by_cases hq:j=8
    ·exact hq
    ·exact absurd (cK.2 (by omega)) hg
   subst ci;have c7:(fE bs.length).length=8:=rfl;have hp:(rest bs++128::(List.replicate (dD bs.length) 0++(fE bs.length).take 8))=nH bs:=by
    unfold nH;rw[Uj (by rw[c7];omega)]
   rw[hp]at ad;have du:(nH bs).length=R+1+dD bs.length+8:=by
    unfold nH;simp only[Ug,Ux,WQ,hR,c7]
    omega
   generalize hT:nH bs=T at *;rw[<-du]at ad ⊢;have c8:=ad.bound cg;have af:=Kept.blk k9 y2;have fm:=y3.next;refine⟨fun vals mm G=>∃(a:OA) (l c j:Nat) (E:LN) (g:ON),[.slice a l c]=vals/\mm=m - j/\j<=m/\l=T.length - 64 * j/\E.length=8/\(∀w∈E,gF w)/\blocks (m - j) E (T.drop (64 * j))=blocks m (dN bs) T/\Wf G/\Kept h2 G/\UX G g a l c (T.drop (64 * j))/\(∀x,g=some x->h4.next<=x)/\Blk G h2.next (some h2.next) (E.map u32),
    ⟨m,a9,T.length,T.length,0,dN bs,by
     rw[iJ]at ad;obtain⟨g,dv,dw⟩:=ad.slT rfl;exact⟨g,rfl,rfl,Uk _,rfl,O,cr,rfl,cg,y3.trans ap k9 fF,dw,dv,af⟩⟩,?_⟩
   clear ad c8 af;rintro a l c mm aj ⟨cj,V,ck,j,E,dx,e,rfl,hj,hl,aa,dz,cl,c9,au,ak,bw,af⟩;simp at e;obtain⟨rfl,rfl,rfl⟩:=e;by_cases W:dB (aE V) 0=true
   ·rw[if_pos W];have da:0 < V:=by rw[aS,aF]at W;omega
    have db:j < m:=by omega
    have fo:64<=V:=by omega
    have f2:=ak.sl.le;have bx:nK 1 cj:=by
     have:=ak.sl.mem;unfold nK
     cases cj with
     | none=>trivial
     | some q=>obtain⟨b',o',f3⟩:=q;exact this.1
    have ac:=(ak.sl).cells (i:=0) (m:=64) (by omega) da;rw[<-iJ,Vk,VC,<-List.map_take]at ac;have cm:((T.drop (64 * j)).take 64).length=64:=by rw[Uq,Vf];omega
    have al:=TS af (n:=0) (hs:=E) (bs:=(T.drop (64 * j)).take 64) (by simp[aa]) (by rw[VC,Uj (by simp[aa])]) aa cm (fun x hx=>cy x (Ws (WM hx))) dz;have dc:splice (E.map u32) 0 ((block E ((T.drop (64 * j)).take 64)).map u32)=(block E ((T.drop (64 * j)).take 64)).map u32:=by
     have:=lT (bs:=(T.drop (64 * j)).take 64) aa;generalize block E ((T.drop (64 * j)).take 64)=B at this ⊢;unfold splice;rw[Vn,VH];have hd:(E.map u32).drop (0+(B.map u32).length)=[]:=VV (by simp[aa,this]);rw[hd,VJ]
    rw[dc]at al;have d1:blocks (m - (j+1)) (block E ((T.drop (64 * j)).take 64)) (T.drop (64 * (j+1)))=blocks m (dN bs) T:=by
     rw[<-cl,show m - j=(m - (j+1))+1 by omega];show _=blocks (m - (j+1)) (block E ((T.drop (64 * j)).take 64)) ((T.drop (64 * j)).drop 64);rw[WJ,show 64 * j+64=64 * (j+1) by omega]
    have cn:=lT (bs:=(T.drop (64 * j)).take 64) aa;have dd:=zW E ((T.drop (64 * j)).take 64);have bz:=NJ ak (i:=64) (k:=V - 64) (by omega);have d2:((T.drop (64 * j)).drop 64).take (V - 64)=T.drop (64 * (j+1)):=by
     rw[WJ,show 64 * j+64=64 * (j+1) by omega];exact Uj (by rw[Vf];omega)
    rw[d2]at bz;have d3:dO (aE V) 64=V - 64:=by unfold dO;rw[aF];omega
    have d4:dO (aE ck) 64=ck - 64:=by unfold dO;rw[aF];omega
    generalize hB:block E ((T.drop (64 * j)).take 64)=B at *;clear hB;generalize (T.drop (64 * j)).take 64=L at ac al cm;obtain⟨x0,x1,x2,x3,x4,x5,x6,x7,x8,x9,av,ax,ay,az,a4,a6,ba,bb,bf,bg,bh,bi,bj,bk,bl,bm,bn,bo,bp,bq,br,bu,d5,d6,d7,d8,d9,ea,eb,ec,ed,ee,ef,eg,eh,ei,ej,en,ep,eq,er,eu,ey,ez,e5,e7,e8,fa,fb,fc,fd,fe,ff,fg,rfl⟩:=Si cm;rw[BT,d3,d4];refine⟨⟨⟨WH _,by omega,by rw[aF];omega,WH _⟩,bx⟩,⟨ac.1,by unfold SO dO;omega⟩,(fun i=>((([x0,x1,x2,x3,x4,x5,x6,x7,x8,x9,av,ax,ay,az,a4,a6,ba,bb,bf,bg,bh,bi,bj,bk,bl,bm,bn,bo,bp,bq,br,bu,d5,d6,d7,d8,d9,ea,eb,ec,ed,ee,ef,eg,eh,ei,ej,en,ep,eq,er,eu,ey,ez,e5,e7,e8,fa,fb,fc,fd,fe,ff,fg]:LN).getD i 0:Nat):Int)),⟨rfl,ac.2.trans rfl⟩,?_⟩;refine al.wf fun v ar ae fp ⟨fh,fi,an⟩=>?_;refine⟨fh,⟨⟨by omega,by rw[aF];omega,by rw[aF,aF];omega,WH _⟩,bx⟩,m - (j+1),by simp only[aI];omega,vO 64 1 cj,V - 64,ck - 64,j+1,B,dx,rfl,rfl,by omega,by omega,cn,dd,d1,ae,au.trans ap an fun x hx q=>by omega,bz.keep an fun x hx q=>by have:=bw x hx;omega,bw,fi⟩
   ·rw[if_neg W];have da:V=0:=by
     by_cases hq:V=0
     ·exact hq
     ·exact absurd (aS.2 (by rw[aF];omega)) W
    have db:j=m:=by omega
    subst db;have b5:E=blocks j (dN bs) T:=by rw[<-cl,Vu];rfl
    rw[<-b5]at ah;have co:(sum bs).length=32:=sum_len bs;generalize de:sum bs=out at *;have df:aj.cellsAt h2.next 0 8=some (E.map u32):=by rw[af.cells (by simp[aa]),VC,Uj (by simp[aa])]
    have b6:=Kept.blk au cu;have b7:=Kept.blk au ct;obtain⟨v0,v1,v2,v3,v4,v5,v6,v7,dg⟩:=PS aa;rw[dg]at df;refine⟨_,_,_,_,_,_,_,_,⟨rfl,df.trans rfl⟩,?_⟩;have dh:=aq.trans wf au fF;refine⟨fun vals mm G=>∃i:Nat,[.int .i64 (i:Int)]=vals/\mm=8 - i/\i<=8/\Wf G/\Kept h G/\Blk G h.next (some h.next) (List.replicate 32 (u8 0))/\Blk G h1.next (some h1.next) ((out.take (4 * i)++List.replicate (32 - 4 * i) 0).map u8),⟨8,0,rfl,rfl,Uk _,c9,dh,b7,by simpa using b6⟩,?_⟩;clear b6 b7 af ak;rintro n mm ar ⟨i,e,rfl,hi,ae,an,b9,ao⟩;simp at e;subst e;by_cases W:bO (i:Int) 8=true
    ·rw[if_pos W];have cp:i < 8:=by rw[aC]at W;omega
     have ew:E[i]? = some (E[i]'(by omega)):=Uh _;generalize E[i]'(by omega)=w at ew;have ca:(Array.mk ([v0,v1,v2,v3,v4,v5,v6,v7].map u32))[(i:Int).toNat]? = some (.int .u32 (w:Int)):=by
      rw[Uo];show([v0,v1,v2,v3,v4,v5,v6,v7].map u32).toArray[i]? = _;rw[List.getElem?_toArray,<-dg,VB,ew]
      rfl
     have fj:Jy (Array.mk ([v0,v1,v2,v3,v4,v5,v6,v7].map u32)) (i:Int)=(w:Int):=by
      unfold Jy;rw[ca]
     have cc:Jy (Array.mk [Value.int IntKind.u32 (v0:Int),Value.int IntKind.u32 (v1:Int),Value.int IntKind.u32 (v2:Int),Value.int IntKind.u32 (v3:Int),Value.int IntKind.u32 (v4:Int),Value.int IntKind.u32 (v5:Int),Value.int IntKind.u32 (v6:Int),Value.int IntKind.u32 (v7:Int)]) (i:Int)=(w:Int):=fj;refine⟨⟨⟨Ui _,by omega⟩,?_⟩,?_⟩
     ·unfold IC;rw[cc];exact ca
     rw[cc];refine⟨fun vals mm G=>∃j:Nat,[.int .i64 (j:Int)]=vals/\mm=4 - j/\j<=4/\Wf G/\Kept h G/\Blk G h.next (some h.next) (List.replicate 32 (u8 0))/\Blk G h1.next (some h1.next) ((out.take (4 * i+j)++List.replicate (32 - (4 * i+j)) 0).map u8),⟨4,0,rfl,rfl,Uk _,ae,an,b9,ao⟩,?_⟩;rintro n mm di ⟨U,e,rfl,f4,cd,dj,ce,cf⟩;simp at e;subst e;by_cases W:bO (U:Int) 4=true
     ·rw[if_pos W];have bv:U < 4:=by rw[aC]at W;omega
      rw[SQ bv,Ub cp bv];have eo:out[4 * i+U]? = some ((w >>> (24 - 8 * U)) % 256):=by
       rw[ah];have:=CJ (H:=[]) (show E[(4 * i+U) / 4]? = some w by rw[show(4 * i+U) / 4=i by omega];exact ew);rw[this,show(4 * i+U) % 4=U by omega]
      have m4:cC .u8 ((w >>> (24 - 8 * U):Nat):Int)=((w >>> (24 - 8 * U) % 256:Nat):Int):=by unfold cC;rw[wrap_u8]
      rw[shrW_nat _ _ _ (show 24 - 8 * U<=32 by omega),m4];have hlen:((out.take (4 * i+U)++List.replicate (32 - (4 * i+U)) 0).map u8).length=32:=by simp;omega
      obtain⟨fk,y1,y2,y3,y4,y5⟩:=cf.set (o:=4 * i+U) (by omega) (v:=u8 (w >>> (24 - 8 * U) % 256)) rfl;rw[BP eo 32 co]at y2;have fl:aA 0 ((4 * i+U:Nat):Int) 1=4 * i+U:=by simp only[aA,Uo];omega
      rw[fl];refine⟨Ui _,⟨rfl,Ui _,by omega⟩,rfl,fk,y1,4 - (U+1),by simp only[aI];omega,U+1,?_,rfl,by omega,y5 cd,dj.trans wf y3 fun g hg hs=>by have:=k1.next;omega,y3.blk ce fun x hx q=>by simp at hx;omega,y2⟩;rw[show aG .i64 (U:Int) 1=((U+1:Nat):Int) from cN 1 (by omega)]
     ·rw[if_neg W];have bv:U=4:=by
       by_cases hq:U=4
       ·exact hq
       ·exact absurd (aC.2 (by omega)) W
      subst bv;refine⟨8 - (i+1),by simp only[aI];omega,i+1,?_,rfl,by omega,cd,dj,ce,cf⟩;rw[show aG .i64 (i:Int) 1=((i+1:Nat):Int) from cN 1 (by omega)]
    ·rw[if_neg W];have cp:i=8:=by
      by_cases hq:i=8
      ·exact hq
      ·exact absurd (aC.2 (by omega)) W
     subst cp;rw[show 4 * 8=32 from rfl,Uj (by omega),Vu,List.replicate_zero,VJ]at ao;obtain⟨di,y1,y2,y3,y4,y5,y6⟩:=bP ae b9 an wf (Uf _) (vs:=out.map u8) (by simp[co]) (rA _);clear de ah b5 cl;obtain⟨x0,x1,x2,x3,x4,x5,x6,x7,x8,x9,av,ax,ay,az,a4,a6,ba,bb,bf,bg,bh,bi,bj,bk,bl,bm,bn,bo,bp,bq,br,bu,rfl⟩:=PT co;exact⟨(fun i=>((([x0,x1,x2,x3,x4,x5,x6,x7,x8,x9,av,ax,ay,az,a4,a6,ba,bb,bf,bg,bh,bi,bj,bk,bl,bm,bn,bo,bp,bq,br,bu]:LN).getD i 0:Nat):Int)),⟨rfl,(ao.cells (Vo rfl)).trans rfl⟩,rfl,di,y1,(fun i=>((([x0,x1,x2,x3,x4,x5,x6,x7,x8,x9,av,ax,ay,az,a4,a6,ba,bb,bf,bg,bh,bi,bj,bk,bl,bm,bn,bo,bp,bq,br,bu]:LN).getD i 0:Nat):Int)),⟨rfl,(y2.cells (Vo rfl)).trans rfl⟩,rfl,y3⟩
set_option maxRecDepth 20000 in
theorem TU(s:BA)(h:Hp)(hs:s.size<=1073741824):C 141 [.string s] h fun v h'=>v=sumV s/\Kept h h':=by
 refine pk.sv RR fun wf=>?_;intro h1 e1;obtain⟨b1,k1,n1,a7⟩:=aB wf e1;refine(UJ h1).wf fun v h2 G a8 ⟨b,e2,hb,bb,k2⟩=>?_;refine⟨_,e2,?_⟩;intro h3 e3;obtain⟨b3,k3,n3,a9⟩:=aB G e3;have ay:=k1.trans wf k2 fF;have az:=ay.trans wf k3 fF;have ba:=bb.lt G;have a0:HS h3 b none (dN []) (rest []) ([]:LN).length:=⟨none,0,Kept.blk k3 bb,Ow.nil _ _,by simp⟩;have sp:SlT (fun s=>[Value.string s]) 1 h3 (some h2.next) (some ⟨h2.next,0,none⟩) 1 1 [s]:=⟨⟨Uf _,rfl,.inl rfl,fun _=>⟨_,b3,Uf _,rfl⟩⟩,rfl⟩;refine(UI a0 (by simp) sp (fun x E=>by simp at E;subst E;simp;omega) (fun x E=>by simp at E;omega) (by simp[eA];omega) (by omega)).wf fun v h4 bf bg ⟨e4,bh,O,bi,k4⟩=>?_;simp only[Vg,List.flatMap_nil,VJ,VH]at O;refine⟨e4,?_⟩;refine(UH O (oH s) (by rw[eA];exact hs)).wf fun v h5 a4 bj ⟨e5,k5⟩=>?_;have a5:Kept h h4:=az.trans wf k4 fun x E q=>by
  rcases q with q | q
  ·omega
  ·simp at q
 have a6:=a5.trans wf k5 fF;have b4:=k4.blk (Kept.blk k3 (Kept.blk k2 b1)) fun x E q=>by
  simp at E;rcases q with q | q
  ·omega
  ·simp at q
 have b5:=Kept.blk k5 b4;have hl:=sum_len (bytes8 s);obtain⟨h6,y1,y2,y3,y4,y5,y6⟩:=bP a4 b5 a6 wf (Uf _) (vs:=(sum (bytes8 s)).map u8) (by simp[hl]) (rA _);unfold sumV;generalize sum (bytes8 s)=out at *;obtain⟨x0,x1,x2,x3,x4,x5,x6,x7,x8,x9,U,V,W,aa,ac,ad,ae,af,ag,ah,ai,aj,ak,al,an,ao,ap,aq,ar,au,av,ax,rfl⟩:=PT hl;exact⟨(fun i=>((([x0,x1,x2,x3,x4,x5,x6,x7,x8,x9,U,V,W,aa,ac,ad,ae,af,ag,ah,ai,aj,ak,al,an,ao,ap,aq,ar,au,av,ax]:LN).getD i 0:Nat):Int)),e5,rfl,h6,y1,(fun i=>((([x0,x1,x2,x3,x4,x5,x6,x7,x8,x9,U,V,W,aa,ac,ad,ae,af,ag,ah,ai,aj,ak,al,an,ao,ap,aq,ar,au,av,ax]:LN).getD i 0:Nat):Int)),⟨rfl,(y2.cells (Vo rfl)).trans rfl⟩,rfl,y3⟩
theorem c244(s:BA)(h:Hp)(hs:s.size<=1073741824):C 141 [.string s] h fun v h'=>v=sumV s/\h'=h :=
 (TU s h hs).trim (of_decide_eq_true (by kernel_rfl)) fun v h' ⟨e,k⟩=>⟨fS k,by rw[e];exact xY s,e⟩
end Go.Proofs.YtmapagggnigfpaaGreat.sb
namespace Go.Proofs.YtmapagggnigfpaaGreat.pk
open Cn Cn.Pk vc
theorem RW(bs:LN):∀x∈Go.Cn.Sha.sum bs,x < 256:=by
 intro x E;unfold Go.Cn.Sha.sum at E;rw[List.mem_flatten]at E;obtain⟨l,G,O⟩:=E;rw[Uu]at G;obtain⟨w,_,rfl⟩:=G;simp only[Go.Cn.Sha.outBytes,VM,List.not_mem_nil,or_false]at O
 omega
def Mw(L:LU):LU:=(Go.Cn.Sha.sum (Go.Proofs.YtmapagggnigfpaaGreat.sb.bytes8 (str L))).map UInt8.ofNat
theorem iC(L:LU):(Mw L).length=32:=by unfold Mw;rw[VP,Go.Proofs.YtmapagggnigfpaaGreat.sb.sum_len]
theorem Hi(L:LU):Go.Proofs.YtmapagggnigfpaaGreat.sb.sumV (str L) = .agg (bc (Mw L)).toArray:=by
 unfold Go.Proofs.YtmapagggnigfpaaGreat.sb.sumV Mw;rw[eU,List.map_map];congr 2;apply WV;intro x E;have:=RW _ x E;show Value.int .u8 (x:Int) = .int .u8 ((UInt8.ofNat x).toNat:Int);rw[Wp,Up (by omega)]
theorem TE(L:LU)(h:Hp)(hs:L.length<=1073741824):C 141 [.string (str L)] h fun v h'=>v = .agg (bc (Mw L)).toArray/\h'=h :=
 (Go.Proofs.YtmapagggnigfpaaGreat.sb.c244 (str L) h (by rw[eQ];exact hs)).mono fun v h' ⟨e,e2⟩=>⟨by rw[e,Hi],e2⟩
def xB(w:Int)(L:LU):LU:=dX w.toNat (Mw L)
theorem Ud(w:Int)(hw:fW w)(L:LU)(h:Hp)(hs:L.length<=1073741824):
  C 111 [.int .i64 w,.string (str L)] h fun v h'=>v = .tuple #[.agg (bc (xB w L)).toArray,.int .i64 0]/\Kept h h':=by
 refine sv RB fun wf=>?_;intro O e1;rw[dU]at e1;obtain⟨b1,U,n1,V⟩:=aB wf e1;refine(TE L O hs).mono fun v W ⟨e,e2⟩=>⟨cV (Mw L),by rw[aH (iC L)];exact e,?_⟩;subst e2;rw[aH (iC L)];have hl:(xB w L).length=32:=iK (iC L) (by unfold fW at hw;omega);refine(TR w (Mw L) (iC L) W).wf fun v h3 E aa ⟨e,G⟩=>?_;rw[if_pos hw,if_pos hw]at e;have b3:=Kept.blk G b1;obtain⟨h4,e4,b4,k4,_,n4,ac⟩:=bP E (vs:=bc (xB w L)) b3 (U.trans wf G fF) wf (Uf _) (by rw[aJ,aJ,hl];rfl) (aZ _);refine⟨cV (xB w L),0,by rw[aH hl];exact e,rfl,h4,by rw[aH hl];exact e4,cV (xB w L),⟨rfl,cH b4 hl⟩,?_,k4⟩;rw[aH hl]
theorem Ez{h:Hp}(w:Int)(hw:fW w)(s:BA)(G:1<=s.size)(O:s.size<=64){a:OA}{l c:Nat}{gr:ON}{T:List BA}(sl:SlT strc 1 h gr a l c T)(hg:∀x,gr=some x->x < h.next)(hT:∀u∈T,u.size<=1000000)(hl:l<=1000)(ht:(gH s T).length<=1073741824):
  C 87 [.int .i64 w,.string s,.slice a l c] h fun v h'=>v = .tuple #[.agg (bc (xB w (gH s T))).toArray,.int .i64 0]/\Kept h h':=by
 refine sv Fv fun wf=>?_;intro h1 e1;rw[dU]at e1;obtain⟨b1,k1,n1,U⟩:=aB wf e1;refine(QW w h1).mono fun v aa ⟨e,V⟩=>⟨_,e,?_⟩;subst V;rw[if_neg (by simp[aD,hw])];refine(Rt s G O (sl.keep k1 fF) (fun x hx=>by have:=hg x hx;omega) hT hl).wf fun v h2 ac ad ⟨e,k2⟩=>⟨_,_,e,?_⟩;rw[if_neg (by simp[cP])];have hl:(xB w (gH s T)).length=32:=iK (iC _) (by unfold fW at hw;omega);refine(Ud w hw (gH s T) h2 ht).wf fun v h3 W ae ⟨e,k3⟩=>?_;have E:=k2.trans U k3 fF;have b3:=Kept.blk E b1;obtain⟨h4,e4,b4,k4,_,n4,af⟩:=bP W (vs:=bc (xB w (gH s T))) b3 (k1.trans wf E fF) wf (Uf _) (by rw[aJ,aJ,hl];rfl) (aZ _);refine⟨cV (xB w (gH s T)),0,by rw[aH hl];exact e,rfl,h4,by rw[aH hl];exact e4,cV (xB w (gH s T)),⟨rfl,cH b4 hl⟩,?_,k4⟩;rw[aH hl]
def AK(N:NodeT):BA:=if N.leaf=true then ByteArray.mk (Array.mk [108,101,97,102]) else ByteArray.mk (Array.mk [98,114,97,110,99,104])
def sumN(w:Int)(N:NodeT):LU:=xB w (gH (AK N) [str (cJ false w N)])
theorem Gd{h E:Hp}(wf:Wf h){s:BA}{e:TI}(he:E=h.alloc [.string s] e):SlT strc 1 E (some h.next) (some ⟨h.next,0,none⟩) 1 1 [s]:=by
 obtain⟨b1,O,n1,G⟩:=aB wf he;exact⟨⟨Uf _,rfl,.inl rfl,fun _=>⟨[.string s],b1,Uf _,rfl⟩⟩,rfl⟩
theorem Nk{h:Hp}{n:Nat}{nv:Value}{N:NodeT}(x:NodeAt h n nv N)(av:n<=h.next)(p w:Int)(ah:N.ps.length<=1099511500000)(ai:N.K.length<=1099511500000)(aj:N.ks.length<=1099511500000):
  C 55 [fr p w,nv] h fun r h'=>(∃(e:Int) (D:LU),r = .tuple #[.agg (bc D).toArray,.int .i64 e]/\MayIs p w N e/\(e=0->D=sumN w N)/\(e≠0->D=bH))/\Kept h h':=by
 have x0:=x;obtain⟨a1,l1,c1,a2,l2,c2,a3,l3,c3,rfl,q1,q2,q3⟩:=x;refine sv OX fun wf=>?_;intro h1 e1 h2 e2 h3 e3;rw[dU]at e3;obtain⟨b1,k1,n1,ak⟩:=aB wf e1;obtain⟨b2,k2,n2,al⟩:=aB ak e2;obtain⟨b3,k3,n3,O⟩:=aB al e3;have aa:Kept h h3:=(k1.trans wf k2 fF).trans wf k3 fF;have ad:=Kept.blk k3 (Kept.blk k2 b1);have an:=Kept.blk k3 b2;have rp:h3.cellsAt h.next 0 2=some [.int .i64 p,.int .i64 w]:=by rw[ad.cells (by simp)];rfl
 have rs:h3.cellsAt h1.next 0 3=some [.slice a1 l1 c1,.slice a2 l2 c2,.slice a3 l3 c3]:=by rw[an.cells (by simp)];rfl
 have ao:N.K.length=l2:=by obtain⟨_,_,q⟩:=q2;exact q.len
 have ap:N.ks.length=l3:=by obtain⟨_,_,q⟩:=q3;exact q.len
 have x3:=x0.keep aa fF;refine⟨p,w,⟨rfl,rp⟩,a1,l1,c1,a2,l2,c2,a3,l3,c3,⟨rfl,rs⟩,?_⟩;refine(Rv x3 (by have:=aa.next;omega) p w ah ai aj).mono fun v h4 ⟨⟨e,s,e4,hc,aq,ax⟩,e5⟩=>⟨s,e,e4,?_⟩;subst e5;have fin:∀(h5:Hp) (D:LU),Wf h5->D.length=32->Kept h4 h5->∃U,h5.store h2.next 0 (bc D)=some U/\Blk U h2.next (some h2.next) (bc D)/\Kept h U:=by
  intro h5 D E G k5;have b5:=Kept.blk k5 b3;have ar:=aa.trans wf k5 fF;have hn:h.next<=h2.next:=by omega
  obtain⟨U,V,b6,k6,_,n6,ae⟩:=bP E (vs:=bc D) b5 ar wf hn (by rw[aJ,aJ,G];rfl) (aZ _);exact⟨U,V,b6,k6⟩
 by_cases he:cP e 0=true
 ·rw[if_pos he];rw[bA]at he;obtain⟨U,V,b6,k6⟩:=fin h4 bH O rfl (Keep.refl _ _);refine⟨rfl,U,by rw[dU];exact V,cV bH,⟨rfl,cH b6 rfl⟩,⟨e,bH,?_,hc,fun h=>absurd h he,fun _=>rfl⟩,k6⟩;rw[aH bI]
 ·rw[if_neg he];have W:e=0:=by rw[bA]at he;omega
  obtain⟨hF,hG,hS⟩:Fr p w/\cS p w N/\(gK w N:Int)<=p - 32:=by
   rcases hc with ⟨_,h⟩ | ⟨_,_,_,h⟩ | ⟨h1,h2,h3,_⟩
   ·exact absurd W h
   ·omega
   ·exact⟨h1,h2,h3⟩
  obtain⟨f1,f2,f3,f4⟩:=qF hF;have hw:fW w:=⟨f3,f4⟩;have hk:=kB hG;have hle:(cJ false w N).length<=8192:=by
   obtain⟨wn,rfl⟩:∃wn:Nat,w=(wn:Int):=⟨w.toNat,by omega⟩;have:=mX (p:=p) (w:=wn) (N:=N) (by omega) false (hk.imp id fun h=>by omega) hk
   omega
  have es:=aq W;subst es;refine⟨a1,l1,c1,a2,l2,c2,a3,l3,c3,⟨rfl,rs⟩,?_⟩;refine(uC a1 a2 a3 l1 c1 l2 c2 l3 c3 h4).wf fun v h5 E ay ⟨e,k5⟩=>⟨_,e,?_⟩;rw[fG ao ap];have af:h5.cellsAt h.next 1 1=some [.int .i64 w]:=(Kept.blk k5 ad).one rfl;have hT:∀u∈[str (cJ false w N)],u.size<=1000000:=by intro u hu;simp at hu;subst hu;rw[eQ];omega
  have ag:∀s:BA,s.size<=64->(gH s [str (cJ false w N)]).length<=1073741824:=by
   intro s hs;unfold gH oC jF;have:s.data.toList.length=s.size:=VE;simp[cO,eQ,jC]
   omega
  have G:(sumN w N).length=32:=iK (iC _) (by omega);by_cases hL:N.leaf=true
  ·rw[if_pos hL];refine⟨rfl,w,⟨rfl,af⟩,?_⟩;intro U V;obtain⟨b6,k6,n6,ae⟩:=aB E V;refine(Ez w hw _ (by decide) (by decide) (Gd E V) (fun x hx=>by injection hx with hx;omega) hT (by omega) (ag _ (by decide))).wf fun v h7 ac au ⟨e7,k7⟩=>?_
   have hd:xB w (gH (ByteArray.mk (Array.mk [108,101,97,102])) [str (cJ false w N)])=sumN w N:=by unfold sumN AK;rw[if_pos hL]
   rw[hd]at e7;obtain⟨h8,e8,b8,k8⟩:=fin h7 (sumN w N) ac G ((k5.trans O k6 fF).trans O k7 fF);refine⟨cV (sumN w N),0,by rw[aH G];exact e7,rfl,h8,by rw[aH G];exact e8,cV (sumN w N),⟨rfl,cH b8 G⟩,⟨0,sumN w N,by rw[aH G],by rw[<-W];exact hc,fun _=>rfl,fun h=>absurd rfl h⟩,k8⟩
  ·rw[if_neg hL];refine⟨rfl,w,⟨rfl,af⟩,?_⟩;intro U V;obtain⟨b6,k6,n6,ae⟩:=aB E V;refine(Ez w hw _ (by decide) (by decide) (Gd E V) (fun x hx=>by injection hx with hx;omega) hT (by omega) (ag _ (by decide))).wf fun v h7 ac au ⟨e7,k7⟩=>?_
   have hd:xB w (gH (ByteArray.mk (Array.mk [98,114,97,110,99,104])) [str (cJ false w N)])=sumN w N:=by unfold sumN AK;rw[if_neg hL]
   rw[hd]at e7;obtain⟨h8,e8,b8,k8⟩:=fin h7 (sumN w N) ac G ((k5.trans O k6 fF).trans O k7 fF);refine⟨cV (sumN w N),0,by rw[aH G];exact e7,rfl,h8,by rw[aH G];exact e8,cV (sumN w N),⟨rfl,cH b8 G⟩,⟨0,sumN w N,by rw[aH G],by rw[<-W];exact hc,fun _=>rfl,fun h=>absurd rfl h⟩,k8⟩
end Go.Proofs.YtmapagggnigfpaaGreat.pk
namespace Go.Cn.Pk
def qR(k:KidT):Prop:=2<=k.page/\k.page < 2147483648
def mO(p w:Int)(N:NodeT):Prop:=Fr p w/\cS p w N/\N.leaf=true/\N.ps.length=0
def mN(p w:Int)(N:NodeT)(e:Int):Prop :=
 (mO p w N/\e=70)\/(¬mO p w N/\MayIs p w N e/\e≠0)\/(¬mO p w N/\MayIs p w N 0/\(∃k∈N.ks,¬qR k)/\e=72)\/(¬mO p w N/\MayIs p w N 0/\(∀k∈N.ks,qR k)/\e=0)
end Go.Cn.Pk
namespace Go.Proofs.YtmapagggnigfpaaGreat.pk
open Cn Cn.Pk vc
theorem TH{h:Hp}{n:Nat}{nv:Value}{N:NodeT}(x:NodeAt h n nv N)(bg:n<=h.next)(p w:Int)(ad:N.ps.length<=1099511500000)(ah:N.K.length<=1099511500000)(ae:N.ks.length<=1099511500000):
  C 213 [fr p w,nv] h fun r h'=>(∃(e:Int) (s:BA),r = .tuple #[.string s,.int .i64 e]/\mN p w N e/\(e=0->s=str (cJ true w N))/\(e≠0->s=ByteArray.mk #[]))/\h'=h:=by
 refine SCalls.trim (K:=fun r h'=>(∃(e:Int) (s:BA),r = .tuple #[.string s,.int .i64 e]/\mN p w N e/\(e=0->s=str (cJ true w N))/\(e≠0->s=ByteArray.mk #[]))/\Kept h h') (of_decide_eq_true (by kernel_rfl)) ?_ fun v h' ⟨⟨e,s,e1,e2⟩,k⟩=>⟨fS k,by rw[e1];rfl,e,s,e1,e2⟩;have x0:=x;obtain⟨a1,l1,c1,a2,l2,c2,a3,l3,c3,rfl,q1,q2,q3⟩:=x;refine sv Lf fun wf=>?_;intro G e1 O e2;obtain⟨b1,k1,n1,au⟩:=aB wf e1;obtain⟨b2,k2,n2,av⟩:=aB au e2;have ai:Kept h O:=k1.trans wf k2 fF;have aj:=Kept.blk k2 b1;have rp:O.cellsAt h.next 0 2=some [.int .i64 p,.int .i64 w]:=by rw[aj.cells (by simp)];rfl
 have rs:O.cellsAt G.next 0 3=some [.slice a1 l1 c1,.slice a2 l2 c2,.slice a3 l3 c3]:=by rw[b2.cells (by simp)];rfl
 have ax:N.K.length=l2:=by obtain⟨_,_,q⟩:=q2;exact q.len
 have ay:N.ks.length=l3:=by obtain⟨_,_,q⟩:=q3;exact q.len
 have bh:N.ps.length=l1:=by obtain⟨_,_,q⟩:=q1;exact q.len
 have x2:=x0.keep ai fF;refine⟨p,w,⟨rfl,rp⟩,a1,l1,c1,a2,l2,c2,a3,l3,c3,⟨rfl,rs⟩,?_⟩;refine(Nq x2 p w ad ah ae).mono fun v h3 ⟨⟨e,e3,hc⟩,e4⟩=>⟨e,e3,?_⟩;subst e4;have ak:e=0↔Fr p w/\cS p w N:=by
  rcases hc with ⟨G,h⟩ | ⟨G,O,h⟩ | ⟨G,O,h⟩
  ·exact⟨fun h0=>by omega,fun h0=>absurd h0.1 G⟩
  ·exact⟨fun _=>⟨G,O⟩,fun _=>h⟩
  ·exact⟨fun h0=>by omega,fun h0=>absurd h0.2 O⟩
 refine⟨a1,l1,c1,a2,l2,c2,a3,l3,c3,fun _=>⟨rfl,rs⟩,fun v U=>(∃b:Bool,v = .bool b/\(e=0->b=N.leaf))/\Kept h3 U/\Wf U,?_,?_,?_⟩
 ·intro _;refine(uC a1 a2 a3 l1 c1 l2 c2 l3 c3 h3).wf fun v h5 az bi ⟨e,k5⟩=>⟨_,e,⟨_,rfl,fun _=>fG ax ay⟩,k5,az⟩
 ·intro hc;exact⟨false,⟨false,rfl,fun h0=>by rw[h0]at hc;simp[bX]at hc⟩,Keep.refl _ _,av⟩
 ·rintro b h4 ⟨⟨b',eb,hb⟩,k4,al⟩;injection eb with eb
  subst eb;have an:=Kept.blk k4 aj;have aa:=Kept.blk k4 b2;have a0:h4.cellsAt h.next 0 2=some [.int .i64 p,.int .i64 w]:=by rw[an.cells (by simp)];rfl
  have a4:h4.cellsAt G.next 0 3=some [.slice a1 l1 c1,.slice a2 l2 c2,.slice a3 l3 c3]:=by rw[aa.cells (by simp)];rfl
  have V:=ai.trans wf k4 fF;refine⟨fun _=>rfl,a1,l1,c1,fun _=>⟨rfl,aa.one rfl⟩,?_⟩;have hH:aR (aR (bX e 0) b false) (bX (aE l1) 0) false=true↔mO p w N:=by
   rw[bN,bN,aV,aV,aF];unfold mO
   constructor
   ·rintro⟨⟨G,O⟩,h3⟩;obtain⟨f,g⟩:=ak.1 G;exact⟨f,g,by rw[<-hb G];exact O,by omega⟩
   ·rintro⟨f,g,O,h3⟩;have G:=ak.2 ⟨f,g⟩;exact⟨⟨G,by rw[hb G];exact O⟩,by omega⟩
  by_cases U:aR (aR (bX e 0) b false) (bX (aE l1) 0) false=true
  ·rw[if_pos U];exact⟨⟨70,_,rfl,.inl ⟨hH.1 U,rfl⟩,fun h=>by omega,fun _=>rfl⟩,V⟩
  ·rw[if_neg U];have af:¬mO p w N:=fun h=>U (hH.2 h);have x4:=x0.keep V fF;refine⟨p,w,⟨rfl,a0⟩,a1,l1,c1,a2,l2,c2,a3,l3,c3,⟨rfl,a4⟩,?_⟩;refine(Qb x4 p w ad ah ae).mono fun v h5 ⟨⟨e',e3,hm⟩,e4⟩=>⟨e',e3,?_⟩;subst e4;by_cases he:cP e' 0=true
   ·rw[if_pos he];rw[bA]at he;exact⟨⟨e',_,rfl,.inr (.inl ⟨af,hm,he⟩),fun h=>absurd h he,fun _=>rfl⟩,V⟩
   ·rw[if_neg he];have a5:e'=0:=by rw[bA]at he;omega
    subst a5;obtain⟨g3,_,s3⟩:=cD V (fF) q3;refine⟨rfl,a3,l3,c3,⟨rfl,aa.one rfl⟩,?_⟩;refine⟨fun vals m U=>∃i:Nat,[.int .i64 (i:Int)]=vals/\m=l3 - i/\i<=l3/\(∀k∈N.ks.take i,qR k)/\Kept h5 U/\Wf U,⟨l3,0,rfl,rfl,Uk _,by simp,Keep.refl _ _,al⟩,?_⟩;rintro n3 m U ⟨i,e,bj,hi,ag,k,ao⟩;simp only[Ur,Value.int.injEq,true_and,and_true]at e;subst e;have ac:=V.trans wf k fF;by_cases hc:bO (i:Int) (aE l3)=true
    ·rw[if_pos hc];have ap:i < l3:=by rw[aC,aF]at hc;omega
     obtain⟨E,eb⟩:∃E,N.ks[i]? = some E:=⟨_,Uh (by omega)⟩;have a6:=s3.keep k fF;obtain⟨ha,W⟩:=a6.get dL eb (j:=0) (m:=33) (by omega);have a7:aA (off a3) (i:Int) 33=off a3+i * 33+0:=by unfold aA;rw[Uo];omega
     have ek:[Value.int IntKind.u32 (E.page:Int)]++aK .u8 32 (cV E.sum)=kidC E:=by rw[aH E.hs];rfl
     have a8:((kidC E).drop 0).take 33=kidC E:=by rw[VC,Uj (by rw[dL];omega)]
     refine⟨⟨ha,Ui _,by omega⟩,(E.page:Int),cV E.sum,⟨rfl,by rw[a7,ek];rw[a8]at W;exact W⟩,?_⟩;intro h6 e6;obtain⟨b6,k6,n6,a9⟩:=aB ao e6;obtain⟨h7,e7,b7,k7,_,n7,ba⟩:=bP a9 (vs:=kidC E) b6 k6 ao (Uf _) (by rw[dL];rfl) (jT E);have aq:h7.cellsAt U.next 0 1=some [.int .u32 (E.page:Int)]:=b7.one rfl;refine⟨rfl,h7,by rw[ek];exact e7,rfl,(E.page:Int),⟨rfl,aq⟩,fun _=>rfl,(E.page:Int),fun _=>⟨rfl,aq⟩,?_⟩;have ar:aR (bO (E.page:Int) 2) true (iE (E.page:Int) 2147483648)=true↔¬qR E:=by
      rw[cG,aC,cK];unfold qR
      omega
     by_cases hq:aR (bO (E.page:Int) 2) true (iE (E.page:Int) 2147483648)=true
     ·rw[if_pos hq];exact⟨⟨72,_,rfl,.inr (.inr (.inl ⟨af,hm,⟨E,Uy eb,ar.1 hq⟩,rfl⟩)),fun h=>by omega,fun _=>rfl⟩,ac.trans wf k7 fF⟩
     ·rw[if_neg hq];refine⟨l3 - (i+1),by simp only[aI];omega,i+1,?_,rfl,by omega,?_,k.trans al k7 fF,ba⟩
      ·rw[show aG .i64 (i:Int) 1=_ from cN 1 i (by omega)]
      ·intro q hm;rw[VG,eb]at hm;rcases VF.1 hm with hm | hm
       ·exact ag q hm
       ·simp only[Option.toList_some,WC]at hm;subst hm;exact Classical.byContradiction fun h=>hq (ar.2 h)
    ·rw[if_neg hc];have ap:i=l3:=by
      by_cases hq:i=l3
      ·exact hq
      ·exact absurd (aC.2 (by rw[aF];omega)) hc
     subst ap;rw[Uj (by omega)]at ag;obtain⟨hF,hG,hS⟩:Fr p w/\cS p w N/\(gK w N:Int)<=p - 32:=by
      rcases hm with ⟨_,h⟩ | ⟨_,_,_,h⟩ | ⟨G,O,h3,_⟩
      ·exact absurd rfl h
      ·omega
      ·exact⟨G,O,h3⟩
     obtain⟨f1,f2,f3,f4⟩:=qF hF;have hle:(cJ true w N).length<=8192:=by
      obtain⟨wn,rfl⟩:∃wn:Nat,w=(wn:Int):=⟨w.toNat,by omega⟩;have:=mX (p:=p) (w:=wn) (N:=N) (by omega) true ((kB hG).imp id fun h=>by omega) (kB hG)
      omega
     have hk:=kB hG;have bb:=Kept.blk k an;have bf:=Kept.blk k aa;have xh:=x0.keep ac fF;refine⟨p,w,⟨rfl,by rw[bb.cells (by simp)];rfl⟩,a1,l1,c1,a2,l2,c2,a3,_,c3,⟨rfl,by rw[bf.cells (by simp)];rfl⟩,?_⟩;refine(Qf xh (by have:=ac.next;omega) p w true (fun hL=>by rcases hk with hk | hk;rw[hk]at hL;simp at hL;omega) (by omega) ad ae).mono fun v h8 ⟨e8,k8⟩=>⟨_,e8,⟨0,_,rfl,.inr (.inr (.inr ⟨af,hm,ag,rfl⟩)),fun _=>rfl,fun h=>absurd rfl h⟩,ac.trans wf k8 fF⟩
end Go.Proofs.YtmapagggnigfpaaGreat.pk
set_option linter.unusedSimpArgs false
namespace Go.Cn.Pk
def SV:KidT:=⟨0,bH,Uk _,bI⟩
def mE(k:jL):KidT:=if h:k.2.1<=4294967295/\k.2.2.length=32 then⟨k.2.1,k.2.2,h.1,h.2⟩ else SV
theorem tU{k:jL}(h:Go.Proofs.YtmapagggnigfpaaGreat.pk.KidOk k):mE k=⟨k.2.1,k.2.2,h.1,h.2⟩:=dif_pos (c:=k.2.1<=4294967295/\k.2.2.length=32) h
theorem PL{k:jL}(h:Go.Proofs.YtmapagggnigfpaaGreat.pk.KidOk k):kidC (mE k)=rX k:=by rw[tU h];rfl
theorem yQ{k:jL}(h:Go.Proofs.YtmapagggnigfpaaGreat.pk.KidOk k):(mE k).page=k.2.1:=by rw[tU h]
theorem BE{k:jL}(h:Go.Proofs.YtmapagggnigfpaaGreat.pk.KidOk k):(mE k).sum=k.2.2:=by rw[tU h]
theorem EU(k:KidT)(sp:LU):mE (sp,k.page,k.sum)=k:=tU (k:=(sp,k.page,k.sum)) ⟨k.hp,k.hs⟩
def fJ(dF:Bool)(m w:Nat)(L:LU):Option NodeT :=
 match bV 1 L with
 | some (1,r)=>match jN (fC (m / 16) (m / 8)) L.length r with
  | some (l,[])=>some ⟨l,[],[]⟩
  | _=>none
 | some (2,r)=>match jH (gT dF w (m / 16)) L.length r with
  | some (k::l,[])=>some ⟨[],l.map (fun k=>str k.1),(k::l).map mE⟩
  | _=>none
 | _=>none
theorem Ju{mk mv:Nat}{L r:LU}{x:PairT}(h:fC mk mv L=some (x,r)):L=dT x++r/\x.1.size<=mk/\x.2.size<=mv:=by
 unfold fC at h
 cases E:cX mk L with
 | none=>simp[E]at h
 | some y =>
  obtain⟨k,q⟩:=y;obtain⟨rfl,O⟩:=uQ E;simp only[E,Ul]at h
  cases G:cX mv q with
  | none=>simp[G]at h
  | some z =>
   obtain⟨v,t⟩:=z;obtain⟨rfl,U⟩:=uQ G;simp only[G,Uv,Um,Un]at h;obtain⟨rfl,rfl⟩:=h;refine⟨?_,O,U⟩;unfold dT;rw[Ut]
theorem MP{mk mv:Nat}{x:PairT}(E:x.1.size<=mk)(G:x.2.size<=mv)(O:mk < 18446744073709551616)(U:mv < 18446744073709551616)(r:LU):fC mk mv (dT x++r)=some (x,r):=by
 unfold fC dT;rw[Ut,nQ _ E O];simp only[Ul];rw[nQ _ G U]
 rfl
theorem Av{α:Type}{p:LU->Option (α×LU)}{f:α->LU}{Q:α->Prop}(hp:∀{L x r},p L=some (x,r)->L=f x++r/\Q x):∀{n:Nat} {L:LU} {l:List α} {r:LU},kP p n L=some (l,r)->L=l.flatMap f++r/\l.length=n/\∀x∈l,Q x
 | 0,L,l,r,h=>by
  simp only[kP,Um,Un]at h;obtain⟨rfl,rfl⟩:=h;exact⟨rfl,rfl,by simp⟩
 | n+1,L,l,r,h=>by
  unfold kP at h
  cases E:p L with
  | none=>simp[E]at h
  | some y =>
   obtain⟨x,q⟩:=y;obtain⟨rfl,U⟩:=hp E;simp only[E,Ul]at h
   cases G:kP p n q with
   | none=>simp[G]at h
   | some z =>
    obtain⟨l',W⟩:=z;obtain⟨rfl,hl,V⟩:=Av hp G;simp only[G,Uv,Um,Un]at h;obtain⟨rfl,rfl⟩:=h;refine⟨by simp,by simp[hl],?_⟩;intro y O;rcases VM.1 O with rfl | O
    ·exact U
    ·exact V y O
theorem EH{α:Type}{p:LU->Option (α×LU)}{f:α->LU}:∀(l:List α) (r:LU),(∀x∈l,∀r,p (f x++r)=some (x,r))->kP p l.length (l.flatMap f++r)=some (l,r)
 | [],r,h=>rfl
 | x::l,r,h=>by
  simp only[Ux,Vg,kP,Ut];rw[h x (by simp)];simp only[Ul];rw[EH l r fun y E=>h y (by simp[E])]
  rfl
def wE(dF:Bool)(w:Nat)(i:Nat)(k:jL):LU:=(if 0 < i then gI (str k.1) else [])++((if dF=true then be 4 k.2.1 else [])++k.2.2.take w)
theorem Mf{dF:Bool}{w mk i:Nat}(hw:w<=32){L r:LU}{k:jL}(h:gT dF w mk i L=some (k,r)):
  L=wE dF w i k++r/\Go.Proofs.YtmapagggnigfpaaGreat.pk.KidOk k/\dX w k.2.2=k.2.2/\k.1.length<=mk/\(dF=false->k.2.1=0)/\(i=0->k.1=[]):=by
 unfold gT at h
 cases E:(if 0 < i then cX mk L else some ([],L)) with
 | none=>simp[E]at h
 | some y =>
  obtain⟨sp,q⟩:=y;have e1:L=(if 0 < i then gI (str sp) else [])++q/\sp.length<=mk/\(i=0->sp=[]):=by
   by_cases hi:0 < i
   ·rw[if_pos hi]at E ⊢;obtain⟨e,hl⟩:=uQ E;exact⟨e,hl,fun h=>by omega⟩
   ·rw[if_neg hi]at E ⊢;simp only[Um,Un]at E;obtain⟨rfl,rfl⟩:=E;exact⟨rfl,by simp,fun _=>rfl⟩
  obtain⟨e1,O,U⟩:=e1;simp only[E,Ul]at h
  cases G:(if dF=true then bV 4 q else some (0,q)) with
  | none=>simp[G]at h
  | some y =>
   obtain⟨pg,t⟩:=y;have e2:q=(if dF=true then be 4 pg else [])++t/\pg<=4294967295/\(dF=false->pg=0):=by
    cases dF with
    | true =>
     simp only[if_true]at G ⊢;exact⟨uS G,Da G,by simp⟩
    | false =>
     simp only[if_false,VA,Um,Un]at G ⊢;obtain⟨rfl,rfl⟩:=G;exact⟨rfl,by omega,fun _=>rfl⟩
   obtain⟨e2,V,W⟩:=e2;simp only[G,Ul]at h
   cases h3:dR w t with
   | none=>simp[h3]at h
   | some z =>
    obtain⟨d,u⟩:=z;obtain⟨e3,hd,hc⟩:=Mu hw h3;simp only[h3,Uv,Um,Un]at h;obtain⟨rfl,rfl⟩:=h;refine⟨?_,⟨V,hd⟩,hc,O,W,U⟩;rw[e1,e2,e3];unfold wE;simp only[Ut]
theorem PK{dF:Bool}{w mk i:Nat}(hw:w<=32)(E:mk < 18446744073709551616){k:jL}(G:Go.Proofs.YtmapagggnigfpaaGreat.pk.KidOk k)(O:dX w k.2.2=k.2.2)(hs:k.1.length<=mk)(hp:dF=false->k.2.1=0)(h0:i=0->k.1=[])(r:LU):
  gT dF w mk i (wE dF w i k++r)=some (k,r):=by
 obtain⟨sp,pg,d⟩:=k;unfold gT wE;simp only at G O hs hp h0 ⊢;have e1:∀t:LU,(if 0 < i then cX mk ((if 0 < i then gI (str sp) else [])++t) else some ([],(if 0 < i then gI (str sp) else [])++t))=some (sp,t):=by
  intro t;by_cases hi:0 < i
  ·rw[if_pos hi,if_pos hi,nQ _ (by rw[eQ];exact hs) E,jC]
  ·rw[if_neg hi,if_neg hi,h0 (by omega)];rfl
 rw[Ut,e1];simp only[Ul,Ut];have e2:∀t:LU,(if dF=true then bV 4 ((if dF=true then be 4 pg else [])++t) else some (0,(if dF=true then be 4 pg else [])++t))=some (pg,t):=by
  intro t
  cases dF with
  | true=>simp only[if_true];exact DZ G.1 t
  | false=>simp only[if_false,VA];rw[hp rfl];rfl
 rw[e2];simp only[Ul];rw[IG G.2 hw O]
 rfl
def jS(dF:Bool)(w:Nat):Nat->List jL->LU
 | _,[]=>[]
 | i,k::l=>wE dF w i k++jS dF w (i+1) l
theorem Aw{dF:Bool}{w mk:Nat}(hw:w<=32):∀{n i:Nat} {L:LU} {l:List jL} {r:LU},kQ (gT dF w mk) i n L=some (l,r)->
  L=jS dF w i l++r/\l.length=n/\(∀k∈l,Go.Proofs.YtmapagggnigfpaaGreat.pk.KidOk k/\dX w k.2.2=k.2.2/\k.1.length<=mk/\(dF=false->k.2.1=0))
 | 0,i,L,l,r,h=>by
  simp only[kQ,Um,Un]at h;obtain⟨rfl,rfl⟩:=h;exact⟨rfl,rfl,by simp⟩
 | n+1,i,L,l,r,h=>by
  unfold kQ at h
  cases E:gT dF w mk i L with
  | none=>simp[E]at h
  | some y =>
   obtain⟨x,q⟩:=y;obtain⟨rfl,U,V,W,q4,q5⟩:=Mf hw E;simp only[E,Ul]at h
   cases G:kQ (gT dF w mk) (i+1) n q with
   | none=>simp[G]at h
   | some z =>
    obtain⟨l',q'⟩:=z;obtain⟨rfl,hl,hQ⟩:=Aw hw G;simp only[G,Uv,Um,Un]at h;obtain⟨rfl,rfl⟩:=h;refine⟨by simp[jS],by simp[hl],?_⟩;intro y O;rcases VM.1 O with rfl | O
    ·exact⟨U,V,W,q4⟩
    ·exact hQ y O
theorem EI{dF:Bool}{w mk:Nat}(hw:w<=32)(E:mk < 18446744073709551616):∀(l:List jL) (i:Nat) (r:LU),(∀k∈l,Go.Proofs.YtmapagggnigfpaaGreat.pk.KidOk k/\dX w k.2.2=k.2.2/\k.1.length<=mk/\(dF=false->k.2.1=0))->(i=0->∀k∈l.head?,k.1=[])->
  kQ (gT dF w mk) i l.length (jS dF w i l++r)=some (l,r)
 | [],i,r,h,h0=>rfl
 | x::l,i,r,h,h0=>by
  simp only[Ux,jS,kQ,Ut];obtain⟨G,O,U,V⟩:=h x (by simp);rw[PK hw E G O U V (fun hi=>h0 hi x (by simp))];simp only[Ul];rw[EI hw E l (i+1) r (fun y W=>h y (by simp[W])) (by omega)]
  rfl
end Go.Cn.Pk
namespace Go.Proofs.YtmapagggnigfpaaGreat.pk
open Cn Cn.Pk vc
theorem Pn{b:Nat}{s:BA}{x:Option LU}{h:Hp}(r:RS h b s x):C 229 [pt b] h fun v h'=>(∃a:OA,v = .pointer a/\isN a=x.isSome)/\Kept h h':=by
 refine sv Li fun wf=>?_;have main:∀(p:Nat) (f:Int),FM h b s p f->isN (some (Addr.mk b 0 none))=false:=fun _ _ _=>rfl
 cases x with
 | some L =>
  obtain⟨p,hp,rfl,r⟩:=r;refine⟨fun _=>rfl,fun _=>rfl,0,fun _=>⟨rfl,Blk.one r rfl⟩,?_⟩;rw[if_pos (by rfl)];exact⟨⟨none,rfl,rfl⟩,Keep.refl _ _⟩
 | none =>
  obtain⟨p,f,hp,G,r⟩:=r;refine⟨fun _=>rfl,fun _=>rfl,f,fun _=>⟨rfl,Blk.one r rfl⟩,?_⟩;rw[if_neg (by rw[cG,aV];rintro(E | E);exact absurd E (by simp[isN]);exact G E)];refine⟨rfl,rfl,f,⟨rfl,Blk.one r rfl⟩,rfl,rfl,(p:Int),⟨rfl,Blk.one r rfl⟩,?_⟩;intro E e1;obtain⟨b1,O,n1,U⟩:=aB wf e1;exact⟨⟨_,rfl,rfl⟩,O⟩
theorem Qa{b:Nat}{s:BA}{x:Option LU}{h:Hp}(r:RS h b s x)(hs:s.size<=1099511627776):C 223 [pt b] h fun v h'=>(qC v/\iR v=decide (x=some []))/\Kept h h':=by
 refine sv OW fun wf=>?_;have made:∃c1 c2 c3,Blk h b (some b) [.bool true,c1,c2,c3]:=by
  cases x with
  | some L=>obtain⟨p,hp,rfl,r⟩:=r;exact⟨_,_,_,r⟩
  | none=>obtain⟨p,f,hp,hf,r⟩:=r;exact⟨_,_,_,r⟩
 obtain⟨c1,c2,c3,hb⟩:=made;refine⟨fun _=>rfl,fun _=>rfl,true,fun _=>⟨rfl,hb.one rfl⟩,?_⟩;rw[if_neg (by rw[cG];rintro(E | E);exact absurd E (by simp[isN]);exact absurd E (by simp[aD]))];refine(Pn r).wf fun v E O aa ⟨⟨a,e,V⟩,G⟩=>⟨a,e,?_⟩
 cases x with
 | none =>
  rw[if_pos (by rw[V];rfl)];exact⟨⟨trivial,by simp[iR]⟩,G⟩
 | some L =>
  rw[if_neg (by rw[V];simp[aD])];have W:=r.keep G id;refine(Cp W hs).mono fun v h' ⟨e,eh⟩=>⟨_,e,?_⟩;subst eh;by_cases U:L=[]
  ·subst U;rw[if_neg (by rw[aS];simp)];exact⟨⟨trivial,by simp[iR]⟩,G⟩
  ·have:0 < L.length:=List.length_pos_iff.2 U;rw[if_pos (by rw[aS];omega)];obtain⟨p,hp,_,r2⟩:=W;refine⟨rfl,rfl,(p:Int),⟨rfl,Blk.one r2 rfl⟩,?_⟩;intro h3 e3;obtain⟨b3,k3,n3,ac⟩:=aB O e3;exact⟨⟨trivial,by simp[iR,U]⟩,G.trans wf k3 fF⟩
structure NodeS(h:Hp)(S:NP)(v:Value)(N:NodeT):Prop where
 ex:∃a1 l1 c1 a2 l2 c2 a3 l3 c3,v = .agg #[.slice a1 l1 c1,.slice a2 l2 c2,.slice a3 l3 c3]/\
  (∃g:ON,(∀x,g=some x->S x)/\SlT pairC 2 h g a1 l1 c1 N.ps)/\
  (∃g:ON,(∀x,g=some x->S x)/\SlT strc 1 h g a2 l2 c2 N.K)/\
  (∃g:ON,(∀x,g=some x->S x)/\SlT kidC 33 h g a3 l3 c3 N.ks)
theorem NodeS.keep{S S0:NP}{h h':Hp}{v:Value}{N:NodeT}(x:NodeS h S v N)(k:Keep S0 h h')(G:∀g,S g->¬S0 g):NodeS h' S v N:=by
 obtain⟨a1,l1,c1,a2,l2,c2,a3,l3,c3,e,⟨g1,O,W⟩,⟨g2,U,r2⟩,⟨g3,V,r3⟩⟩:=x;exact⟨a1,l1,c1,a2,l2,c2,a3,l3,c3,e,⟨g1,O,W.keep k fun x E=>G x (O x E)⟩,⟨g2,U,r2.keep k fun x E=>G x (U x E)⟩,⟨g3,V,r3.keep k fun x E=>G x (V x E)⟩⟩
theorem NodeS.mono{S S':NP}{h:Hp}{v:Value}{N:NodeT}(x:NodeS h S v N)(hs:∀g,S g->S' g):NodeS h S' v N:=by
 obtain⟨a1,l1,c1,a2,l2,c2,a3,l3,c3,e,⟨g1,G,O⟩,⟨g2,U,V⟩,⟨g3,W,r3⟩⟩:=x;exact⟨a1,l1,c1,a2,l2,c2,a3,l3,c3,e,⟨g1,fun x E=>hs x (G x E),O⟩,⟨g2,fun x E=>hs x (U x E),V⟩,⟨g3,fun x E=>hs x (W x E),r3⟩⟩
theorem NodeS.at{S:NP}{h:Hp}{n0:Nat}{v:Value}{N:NodeT}(x:NodeS h S v N)(hs:∀g,S g->g < n0):NodeAt h n0 v N:=by
 obtain⟨a1,l1,c1,a2,l2,c2,a3,l3,c3,e,⟨g1,G,O⟩,⟨g2,U,V⟩,⟨g3,W,r3⟩⟩:=x;exact⟨a1,l1,c1,a2,l2,c2,a3,l3,c3,e,⟨g1,fun x E=>hs x (G x E),O⟩,⟨g2,fun x E=>hs x (U x E),V⟩,⟨g3,fun x E=>hs x (W x E),r3⟩⟩
theorem Rw(g:Bool)(m w:Nat)(s:BA)(h:Hp)(hm:m<=1099511627776)(hw:w<=32)(hs:s.size<=1099511500):
  C 212 [fr (m:Int) (w:Int),.string s,.bool g] h fun v h'=>(∃(nv:Value) (ok:Bool),v = .tuple #[nv,.bool ok]/\(∃a1 l1 c1 a2 l2 c2 a3 l3 c3,nv = .agg #[.slice a1 l1 c1,.slice a2 l2 c2,.slice a3 l3 c3])/\
   ok=(fJ g m w s.data.toList).isSome/\∀N,fJ g m w s.data.toList=some N->NodeS h' (fun y=>h.next<=y/\y < h'.next) nv N)/\Kept h h':=by
 refine sv LG fun wf=>?_;intro h1 e1 h2 e2 h3 e3 h4 e4;obtain⟨b1,k1,n1,bg⟩:=aB wf e1;obtain⟨b2,k2,n2,bh⟩:=aB bg e2;obtain⟨b3,k3,n3,bi⟩:=aB bh e3;obtain⟨b4,k4,n4,cf⟩:=aB bi e4;have bj:Kept h h4:=((k1.trans wf k2 fF).trans wf k3 fF).trans wf k4 fF;refine(TK s h4).wf fun v h5 bk cg ⟨e,r5,k5⟩=>⟨_,e,?_⟩;have a5:s.data.toList.length=s.size:=VE;have r5:RS h5 h4.next s (some s.data.toList):=⟨0,Uk _,rfl,r5⟩;have ci:=RS.glt bk r5;refine(Ng r5 (by omega)).wf fun v h6 ar cj ⟨e,r6,k6⟩=>⟨_,e,?_⟩;have ae:Kept h h6:=(bj.trans wf k5 fF).trans wf k6 fun y E G=>by omega
 have f6:=k6.blk (Kept.blk k5 (Kept.blk k4 (Kept.blk k3 (Kept.blk k2 b1)))) fun y E G=>by simp at E;omega
 have g6:=k6.blk (Kept.blk k5 (Kept.blk k4 (Kept.blk k3 b2))) fun y E G=>by simp at E;omega
 have o6:=k6.blk (Kept.blk k5 (Kept.blk k4 b3)) fun y E G=>by simp at E;omega
 have n6:=k6.blk (Kept.blk k5 b4) fun y E G=>by simp at E;omega
 simp only[Ul]at r6 ⊢;have fail:∀(hh:Hp) {cs:LV},Wf hh->Kept h hh->Blk hh h2.next (some h2.next) cs->cs.length=3->fJ g m w s.data.toList=none->∃h':Hp,hh.store h2.next 0 [.slice none 0 0,.slice none 0 0,.slice none 0 0]=some h'/\
   h'.cellsAt h2.next 0 3=some [.slice none 0 0,.slice none 0 0,.slice none 0 0]/\
   (∃(nv:Value) (ok:Bool),Value.tuple #[.agg #[.slice none 0 0,.slice none 0 0,.slice none 0 0],.bool false] = .tuple #[nv,.bool ok]/\(∃a1 l1 c1 a2 l2 c2 a3 l3 c3,nv = .agg #[.slice a1 l1 c1,.slice a2 l2 c2,.slice a3 l3 c3])/\
   ok=(fJ g m w s.data.toList).isSome/\∀N,fJ g m w s.data.toList=some N->NodeS h' (fun y=>h.next<=y/\y < h'.next) nv N)/\Kept h h':=by
  intro hh cs ck kh bo a6 hp;obtain⟨h',e',b',k',n',cl⟩:=bo.store (o:=0) (vs:=[.slice none 0 0,.slice none 0 0,.slice none 0 0]) (by rw[a6];exact Uf _) rfl;rw[aO (by rw[a6];rfl)]at b';refine⟨h',e',by rw[b'.cells (by simp)];rfl,⟨_,_,rfl,⟨_,_,_,_,_,_,_,_,_,rfl⟩,by rw[hp];rfl,by rw[hp];simp⟩,?_⟩;exact kh.trans wf k' fun y E G=>by omega
 rcases Option.eq_none_or_eq_some (bV 1 s.data.toList) with ht | ⟨⟨n,R⟩,ht⟩
 ·have hp:fJ g m w s.data.toList=none:=by unfold fJ;rw[ht]
  have aa:got (bV 1 s.data.toList) 0=0:=by rw[ht]
  rw[if_neg (by rw[aV,aa];simp),if_neg (by rw[aV,aa];simp)];obtain⟨h',e',c',post⟩:=fail h6 ar ae o6 rfl hp;exact⟨rfl,h',e',_,_,_,_,_,_,_,_,_,⟨rfl,c'⟩,post⟩
 ·rw[ht]at r6;have r6:RS h6 h4.next s (some R):=r6;have aa:got (bV 1 s.data.toList) 0=n:=by rw[ht]
  by_cases bl:n=1
  ·subst bl;rw[if_pos (by rw[aV,aa];rfl)];have az:aE (aU s)=((s.size:Nat):Int):=rfl;rw[az];refine(SE r6 f6 (by simp;omega) (by omega) hm s.size (by omega)).wf fun v h7 au cm ⟨O,r7,k7⟩=>?_;have O:match jN (fC (m / 16) (m / 8)) s.size R with
    | some (l,_)=>∃a,v = .slice a l.length l.length/\Bd h7 2 (h6.next<=·) a l.length l.length (l.flatMap pairC)
    | none=>v = .slice none 0 0:=O
   have r7:RS h7 h4.next s (left (jN (fC (m / 16) (m / 8)) s.size R)):=r7;have n7:=k7.blk n6 fun y E G=>by simp at E;omega
   have o7:=k7.blk o6 fun y E G=>by simp at E;omega
   have bm:Kept h h7:=ae.trans wf k7 fun y E G=>by omega
   have af:fJ g m w s.data.toList=match jN (fC (m / 16) (m / 8)) s.size R with | some (l,[])=>some ⟨l,[],[]⟩ | _=>none:=by unfold fJ;rw[ht,a5];rfl
   have ak:∃(a:OA) (l:Nat) (c:Nat),v = .slice a l c:=by
    cases hl:jN (fC (m / 16) (m / 8)) s.size R with
    | none=>rw[hl]at O;exact⟨_,_,_,O⟩
    | some z=>rw[hl]at O;obtain⟨a,e,_⟩:=O;exact⟨_,_,_,e⟩
   obtain⟨a,l,c,rfl⟩:=ak;obtain⟨h8,e8,b8,k8,bn,al⟩:=n7.set (o:=0) (v:=.slice a l c) (by simp) rfl;have al:=al au;have r8:=r7.keep k8 (by omega);refine⟨a,l,c,rfl,rfl,rfl,h8,e8,a,l,c,none,0,0,none,0,0,⟨rfl,by rw[b8.cells (by simp)];rfl⟩,?_⟩;refine(Qa r8 (by omega)).wf fun v h9 av cn ⟨⟨hi,an⟩,k9⟩=>⟨v,rfl,⟨rfl,by rw[(Kept.blk k9 b8).cells (by simp)];rfl⟩,hi,rfl,?_⟩;have o9:=Kept.blk k9 (k8.blk o7 fun y E G=>by simp at E;omega);obtain⟨V,a0,ag,U,a7,ad⟩:=o9.store (o:=0) (vs:=[.slice a l c,.slice none 0 0,.slice none 0 0]) (by simp) rfl;rw[aO (by rfl)]at ag;refine⟨V,a0,a,l,c,none,0,0,none,0,0,⟨rfl,by rw[ag.cells (by simp)];rfl⟩,⟨_,_,rfl,⟨_,_,_,_,_,_,_,_,_,rfl⟩,?_,?_⟩,?_⟩
   ·rw[an,af]
    cases hl:jN (fC (m / 16) (m / 8)) s.size R with
    | none=>simp
    | some z =>
     obtain⟨l',Q⟩:=z
     cases Q with
     | nil=>simp
     | cons q Q=>simp
   ·intro N W;rw[af]at W
    cases hl:jN (fC (m / 16) (m / 8)) s.size R with
    | none=>rw[hl]at W;simp at W
    | some z =>
     obtain⟨l',Q⟩:=z;rw[hl]at W O
     cases Q with
     | cons q Q=>simp at W
     | nil =>
      simp only[Um]at W;subst W;obtain⟨a',ea,bd⟩:=O;injection ea with ao ah ap
      subst ao;subst ah;subst ap;have b6:h7.next<=V.next:=by have:=k8.next;have:=k9.next;have:=U.next;omega
      have a8:=ae.next;have a9:Bd V 2 (fun y=>h.next<=y/\y < V.next) a l'.length l'.length (l'.flatMap pairC):=((((bd.bound au).keep k8 fun y E G=>by omega).keep k9 fF).keep U fun y E G=>by omega).mono fun y E=>by omega
      exact⟨_,_,_,_,_,_,_,_,_,rfl,a9.slT rfl,⟨none,by simp,Sl.nil _ _ _,rfl⟩,⟨none,by simp,Sl.nil _ _ _,rfl⟩⟩
   ·exact((bm.trans wf k8 fun y E G=>by omega).trans wf k9 fF).trans wf U fun y E G=>by omega
  ·rw[if_neg (by rw[aV,aa];omega)];by_cases bp:n=2
   ·subst bp;rw[if_pos (by rw[aV,aa];rfl)];intro h7 e7;obtain⟨b7,k7,co,au⟩:=aB ar e7;obtain⟨h8,e8,b8,k8,bn,al⟩:=b7.set (o:=0) (v:=.bool true) (by simp) rfl;have al:=al au;refine⟨rfl,h8,e8,?_⟩;have az:aE (aU s)=((s.size:Nat):Int):=rfl;rw[az];have ac:Kept h6 h8:=k7.trans ar k8 fun y E G=>by omega
    have cp:=ac.next;have af:fJ g m w s.data.toList=match jH (gT g w (m / 16)) s.size R with | some (k::l,[])=>some ⟨[],l.map (fun k=>str k.1),(k::l).map mE⟩ | _=>none:=by unfold fJ;rw[ht,a5];rfl
    refine SF (r6.keep ac id) b8 (Kept.blk ac n6) (Kept.blk ac f6) (Kept.blk ac g6) ⟨by omega,by omega,by omega,by omega,by omega,by omega,by omega,by omega,by omega⟩ (by omega) hm hw s.size (by omega) ?_;intro v a2 l2 h9 O r9 n9 k9 av;have O:match jH (gT g w (m / 16)) s.size R with
     | some (l,_)=>∃a,v = .slice a l.length l.length/\(∃T:NP,Bd h9 33 (fun y=>h8.next<=y/\¬T y) a l.length l.length (l.flatMap rX)/\Bd h9 1 (fun y=>h8.next<=y/\T y) a2 l2 l2 (((l.drop 1).map fun k=>str k.1).flatMap strc))/\∀k∈l,KidOk k
     | none=>v = .slice none 0 0:=O
    have r9:RS h9 h4.next s (left (jH (gT g w (m / 16)) s.size R)):=r9;have bq:Kept h h9:=(ae.trans wf ac fF).trans wf k9 fun y E G=>by omega
    have o9:=k9.blk (Kept.blk ac o6) fun y E G=>by simp at E;omega
    have ak:∃(a:OA) (l:Nat) (c:Nat),v = .slice a l c:=by
     cases hl:jH (gT g w (m / 16)) s.size R with
     | none=>rw[hl]at O;exact⟨_,_,_,O⟩
     | some z=>rw[hl]at O;obtain⟨a,e,_⟩:=O;exact⟨_,_,_,e⟩
    obtain⟨a,l,c,rfl⟩:=ak;obtain⟨V,a0,ag,U,a7,ad⟩:=n9.set (o:=2) (v:=.slice a l c) (by simp) rfl;have ad:=ad av;have ba:=U.blk o9 fun y E G=>by simp at E;omega
    have ay:Kept h V:=bq.trans wf U fun y E G=>by omega
    refine⟨a,l,c,rfl,rfl,rfl,V,a0,rfl,a,l,c,⟨rfl,ag.one rfl⟩,?_⟩;by_cases h0:bX (aE l) 0=true
    ·rw[if_pos h0];have bb:l=0:=by rw[aV,aF]at h0;omega
     have hp:fJ g m w s.data.toList=none:=by
      rw[af]
      cases hl:jH (gT g w (m / 16)) s.size R with
      | none=>rfl
      | some z =>
       obtain⟨l',Q⟩:=z;rw[hl]at O;obtain⟨a',ea,_⟩:=O;injection ea with ao ah ap
       have:l'=[]:=VS (by omega);subst this
       rfl
     obtain⟨h',e',c',post⟩:=fail V ad ay ba rfl hp;exact⟨rfl,h',e',_,_,_,_,_,_,_,_,_,⟨rfl,c'⟩,post⟩
    ·rw[if_neg h0];have bb:l≠0:=fun G=>h0 (by rw[aV,aF,G];rfl);have br:=r9.keep U (by omega);refine⟨none,0,0,a2,l2,l2,a,l,c,⟨rfl,by rw[ag.cells (by simp)];rfl⟩,?_⟩;refine(Qa br (by omega)).wf fun v cq b9 ca ⟨⟨hi,an⟩,ai⟩=>⟨v,rfl,⟨rfl,by rw[(Kept.blk ai ag).cells (by simp)];rfl⟩,hi,rfl,?_⟩;have bt:=Kept.blk ai ba;obtain⟨aj,bu,bf,ax,cc,cd⟩:=bt.store (o:=0) (vs:=[.slice none 0 0,.slice a2 l2 l2,.slice a l c]) (by simp) rfl;rw[aO (by rfl)]at bf;refine⟨aj,bu,none,0,0,a2,l2,l2,a,l,c,⟨rfl,by rw[bf.cells (by simp)];rfl⟩,⟨_,_,rfl,⟨_,_,_,_,_,_,_,_,_,rfl⟩,?_,?_⟩,?_⟩
     ·rw[an,af]
      cases hl:jH (gT g w (m / 16)) s.size R with
      | none=>simp
      | some z =>
       obtain⟨l',Q⟩:=z;rw[hl]at O;obtain⟨a',ea,_⟩:=O;injection ea with ao ah ap
       cases l' with
       | nil=>exact absurd ah bb
       | cons k l' =>
        cases Q with
        | nil=>simp
        | cons q Q=>simp
     ·intro N W;rw[af]at W
      cases hl:jH (gT g w (m / 16)) s.size R with
      | none=>rw[hl]at W;simp at W
      | some z =>
       obtain⟨l',Q⟩:=z;rw[hl]at W O
       cases l' with
       | nil=>simp at W
       | cons k l' =>
       cases Q with
       | cons q Q=>simp at W
       | nil =>
        simp only[Um]at W;subst W;obtain⟨a',ea,⟨T,bv,bw⟩,bx⟩:=O;injection ea with ao ah ap
        subst ao;subst ah;subst ap;have a8:=ae.next;have ce:h9.next<=aj.next:=by have:=U.next;have:=ai.next;have:=ax.next;omega
        have bz:((k::l').map mE).flatMap kidC=(k::l').flatMap rX:=by
         rw[List.flatMap_map];have:∀(L:List jL),(∀x∈L,KidOk x)->L.flatMap (fun x=>kidC (mE x))=L.flatMap rX:=by
          intro L
          induction L with
          | nil=>intro _;rfl
          | cons y L ih =>
           intro h;rw[Vg,Vg,PL (h y (by simp)),ih fun z hz=>h z (by simp[hz])]
         exact this _ bx
        have a4:Bd aj 33 (fun y=>h.next<=y/\y < aj.next) a (k::l').length (k::l').length (((k::l').map mE).flatMap kidC):=by
         rw[bz];exact((((bv.bound av).keep U fun y E G=>by omega).keep ai fF).keep ax fun y E G=>by omega).mono fun y E=>by omega
        have aq:Bd aj 1 (fun y=>h.next<=y/\y < aj.next) a2 l2 l2 ((l'.map fun k=>str k.1).flatMap strc) :=
         ((((bw.bound av).keep U fun y E G=>by omega).keep ai fF).keep ax fun y E G=>by omega).mono fun y E=>by omega
        have b5:(l'.map fun k:jL=>str k.1).length=l2:=by
         have:((l'.map fun k:jL=>str k.1).flatMap strc).length=l2 * 1:=by
          rcases aq with ⟨_,h1,_,h3⟩ | ⟨_,_,_,_,_,_,h3,_⟩
          ·rw[h3,h1];rfl
          ·exact h3
         rw[Ea dV]at this
         omega
        exact⟨_,_,_,_,_,_,_,_,_,rfl,⟨none,by simp,Sl.nil _ _ _,rfl⟩,aq.slT b5,a4.slT (by simp)⟩
     ·exact(ay.trans wf ai fF).trans wf ax fun y E G=>by omega
   ·rw[if_neg (by rw[aV,aa];omega)];have hp:fJ g m w s.data.toList=none:=by
     unfold fJ;rw[ht]
     split
     ·rename_i r e;simp at e;omega
     ·rename_i r e;simp at e;omega
     ·rfl
    obtain⟨h',e',c',post⟩:=fail h6 ar ae o6 rfl hp;exact⟨rfl,h',e',_,_,_,_,_,_,_,_,_,⟨rfl,c'⟩,post⟩
end Go.Proofs.YtmapagggnigfpaaGreat.pk
namespace Go.Cn.Pk
theorem uR{n x:Nat}(h:x < 256 ^ n)(r:LU):bV n (be n x++r)=some (x,r):=by
 unfold bV;rw[xA (cO n x)];simp only[Uv];rw[Ge n x h]
theorem CW{w:Nat}(hw:w<=32):Go.Proofs.YtmapagggnigfpaaGreat.pk.inW (w:Int)=w:=by unfold Go.Proofs.YtmapagggnigfpaaGreat.pk.inW;omega
theorem Mg{g:Bool}{w i:Nat}{K:List BA}{k:jL}(hw:w<=32)(E:Go.Proofs.YtmapagggnigfpaaGreat.pk.KidOk k)(G:0 < i->K.getD (i - 1) .empty=str k.1):wE g w i k=kS g (w:Int) K (mE k) i:=by
 unfold wE kS;rw[yQ E,BE E,CW hw,Ut];by_cases hi:0 < i
 ·rw[if_pos hi,if_pos hi,G hi]
 ·rw[if_neg hi,if_neg hi]
theorem vB{g:Bool}{w:Nat}{K:List BA}(hw:w<=32):∀(l:List jL) (i:Nat),(∀k∈l,Go.Proofs.YtmapagggnigfpaaGreat.pk.KidOk k)->(∀j k,l[j]? = some k->0 < i+j->K.getD (i+j - 1) .empty=str k.1)->
  jS g w i l=(((l.map mE).zipIdx i).map fun x=>kS g (w:Int) K x.1 x.2).flatten
 | [],i,h,E=>rfl
 | k::l,i,h,E=>by
  simp only[jS,VO,WR,List.flatten_cons];rw[Mg hw (h k (by simp)) (fun hi=>by simpa using E 0 k rfl (by omega)),vB hw l (i+1) (fun x G=>h x (by simp[G])) (fun j x G hp=>by
   have:=E (j+1) x (by simpa using G) (by omega);rw[show i+1+j - 1=i+(j+1) - 1 by omega];exact this)]
theorem Me{k:jL}{l:List jL}:∀j x,(k::l)[j]? = some x->0 < 0+j->(l.map fun k:jL=>str k.1).getD (0+j - 1) .empty=str x.1:=by
 intro j x E G;obtain⟨j,rfl⟩:∃i,j=i+1:=⟨j - 1,by omega⟩;rw[Vd]at E;rw[show 0+(j+1) - 1=j by omega,Uz,VB,E]
 rfl
theorem Aq{g:Bool}{m w:Nat}{L:LU}{N:NodeT}(hw:w<=32)(h:fJ g m w L=some N):cJ g (w:Int) N=L/\
  ((N.leaf=true/\∀q∈N.ps,q.1.size<=m / 16/\q.2.size<=m / 8)\/(N.leaf=false/\N.ps=[]/\N.K.length+1=N.ks.length/\(∀k∈N.ks,dX w k.sum=k.sum/\(g=false->k.page=0))/\∀s∈N.K,s.size<=m / 16))/\N.ps.length<=L.length/\N.K.length<=L.length/\N.ks.length<=L.length:=by
 unfold fJ at h
 split at h
 ·rename_i r W
  have e1:=uS W
  split at h
  ·rename_i l hl
   simp only[Um]at h;subst h;unfold jN at hl
   cases G:dK L.length r with
   | none=>simp[G]at hl
   | some y =>
    obtain⟨n,q⟩:=y;simp only[G,Ul]at hl
    split at hl
    ·simp at hl
    ·obtain⟨e2,_⟩:=vG G;obtain⟨e3,hn,U⟩:=Av (fun O=>Ju O) hl;have E:NodeT.leaf ⟨l,[],[]⟩=true:=rfl
     rename_i aa
     refine⟨?_,.inl ⟨E,fun q hq=>U q hq⟩,?_,Uk _,Uk _⟩
     ·unfold cJ;rw[if_pos E];unfold BB;rw[e1,e2,e3,hn];simp
     ·show l.length<=L.length;rw[e1,e2];simp only[Ug]
      omega
  ·simp at h
 ·rename_i r W
  have e1:=uS W
  split at h
  ·rename_i k l hl
   simp only[Um]at h;subst h;unfold jH at hl
   cases G:dK L.length r with
   | none=>simp[G]at hl
   | some y =>
    obtain⟨n,q⟩:=y;simp only[G,Ul]at hl
    split at hl
    ·simp at hl
    ·obtain⟨e2,_⟩:=vG G;obtain⟨e3,hn,U⟩:=Aw hw hl;have E:NodeT.leaf ⟨[],l.map (fun k=>str k.1),(k::l).map mE⟩=false:=by simp[NodeT.leaf]
     rename_i aa
     have V:(k::l).length<=L.length:=by
      rw[e1,e2];simp only[Ug]
      omega
     refine⟨?_,.inr ⟨E,rfl,by simp,?_,?_⟩,Uk _,by simp at V ⊢;omega,by simpa using V⟩
     ·unfold cJ;rw[if_neg (by rw[E];simp)];unfold pG gB;rw[<-vB hw (k::l) 0 (fun x O=>(U x O).1) Me,e1,e2,e3];simp only[VJ,VP,hn]
     ·intro x O;obtain⟨y,hy,rfl⟩:=Uu.1 O;obtain⟨q1,q2,q3,q4⟩:=U y hy;rw[BE q1,yQ q1];exact⟨q2,q4⟩
     ·intro x O;obtain⟨y,hy,rfl⟩:=Uu.1 O;rw[eQ];exact(U y (by simp[hy])).2.2.1
  ·simp at h
 ·simp at h
theorem BK(n:Nat):1<=(cU n).length:=by
 by_cases h:n < 128
 ·rw[mG h];exact Uf _
 ·rw[mH h];simp
theorem xI{α:Type}(f:α->LU):∀(l:List α),(∀x∈l,1<=(f x).length)->l.length<=(l.flatMap f).length
 | [],h=>by simp
 | x::l,h=>by
  have:=xI f l fun y E=>h y (by simp[E]);have:=h x (by simp);simp only[Ux,Vg,Ug]
  omega
theorem BD{g:Bool}{w:Nat}(hw:1<=w):∀(l:List jL) (i:Nat),(∀k∈l,Go.Proofs.YtmapagggnigfpaaGreat.pk.KidOk k)->l.length<=(jS g w i l).length
 | [],i,h=>by simp[jS]
 | k::l,i,h=>by
  have:=BD (g:=g) hw l (i+1) fun y E=>h y (by simp[E]);have G:=h k (by simp);simp only[jS,Ux,Ug,wE,Uq,G.2]
  omega
def Nx(N:NodeT):NodeT:=⟨N.ps,N.K,N.ks.map fun k=>⟨0,k.sum,Uk _,k.hs⟩⟩
def An(g:Bool)(N:NodeT):NodeT:=if g=true then N else Nx N
def kR(g:Bool)(K:List BA)(ks:List KidT):List jL:=ks.zipIdx.map fun x=>(if 0 < x.2 then(K.getD (x.2 - 1) .empty).data.toList else [],if g=true then x.1.page else 0,x.1.sum)
theorem MO{g:Bool}{m w:Nat}{N:NodeT}(hm:m<=8192)(al:1<=w)(hw:w<=32)(hN:cS (m:Int) (w:Int) N)(hl:(cJ g (w:Int) N).length<=1099511500):fJ g m w (cJ g (w:Int) N)=some (An g N):=by
 have ad:eP .i64 (m:Int) 16=((m / 16:Nat):Int):=Go.Proofs.YtmapagggnigfpaaGreat.pk.quoN m 16 (by omega) (by omega);have q8:eP .i64 (m:Int) 8=((m / 8:Nat):Int):=Go.Proofs.YtmapagggnigfpaaGreat.pk.quoN m 8 (by omega) (by omega);unfold cS at hN
 cases W:N.leaf with
 | true =>
  rw[if_pos W,ad,q8]at hN;obtain⟨hr,hv⟩:=hN;have hK:N.K=[]/\N.ks=[]:=by
   unfold NodeT.leaf at W;simp only[Uw,List.isEmpty_iff]at W;exact W
  have ae:∀q∈N.ps,q.1.size<=m / 16/\q.2.size<=m / 8:=by
   intro q hq
   constructor
   ·obtain⟨i,hi⟩:=Wl.1 hq;have:=(hr i q.1 (by rw[VB,hi];rfl)).2.1
    omega
   ·apply Classical.byContradiction;intro hc;exact hv ⟨q,hq,by omega⟩
  have G:cJ g (w:Int) N=be 1 1++(cU N.ps.length++N.ps.flatMap dT):=by unfold cJ;rw[if_pos W];rfl
  have af:N.ps.length<=(N.ps.flatMap dT).length:=xI dT N.ps fun x _=>by
   unfold dT gI;have:=BK x.1.size;simp only[Ug];omega
  have hlen:N.ps.length<=(cJ g (w:Int) N).length:=by rw[G];simp only[Ug];omega
  have ht:bV 1 (cJ g (w:Int) N)=some (1,cU N.ps.length++N.ps.flatMap dT):=by rw[G];exact uR (by decide) _
  have aa:jN (fC (m / 16) (m / 8)) (cJ g (w:Int) N).length (cU N.ps.length++N.ps.flatMap dT)=some (N.ps,[]):=by
   unfold jN;rw[tV hlen (by omega)];simp only[Ul];rw[if_neg (by omega)];have:=EH (p:=fC (m / 16) (m / 8)) (f:=dT) N.ps [] fun x E r=>MP (ae x E).1 (ae x E).2 (by omega) (by omega) r;rw[VJ]at this;exact this
  unfold fJ;rw[ht];simp only[aa];obtain⟨ps,K,ks⟩:=N;simp only at hK;obtain⟨rfl,rfl⟩:=hK
  cases g <;> rfl
 | false =>
  rw[if_neg (by rw[W];simp),ad]at hN;obtain⟨hp,h2,ag,U,hr⟩:=hN;have U:∀k∈N.ks,dX w k.sum=k.sum:=by
   intro k hk;apply Classical.byContradiction;intro hc;refine U ⟨k,hk,fun⟨_,h⟩=>hc ?_⟩;rw[Uo]at h;exact h
  have hI:∀x∈kR g N.K N.ks,Go.Proofs.YtmapagggnigfpaaGreat.pk.KidOk x/\dX w x.2.2=x.2.2/\x.1.length<=m / 16/\(g=false->x.2.1=0):=by
   intro x E;unfold kR at E;obtain⟨⟨k,i⟩,hk,rfl⟩:=Uu.1 E;have ah:=List.mem_zipIdx hk;have V:k∈N.ks:=by rw[ah.2.2];exact List.getElem_mem _
   refine⟨⟨?_,k.hs⟩,U k V,?_,?_⟩
   ·show(if g=true then k.page else 0)<=_
    split
    ·exact k.hp
    ·exact Uk _
   ·show(if 0 < i then(N.K.getD (i - 1) .empty).data.toList else []).length<=_
    split
    ·rename_i hi
     have ai:i - 1 < N.K.length:=by have:=ah.2.1;omega
     rw[Uz,Uh ai];have:=(hr (i - 1) _ (Uh ai)).2.1;rw[Option.getD_some,VE];exact Int.ofNat_le.1 this
    ·simp
   ·intro hg;show(if g=true then k.page else 0)=0;rw[hg];rfl
  have aj:(kR g N.K N.ks).length=N.ks.length:=by simp[kR]
  have O:(kR g N.K N.ks).map mE=(An g N).ks:=by
   unfold kR;rw[List.map_map];have gen:∀(ks:List KidT) (i:Nat),(ks.zipIdx i).map (mE ∘ fun x=>(if 0 < x.2 then(N.K.getD (x.2 - 1) .empty).data.toList else [],if g=true then x.1.page else 0,x.1.sum))=if g=true then ks else ks.map fun k=>⟨0,k.sum,Uk _,k.hs⟩:=by
    intro ks
    induction ks with
    | nil=>intro i;cases g <;> rfl
    | cons k ks ih =>
     intro i;rw[WR,VO,ih]
     cases g with
     | true =>
      simp only[if_true,Function.comp];rw[EU]
     | false =>
      simp only[if_false,VA,Function.comp,VO];congr 1;exact EU ⟨0,k.sum,Uk _,k.hs⟩ _
   have:=gen N.ks 0;rw[this];unfold An Nx
   cases g <;> rfl
  have G:cJ g (w:Int) N=be 1 2++(cU N.ks.length++jS g w 0 (kR g N.K N.ks)):=by
   unfold cJ;rw[if_neg (by rw[W];simp)];unfold pG;congr 2;have e:=vB (g:=g) (K:=N.K) hw (kR g N.K N.ks) 0 (fun x E=>(hI x E).1) (by
    intro j x E hj;unfold kR at E;rw[VB,List.getElem?_zipIdx]at E
    cases ak:N.ks[j]? with
    | none=>rw[ak]at E;simp at E
    | some k =>
     rw[ak]at E;simp only[Uv,Um]at E;subst E;simp only;rw[if_pos (by omega),show 0+j - 1=j - 1 by omega]
     rfl)
   rw[e,O];unfold gB An
   cases g with
   | true=>rfl
   | false =>
    simp only[if_false,VA,Nx];have gen:∀(ks:List KidT) (i:Nat),(ks.zipIdx i).map (fun x=>kS false (w:Int) N.K x.1 x.2)=((ks.map fun k:KidT=>(⟨0,k.sum,Uk _,k.hs⟩:KidT)).zipIdx i).map fun x=>kS false (w:Int) N.K x.1 x.2:=by
     intro ks
     induction ks with
     | nil=>intro i;rfl
     | cons k ks ih =>
      intro i;rw[WR,VO,VO,WR,VO,ih]
      rfl
    rw[gen]
  have af:=BD (g:=g) al (kR g N.K N.ks) 0 fun x E=>(hI x E).1;rw[aj]at af;have hlen:N.ks.length<=(cJ g (w:Int) N).length:=by rw[G];simp only[Ug];omega
  have ht:bV 1 (cJ g (w:Int) N)=some (2,cU N.ks.length++jS g w 0 (kR g N.K N.ks)):=by rw[G];exact uR (by decide) _
  have aa:jH (gT g w (m / 16)) (cJ g (w:Int) N).length (cU N.ks.length++jS g w 0 (kR g N.K N.ks))=some (kR g N.K N.ks,[]):=by
   unfold jH;rw[tV hlen (by omega)];simp only[Ul];rw[if_neg (by omega)];have:=EI (dF:=g) hw (mk:=m / 16) (by omega) (kR g N.K N.ks) 0 [] hI (by
    intro _ x E;unfold kR at E
    cases V:N.ks with
    | nil=>rw[V]at E;simp at E
    | cons k ks=>rw[V,WR,VO]at E;simp at E;rw[<-E])
   rw[VJ,aj]at this;exact this
  unfold fJ;rw[ht];simp only[aa];obtain⟨ps,K,ks⟩:=N;simp only at hp h2 ag O ⊢;have an:ps=[]:=VS hp;subst an
  cases ks with
  | nil=>simp at h2
  | cons k ks =>
   have ac:kR g K (k::ks)=(if 0 < 0 then(K.getD (0 - 1) .empty).data.toList else [],if g=true then k.page else 0,k.sum)::((ks.zipIdx 1).map fun x=>(if 0 < x.2 then(K.getD (x.2 - 1) .empty).data.toList else [],if g=true then x.1.page else 0,x.1.sum)):=by
    unfold kR;rw[WR,VO]
   rw[ac]at O ⊢;simp only[List.map_map];have ao:((ks.zipIdx 1).map ((fun k:jL=>str k.1) ∘ fun x:KidT×Nat=>((if 0 < x.2 then(K.getD (x.2 - 1) .empty).data.toList else [],if g=true then x.1.page else 0,x.1.sum):jL)))=K:=by
    apply Vi;intro j;rw[VB,List.getElem?_zipIdx];have hlen:ks.length=K.length:=by simp at ag;omega
    by_cases hj:j < ks.length
    ·rw[Uh hj,Uh (by omega:j < K.length)];simp only[Uv,Function.comp];rw[if_pos (by omega),show 1+j - 1=j by omega,Uz,Uh (by omega:j < K.length)]
     rfl
    ·rw[VI (by omega),VI (by omega)]
     rfl
   show some (⟨[],_,_⟩:NodeT)=_;rw[ao];congr 1;have e2:(An g ⟨[],K,k::ks⟩)=⟨[],K,(An g ⟨[],K,k::ks⟩).ks⟩:=by cases g <;> rfl
   rw[e2,<-O]
theorem kL.uniq{p w:Int}{N:NodeT}{d e:Int}(E:kL p w N d)(G:kL p w N e):d=e:=by
 rcases E with ⟨a1,b1⟩ | ⟨a1,c1,b1⟩ | ⟨a1,c1,b1⟩ <;> rcases G with ⟨a2,b2⟩ | ⟨a2,c2,b2⟩ | ⟨a2,c2,b2⟩ <;> first | omega | exact absurd a1 a2 | exact absurd a2 a1 | exact absurd c1 c2 | exact absurd c2 c1
theorem kL.zero{p w:Int}{N:NodeT}{d:Int}(h:kL p w N d):d=0↔Fr p w/\cS p w N:=by
 rcases h with ⟨a1,b1⟩ | ⟨a1,c1,b1⟩ | ⟨a1,c1,b1⟩
 ·exact⟨fun h=>by omega,fun h=>absurd h.1 a1⟩
 ·exact⟨fun _=>⟨a1,c1⟩,fun _=>b1⟩
 ·exact⟨fun h=>by omega,fun h=>absurd h.2 c1⟩
theorem MayIs.uniq{p w:Int}{N:NodeT}{d e:Int}(E:MayIs p w N d)(G:MayIs p w N e):d=e:=by
 rcases E with ⟨a1,b1⟩ | ⟨a1,c1,O,b1⟩ | ⟨a1,c1,O,b1⟩ <;> rcases G with ⟨a2,b2⟩ | ⟨a2,c2,U,b2⟩ | ⟨a2,c2,U,b2⟩ <;> first | exact a1.uniq a2 | exact absurd (a1.zero.2 ⟨a2,c2⟩) b1 | exact absurd (a2.zero.2 ⟨a1,c1⟩) b2 | omega
theorem MayIs.good{p w:Int}{N:NodeT}(h:MayIs p w N 0):Fr p w/\cS p w N:=by
 rcases h with ⟨a1,b1⟩ | ⟨a1,c1,E,b1⟩ | ⟨a1,c1,E,b1⟩
 ·exact absurd rfl b1
 ·exact⟨a1,c1⟩
 ·exact⟨a1,c1⟩
theorem mN.uniq{p w:Int}{N:NodeT}{d e:Int}(E:mN p w N d)(G:mN p w N e):d=e:=by
 rcases E with ⟨a1,b1⟩ | ⟨a1,c1,b1⟩ | ⟨a1,c1,⟨O,U,V⟩,b1⟩ | ⟨a1,c1,W,b1⟩ <;> rcases G with ⟨a2,b2⟩ | ⟨a2,c2,b2⟩ | ⟨a2,c2,⟨k2,m2,x2⟩,b2⟩ | ⟨a2,c2,d2,b2⟩ <;> first | omega | exact absurd a1 a2 | exact absurd a2 a1 | exact c1.uniq c2 | exact absurd (d2 O U) V | exact absurd (W k2 m2) x2 | exact absurd (c1.uniq c2) b1 | exact absurd (c2.uniq c1) b2
theorem mN.may{p w:Int}{N:NodeT}(h:mN p w N 0):MayIs p w N 0:=by
 rcases h with ⟨a1,b1⟩ | ⟨a1,c1,b1⟩ | ⟨a1,c1,E,b1⟩ | ⟨a1,c1,E,b1⟩
 ·omega
 ·exact c1
 ·exact c1
 ·exact c1
theorem Fr.nat{p w:Int}(h:Fr p w):p=((p.toNat:Nat):Int)/\w=((w.toNat:Nat):Int)/\p.toNat<=8192/\1<=w.toNat/\w.toNat<=32:=by
 obtain⟨E,G,O⟩:=h
 omega
def cR(p w:Int)(s:BA)(N:NodeT):Prop:=mN p w N 0/\cJ true w N=s.data.toList
theorem jA{p w:Int}{s:BA}{N:NodeT}(hs:s.size<=1099511500)(h:cR p w s N):fJ true p.toNat w.toNat s.data.toList=some N:=by
 obtain⟨G,E⟩:=h;obtain⟨O,U⟩:=G.may.good;obtain⟨e1,e2,V,W,e5⟩:=O.nat;have:=MO (g:=true) (m:=p.toNat) (w:=w.toNat) (N:=N) V W e5 (by rw[<-e1,<-e2];exact U) (by rw[<-e2,E,VE];exact hs);rw[<-e2,E]at this;exact this
theorem cR.uniq{p w:Int}{s:BA}{N M:NodeT}(hs:s.size<=1099511500)(E:cR p w s N)(G:cR p w s M):N=M:=by
 have:=(jA hs E).symm.trans (jA hs G);exact Option.some.inj this
end Go.Cn.Pk
namespace Go.Proofs.YtmapagggnigfpaaGreat.pk
open Cn Cn.Pk vc
abbrev CM:Value:=.agg #[.slice none 0 0,.slice none 0 0,.slice none 0 0]
theorem Ph(p w:Int)(s:BA)(h:Hp)(hs:s.size<=1099511500):
  C 211 [fr p w,.string s] h fun v h'=>(∃(W:Value) (e:Int),v = .tuple #[W,.int .i64 e]/\(e≠0->W=CM)/\
   ((¬Fr p w/\e=2)\/(Fr p w/\e=73/\∀N,¬cR p w s N)\/(Fr p w/\e=0/\∃N,cR p w s N/\NodeS h' (fun y=>h.next<=y/\y < h'.next) W N)))/\Kept h h':=by
 refine sv JL fun wf=>?_;intro h1 e1 h2 e2;obtain⟨b1,k1,n1,ao⟩:=aB wf e1;obtain⟨b2,k2,n2,ap⟩:=aB ao e2;have ad:=k1.trans wf k2 fF;have ae:=Kept.blk k2 b1;have af:∀{hh:Hp},Blk hh h.next (some h.next) [.int .i64 p,.int .i64 w]->hh.cellsAt h.next 0 2=some [.int .i64 p,.int .i64 w]:=fun hb=>by rw[hb.cells (by simp)];rfl
 have fail:∀(hh:Hp) (e:Int) {cs:LV},Wf hh->Kept h hh->Blk hh h1.next (some h1.next) cs->cs.length=3->e≠0->((¬Fr p w/\e=2)\/(Fr p w/\e=73/\∀N,¬cR p w s N))->∃h':Hp,hh.store h1.next 0 [.slice none 0 0,.slice none 0 0,.slice none 0 0]=some h'/\
   ∃(a:OA) (l c:Nat) (a1:OA) (l1 c1:Nat) (a2:OA) (l2 c2:Nat),(aN (some (Addr.mk h1.next 0 none))=true/\h'.cellsAt h1.next 0 3=some [.slice a l c,.slice a1 l1 c1,.slice a2 l2 c2])/\
   (∃(W:Value) (e':Int),Value.tuple #[.agg #[.slice a l c,.slice a1 l1 c1,.slice a2 l2 c2],.int .i64 e] = .tuple #[W,.int .i64 e']/\(e'≠0->W=CM)/\
   ((¬Fr p w/\e'=2)\/(Fr p w/\e'=73/\∀N,¬cR p w s N)\/(Fr p w/\e'=0/\∃N,cR p w s N/\NodeS h' (fun y=>h.next<=y/\y < h'.next) W N)))/\Kept h h':=by
  intro hh e cs ay kh bo aj aq hp;obtain⟨h',e',b',k',n',az⟩:=bo.store (o:=0) (vs:=[.slice none 0 0,.slice none 0 0,.slice none 0 0]) (by rw[aj];exact Uf _) rfl;rw[aO (by rw[aj];rfl)]at b';refine⟨h',e',none,0,0,none,0,0,none,0,0,⟨rfl,by rw[b'.cells (by simp)];rfl⟩,⟨_,_,rfl,fun _=>rfl,?_⟩,kh.trans wf k' fun y hy hc=>by omega⟩;rcases hp with hp | hp
  ·exact .inl hp
  ·exact .inr (.inl hp)
 refine⟨p,w,⟨rfl,af ae⟩,?_⟩;refine(zS p w h2).mono fun v h' ⟨e,eh⟩=>⟨_,e,?_⟩;subst eh;by_cases hF:Fr p w
 ·rw[if_neg (by simp[aD,hF])];refine⟨p,w,⟨rfl,af ae⟩,?_⟩;obtain⟨ar,ak,a0,a4,aa⟩:=hF.nat;have ac:=Rw true p.toNat w.toNat s h' (by omega) aa hs;rw[<-ar,<-ak]at ac;refine ac.wf fun v h3 al a5 ⟨⟨W,ok,e,⟨a1,l1,c1,a2,l2,c2,a3,l3,c3,env⟩,U,ag⟩,k3⟩=>?_;subst env;refine⟨a1,l1,c1,a2,l2,c2,a3,l3,c3,ok,e,?_⟩;intro h4 e4;obtain⟨b4,k4,n4,au⟩:=aB al e4;obtain⟨h5,e5,b5,k5,n5,V⟩:=b4.store (o:=0) (vs:=[.slice a1 l1 c1,.slice a2 l2 c2,.slice a3 l3 c3]) (by simp) rfl;rw[aO (by rfl)]at b5;have V:=V au;have G:Kept h3 h5:=k4.trans al k5 fun y hy hc=>by omega
  have ah:Kept h h5:=(ad.trans wf k3 fF).trans wf G fF;have ai:=Kept.blk G (Kept.blk k3 b2);have av:=Kept.blk G (Kept.blk k3 ae);refine⟨rfl,h5,e5,?_⟩
  cases E:fJ true p.toNat w.toNat s.data.toList with
  | none =>
   rw[E]at U;rw[if_pos (by rw[U];rfl)];obtain⟨h',e',post⟩:=fail h5 73 V ah ai rfl (by decide) (.inr ⟨hF,rfl,fun N hN=>by rw[jA hs hN]at E;simp at E⟩);exact⟨rfl,h',e',post⟩
  | some N0 =>
   rw[E]at U;rw[if_neg (by rw[U];simp[aD])];have x3:=ag N0 E;have x5:=x3.keep G fF;obtain⟨O,_,q1,q2,q3⟩:=Aq aa E;rw[<-ak]at O;have ax:s.data.toList.length=s.size:=VE;rw[ax]at q1 q2 q3;refine⟨p,w,⟨rfl,af av⟩,a1,l1,c1,a2,l2,c2,a3,l3,c3,⟨rfl,by rw[b5.cells (by simp)];rfl⟩,?_⟩;refine(TH (x5.at fun y hy=>hy.2) (by have:=G.next;omega) p w (by omega) (by omega) (by omega)).mono fun v h6 ⟨⟨e,ss,ev,an,aq,a6⟩,eh⟩=>⟨ss,e,ev,?_⟩;subst eh;by_cases hz:e=0
   ·subst hz;rw[if_neg (by simp[cP])];obtain⟨h7,e7,b7,k7,n7,a7⟩:=ai.store (o:=0) (vs:=[.slice a1 l1 c1,.slice a2 l2 c2,.slice a3 l3 c3]) (by simp) rfl;rw[aO (by rfl)]at b7;refine⟨a1,l1,c1,a2,l2,c2,a3,l3,c3,⟨rfl,by rw[b5.cells (by simp)];rfl⟩,rfl,h7,e7,a1,l1,c1,a2,l2,c2,a3,l3,c3,⟨rfl,by rw[b7.cells (by simp)];rfl⟩,⟨_,_,rfl,fun h=>absurd rfl h,.inr (.inr ⟨hF,rfl,N0,⟨an,O⟩,?_⟩)⟩,ah.trans wf k7 fun y hy hc=>by omega⟩;have a8:=ad.next;have a9:=G.next;have ba:=k7.next;exact(x5.keep k7 fun y hy hc=>by omega).mono fun y hy=>by omega
   ·rw[if_pos (by simp[cP,hz])];obtain⟨h',e',post⟩:=fail h6 73 V ah ai rfl (by decide) (.inr ⟨hF,rfl,fun N hN=>by
     have:=jA hs hN;rw[E]at this;obtain rfl:=Option.some.inj this;exact hz (an.uniq hN.1)⟩)
    exact⟨rfl,h',e',post⟩
 ·rw[if_pos (by simp[aD,hF])];obtain⟨h',e',post⟩:=fail h' 2 ap ad b2 rfl (by decide) (.inl ⟨hF,rfl⟩);exact⟨rfl,h',e',post⟩
end Go.Proofs.YtmapagggnigfpaaGreat.pk
namespace Go.Cn.Pk
def AU(lo hi:Option BA)(k:BA):Bool:=!((lo.any fun t=>Go.Cn.strLt k t)||(hi.any fun t=>!Go.Cn.strLt k t))
def EA(lo hi:Option BA)(k:BA):Bool:=!((lo.any fun t=>fQ k t)||(hi.any fun t=>!Go.Cn.strLt k t))
def Kk(lo hi:Option BA)(N:NodeT):Bool:=N.ps.all (fun q=>AU lo hi q.1)&&N.K.all (EA lo hi)
def QE{α:Type}(enc:α->LV)(w:Nat)(h h':Hp)(v:Value)(L:List α):Prop :=
 ∃a c,v = .slice a L.length c/\∃g:ON,(∀x,g=some x->h.next<=x/\x < h'.next)/\SlT enc w h' g a L.length c L
def BdP(h:Hp)(S:NP)(a:OA)(x:Option BA):Prop :=
 match x with
 | none=>a=none
 | some t=>∃b o g CS,a=some ⟨b,o,none⟩/\Blk h b g CS/\CS[o]? = some (.string t)/\∀y,g=some y->S y
theorem BdP.keep{S S0:NP}{h h':Hp}{a:OA}{x:Option BA}(d:BdP h S a x)(k:Keep S0 h h')(G:∀g,S g->¬S0 g):BdP h' S a x:=by
 cases x with
 | none=>exact d
 | some t =>
  obtain⟨b,o,g,CS,O,U,V,E⟩:=d;exact⟨b,o,g,CS,O,k.blk U fun y W=>G y (E y W),V,E⟩
theorem BdP.mono{S S':NP}{h:Hp}{a:OA}{x:Option BA}(d:BdP h S a x)(E:∀g,S g->S' g):BdP h S' a x:=by
 cases x with
 | none=>exact d
 | some t =>
  obtain⟨b,o,g,CS,G,O,U,V⟩:=d;exact⟨b,o,g,CS,G,O,U,fun y W=>E y (V y W)⟩
theorem BdP.isN{S:NP}{h:Hp}{a:OA}{x:Option BA}(d:BdP h S a x):isN a=x.isNone:=by
 cases x with
 | none=>have d:a=none:=d;rw[d];rfl
 | some t=>obtain⟨b,o,g,CS,E,G,O,U⟩:=d;rw[E];rfl
theorem BdP.read{S:NP}{h:Hp}{a:OA}{x:Option BA}(d:BdP h S a x)(E:aD (Go.Cn.isN a)=true):a.isSome=true/\aN a=true/\h.cellsAt (blk a) (off a) 1=some [.string (x.getD .empty)]:=by
 cases x with
 | none=>have d:a=none:=d;rw[d]at E;simp[Go.Cn.isN,aD]at E
 | some t=>obtain⟨b,o,g,CS,G,O,U,V⟩:=d;subst G;exact⟨rfl,rfl,O.one U⟩
theorem PF{lo hi:Option BA}{k:BA}{a c:OA}(E:isN a=lo.isNone)(G:isN c=hi.isNone):
  aR (aR (aD (isN a)) (Go.Cn.strLt k (lo.getD .empty)) false) true (aR (aD (isN c)) (aD (Go.Cn.strLt k (hi.getD .empty))) false) = !AU lo hi k:=by
 rw[E,G]
 cases lo <;> cases hi <;> simp[aR,aD,AU]
theorem PE{lo hi:Option BA}{k:BA}{a c:OA}(E:isN a=lo.isNone)(G:isN c=hi.isNone):
  aR (aR (aD (isN a)) (fQ k (lo.getD .empty)) false) true (aR (aD (isN c)) (aD (Go.Cn.strLt k (hi.getD .empty))) false) = !EA lo hi k:=by
 rw[E,G]
 cases lo <;> cases hi <;> simp[aR,aD,EA]
theorem uH{α:Type}{f:α->Bool}{L:List α}{i:Nat}{x:α}(E:L[i]? = some x)(h:(L.take i).all f=true)(G:f x=true):(L.take (i+1)).all f=true:=by
 rw[VG,E,Vt,h];simp[G]
theorem Cv{α:Type}{f:α->Bool}{L:List α}{i:Nat}{x:α}(E:L[i]? = some x)(G:f x=false):L.all f=false:=by
 rw[List.all_eq_false];exact⟨x,Uy E,by rw[G];simp⟩
end Go.Cn.Pk
namespace Go.Proofs.YtmapagggnigfpaaGreat.pk
open Cn Cn.Pk vc
theorem IP(a1 a2 a3:OA)(l1 c1 l2 c2 l3 c3:Nat)(h:Hp):C 114 [.agg #[.slice a1 l1 c1,.slice a2 l2 c2,.slice a3 l3 c3]] h fun v h'=>v = .bool (decide (l2=0/\l3=0))/\h'=h:=by
 refine uP ?_;refine sv Ii fun wf=>?_;intro O e1;obtain⟨b1,E,n1,G⟩:=aB wf e1;refine⟨rfl,a2,l2,c2,⟨rfl,b1.one rfl⟩,fun _=>rfl,a3,l3,c3,fun _=>⟨rfl,b1.one rfl⟩,?_,E⟩;congr 1;rw[Va,bN,aV,aV,decide_eq_true_eq,aF,aF]
 omega
theorem rH{α:Type}{enc:α->LV}{w bytes:Nat}{t elem:TI}(ht:AppT Tryz.prog t t elem w bytes)(hb:bytes<=4096)(hc:∀x,(enc x).all isCell=true){h W:Hp}(wf:Wf h)(he:W=h.alloc [] elem){G:ON}{a:OA}{l c:Nat}{L:List α}(s:SlT enc w h G a l c L)(hl:l<=8589934592):
  ∃a' c' h',aQ Tryz.prog t t (.slice (some ⟨h.next,0,none⟩) 0 0) (.slice a l c) W=some (.slice a' l c',h')/\QE enc w h h' (.slice a' l c') L/\Kept h h'/\Wf h':=by
 obtain⟨b1,k1,n1,aa⟩:=aB wf he;have s1:=s.keep k1 fF;have o0:Ow W w none (some ⟨h.next,0,none⟩) 0 0 []:=.inl ⟨rfl,rfl,rfl,rfl,.inr ⟨_,_,rfl⟩⟩;have E:(L.flatMap enc).all isCell=true:=by
  simp only[VK,WX];rintro v ⟨x,_,hv⟩;exact VK.mp (hc x) v hv
 have O:roomy (0+l) bytes=true:=bM (Nat.le_trans (WB (show 2 * (0+l)+1024<=17179870208 by omega) hb) (by decide));obtain⟨a',c',g',h',e1,o1,nw,k2,U⟩:=Ow.append aa ht o0 (lR s1.sl) s1.sl.len E O;simp only[Nat.zero_add,VH]at e1 o1;have hlen:=s.len;refine⟨a',c',h',e1,⟨a',c',by rw[hlen],g',?_,by rw[hlen];exact⟨o1.sl,hlen⟩⟩,k1.trans wf k2 fun y hy he=>by simp at he,U⟩;intro x V;have ac:=o1.glt U x V;rcases nw with h3 | ⟨y,h3,h4⟩
 ·rw[h3]at V;simp at V
 ·rw[h3]at V;simp at V;omega
theorem Ps{h:Hp}{G:ON}{a:OA}{l c:Nat}{L:List _}(s:SlT pairC 2 h G a l c L)(hl:l<=8589934592):C 124 [.slice a l c] h fun v h'=>QE pairC 2 h h' v L/\Kept h h':=by
 refine sv LR fun wf=>?_;by_cases E:isN a=true
 ·rw[if_pos E];have O:a=none:=by cases a with | none=>rfl | some a=>simp[isN]at E
  subst O;have h0:=s.sl.mem;have U:L=[]:=VS (by rw[s.len];exact h0.1);subst U;exact⟨⟨none,0,rfl,none,by simp,Sl.nil _ _ _,rfl⟩,Keep.refl _ _⟩
 ·rw[if_neg E];intro W e1;obtain⟨a',c',h',e2,x,k,V⟩:=rH uG (by omega) (fun _=>rfl) wf e1 s hl;exact⟨a',l,c',h',e2,x,k⟩
theorem Pr{h:Hp}{G:ON}{a:OA}{l c:Nat}{L:List _}(s:SlT strc 1 h G a l c L)(hl:l<=8589934592):C 125 [.slice a l c] h fun v h'=>QE strc 1 h h' v L/\Kept h h':=by
 refine sv LQ fun wf=>?_;by_cases E:isN a=true
 ·rw[if_pos E];have O:a=none:=by cases a with | none=>rfl | some a=>simp[isN]at E
  subst O;have h0:=s.sl.mem;have U:L=[]:=VS (by rw[s.len];exact h0.1);subst U;exact⟨⟨none,0,rfl,none,by simp,Sl.nil _ _ _,rfl⟩,Keep.refl _ _⟩
 ·rw[if_neg E];intro W e1;obtain⟨a',c',h',e2,x,k,V⟩:=rH vP (by omega) (fun _=>rfl) wf e1 s hl;exact⟨a',l,c',h',e2,x,k⟩
theorem Pt{h:Hp}{G:ON}{a:OA}{l c:Nat}{L:List _}(s:SlT kidC 33 h G a l c L)(hl:l<=8589934592):C 126 [.slice a l c] h fun v h'=>QE kidC 33 h h' v L/\Kept h h':=by
 refine sv LS fun wf=>?_;by_cases E:isN a=true
 ·rw[if_pos E];have O:a=none:=by cases a with | none=>rfl | some a=>simp[isN]at E
  subst O;have h0:=s.sl.mem;have U:L=[]:=VS (by rw[s.len];exact h0.1);subst U;exact⟨⟨none,0,rfl,none,by simp,Sl.nil _ _ _,rfl⟩,Keep.refl _ _⟩
 ·rw[if_neg E];intro W e1;obtain⟨a',c',h',e2,x,k,V⟩:=rH zX (by omega) jT wf e1 s hl;exact⟨a',l,c',h',e2,x,k⟩
def Short(N:NodeT):Prop:=N.ps.length<=1073741824/\N.K.length<=1073741824/\N.ks.length<=1073741824
theorem Qg{h:Hp}{n0:Nat}{nv:Value}{N:NodeT}(x:NodeAt h n0 nv N)(hs:Short N):C 105 [nv] h fun v h'=>NodeS h' (fun y=>h.next<=y/\y < h'.next) v N/\Kept h h':=by
 obtain⟨a1,l1,c1,a2,l2,c2,a3,l3,c3,rfl,⟨g1,q1,s1⟩,⟨g2,q2,s2⟩,⟨g3,q3,s3⟩⟩:=x;obtain⟨an,ao,ap⟩:=hs;have aq:=s1.len;have ar:=s2.len;have au:=s3.len;refine sv LI fun wf=>?_;intro h1 e1 h2 e2;obtain⟨b1,k1,n1,ag⟩:=aB wf e1;obtain⟨b2,k2,n2,av⟩:=aB ag e2;have O:=k1.trans wf k2 fF;have G:=Kept.blk k2 b1;refine⟨rfl,a1,l1,c1,⟨rfl,G.one rfl⟩,rfl,a2,l2,c2,⟨rfl,G.one rfl⟩,rfl,a3,l3,c3,⟨rfl,G.one rfl⟩,?_⟩;refine(Ps (s1.keep O fF) (by omega)).wf fun v h3 U ax ⟨⟨p1,d1,e,⟨y1,z1,w1⟩⟩,k3⟩=>?_;have V:=Kept.blk k3 G;refine⟨p1,_,d1,e,⟨rfl,V.one rfl⟩,⟨rfl,V.one rfl⟩,?_⟩;have W:=O.trans wf k3 fF;refine(Pr (s2.keep W fF) (by omega)).wf fun v h4 aa ay ⟨⟨p2,d2,e,⟨y2,z2,w2⟩⟩,k4⟩=>?_;have ah:=Kept.blk k4 V;refine⟨p2,_,d2,e,⟨rfl,ah.one rfl⟩,?_⟩;have ac:=W.trans wf k4 fF;refine(Pt (s3.keep ac fF) (by omega)).wf fun v h5 az a0 ⟨⟨p3,d3,e,⟨y3,z3,w3⟩⟩,k5⟩=>?_;refine⟨p3,_,d3,e,rfl,?_⟩;have ad:=ac.trans wf k5 fF;have ai:=Kept.blk k5 (Kept.blk k4 (Kept.blk k3 b2))
 obtain⟨h6,e6,b6,k6,n6,a4⟩:=ai.store (o:=0) (vs:=[.slice p1 N.ps.length d1,.slice p2 N.K.length d2,.slice p3 N.ks.length d3]) (by simp) rfl;rw[aO (by rfl)]at b6;have a5:=ad.next;have aj:=O.next;refine⟨h6,e6,_,_,_,_,_,_,_,_,_,⟨rfl,by rw[b6.cells (by simp)];rfl⟩,?_,ad.trans wf k6 fun y hy hc=>by omega⟩;have ae:Keep (· = h1.next) h3 h6:=((k4.trans U k5 fF).mono U (S':=(· = h1.next)) fun _ _ h=>h.elim).trans U k6 fF;have af:Keep (· = h1.next) h4 h6:=(k5.mono aa (S':=(· = h1.next)) fun _ _ h=>h.elim).trans aa k6 fF;have ak:=ae.next;have al:=af.next;have a6:=k6.next;refine⟨_,_,_,_,_,_,_,_,_,rfl,⟨y1,fun x E=>?_,w1.keep ae fun x E hc=>?_⟩,⟨y2,fun x E=>?_,w2.keep af fun x E hc=>?_⟩,⟨y3,fun x E=>?_,w3.keep k6 fun x E hc=>?_⟩⟩
 ·have:=z1 x E;omega
 ·have:=z1 x E;omega
 ·have:=z2 x E;omega
 ·have:=z2 x E;omega
 ·have:=z3 x E;omega
 ·have:=z3 x E;omega
theorem vQ{a b:Bool}(h:dJ a b=true):a=true:=by unfold dJ at h;simp at h;exact h.1
theorem Ru{h:Hp}{b:Nat}{vw aj:Value}{a1 a2 a3 wR wS:OA}{l1 c1 l2 c2 l3 c3:Nat}{lo hi:Option BA}{S:NP}{N:NodeT}
  (hb:Blk h b (some b) [vw,aj,.slice a1 l1 c1,.slice a2 l2 c2,.slice a3 l3 c3,.pointer wR,.pointer wS]) (x:NodeS h S (.agg #[.slice a1 l1 c1,.slice a2 l2 c2,.slice a3 l3 c3]) N) (af:BdP h S wR lo) (ag:BdP h S wS hi) (hs:Short N) :
  C 127 [pt b] h fun v h'=>v = .bool (Kk lo hi N)/\h'=h:=by
 refine uP ?_;refine sv Ky fun wf=>?_;obtain⟨b1,m1,d1,b2,m2,d2,b3,m3,d3,e,⟨g1,q1,s1⟩,⟨g2,q2,s2⟩,⟨g3,q3,s3⟩⟩:=x;obtain⟨ao,ap,aq⟩:=hs;have ar:=s1.len;have au:=s2.len;injection e with e
 simp only[Wc,Ur,Value.slice.injEq,and_true]at e;obtain⟨⟨rfl,rfl,rfl⟩,⟨rfl,rfl,rfl⟩,rfl,rfl,rfl⟩:=e;refine⟨rfl,rfl,rfl,a1,l1,c1,⟨rfl,hb.one rfl⟩,?_⟩;refine⟨fun vals m hh=>∃i:Nat,[.int .i64 (i:Int)]=vals/\m=l1 - i/\i<=l1/\(N.ps.take i).all (fun q=>AU lo hi q.1)=true/\Kept h hh/\Wf hh,⟨l1,0,rfl,rfl,Uk _,rfl,Keep.refl _ _,wf⟩,?_⟩;rintro n m hh ⟨i,e,rfl,av,W,k,ak⟩;simp only[Ur,Value.int.injEq,true_and,and_true]at e;subst e;by_cases hc:bO (i:Int) (aE l1)=true
 ·rw[if_pos hc];have ah:i < l1:=by rw[aC,aF]at hc;omega
  have eb:N.ps[i]? = some (N.ps[i]'(by omega)):=Uh _;generalize N.ps[i]'(by omega)=q at eb;have ad:=s1.keep k fF;obtain⟨ha,U⟩:=ad.get gZ eb (j:=0) (m:=2) (by omega);have ae:aA (off a1) (i:Int) 2=off a1+i * 2+0:=by unfold aA;rw[Uo];omega
  refine⟨⟨ha,Ui _,by omega⟩,q.1,q.2,⟨rfl,by rw[ae];exact U⟩,?_⟩;intro h2 e2;obtain⟨b2,k2,n2,al⟩:=aB ak e2;obtain⟨h3,e3,b3,k3,n3,an⟩:=b2.store (o:=0) (vs:=[.string q.1,.string q.2]) (by simp) rfl;rw[aO (by rfl)]at b3;have O:=k.next;have kk:Kept h h3:=(k.trans wf k2 fF).trans wf k3 fun y hy hc=>by omega
  have sb:=Kept.blk kk hb;have E:=af.keep kk fF;have G:=ag.keep kk fF;refine⟨rfl,h3,e3,rfl,rfl,wR,⟨rfl,sb.one rfl⟩,fun _=>rfl,q.1,fun _=>⟨rfl,b3.one rfl⟩,fun _=>rfl,fun _=>rfl,wR,fun _=>⟨rfl,sb.one rfl⟩,fun O=>(E.read O).1,lo.getD .empty,fun O=>⟨(E.read O).2.1,(E.read O).2.2⟩,
   fun _=>rfl,fun _=>rfl,wS,fun _=>⟨rfl,sb.one rfl⟩,fun _=>rfl,q.1,fun _=>⟨rfl,b3.one rfl⟩,fun _=>rfl,fun _=>rfl,wS,fun _=>⟨rfl,sb.one rfl⟩,fun O=>(G.read (vQ O)).1,hi.getD .empty,fun O=>⟨(G.read (vQ O)).2.1,(G.read (vQ O)).2.2⟩,?_⟩
  rw[PF E.isN G.isN]
  cases aa:AU lo hi q.1 with
  | false =>
   rw[if_pos (by rfl)];refine⟨?_,kk⟩;unfold Kk;rw[Cv (f:=fun q:PairT=>AU lo hi q.1) eb aa]
   rfl
  | true =>
   rw[if_neg (by simp)];refine⟨l1 - (i+1),by simp only[aI];omega,i+1,?_,rfl,by omega,uH eb W aa,kk,an al⟩;rw[show aG .i64 (i:Int) 1=_ from cN 1 i (by omega)]
 ·rw[if_neg hc];have ah:i=l1:=by
   have:¬i < l1:=fun h=>hc (by rw[aC,aF];omega)
   omega
  subst ah;rw[Uj (by omega)]at W;have sb:=Kept.blk k hb;refine⟨rfl,rfl,rfl,a2,l2,c2,⟨rfl,sb.one rfl⟩,?_⟩;have E:=af.keep k fF;have G:=ag.keep k fF;have ad:=s2.keep k fF;refine⟨fun vals m h2=>∃j:Nat,[.int .i64 (j:Int)]=vals/\m=l2 - j/\j<=l2/\(N.K.take j).all (EA lo hi)=true/\h2=hh,⟨l2,0,rfl,rfl,Uk _,rfl,rfl⟩,?_⟩;rintro n m h2 ⟨j,e,rfl,ax,V,rfl⟩;simp only[Ur,Value.int.injEq,true_and,and_true]at e;subst e;by_cases ac:bO (j:Int) (aE l2)=true
  ·rw[if_pos ac];have ai:j < l2:=by rw[aC,aF]at ac;omega
   have eb:N.K[j]? = some (N.K[j]'(by omega)):=Uh _;generalize N.K[j]'(by omega)=q at eb;obtain⟨ha,U⟩:=ad.get dV eb (j:=0) (m:=1) (by omega);have ae:aA (off a2) (j:Int) 1=off a2+j * 1+0:=by unfold aA;rw[Uo];omega
   refine⟨⟨ha,Ui _,by omega⟩,q,⟨rfl,by rw[ae];exact U⟩,rfl,rfl,wR,⟨rfl,sb.one rfl⟩,fun _=>rfl,fun _=>rfl,wR,fun _=>⟨rfl,sb.one rfl⟩,fun O=>(E.read O).1,lo.getD .empty,fun O=>⟨(E.read O).2.1,(E.read O).2.2⟩,
    fun _=>rfl,fun _=>rfl,wS,fun _=>⟨rfl,sb.one rfl⟩,fun _=>rfl,fun _=>rfl,wS,fun _=>⟨rfl,sb.one rfl⟩,fun O=>(G.read (vQ O)).1,hi.getD .empty,fun O=>⟨(G.read (vQ O)).2.1,(G.read (vQ O)).2.2⟩,?_⟩
   rw[PE E.isN G.isN]
   cases aa:EA lo hi q with
   | false =>
    rw[if_pos (by rfl)];refine⟨?_,k⟩;unfold Kk;rw[Cv eb aa];simp
   | true =>
    rw[if_neg (by simp)];refine⟨l2 - (j+1),by simp only[aI];omega,j+1,?_,rfl,by omega,uH eb V aa,rfl⟩;rw[show aG .i64 (j:Int) 1=_ from cN 1 j (by omega)]
  ·rw[if_neg ac];have ai:j=l2:=by
    have:¬j < l2:=fun h=>ac (by rw[aC,aF];omega)
    omega
   subst ai;rw[Uj (by omega)]at V;refine⟨?_,k⟩;unfold Kk;rw[W,V]
   rfl
end Go.Proofs.YtmapagggnigfpaaGreat.pk
namespace Go.Cn.Pk
abbrev Src:=Nat->Int×NodeT
def qT(p w:Int)(sum:LU)(lo hi:Option BA)(N:NodeT):Prop:=MayIs p w N 0/\Go.Proofs.YtmapagggnigfpaaGreat.pk.sumN w N=sum/\¬(N.leaf=true/\N.ps.length=0)/\Kk lo hi N=true
open Classical in
noncomputable def oU(src:Src)(p w:Int)(wl no:Nat)(sum:LU)(lo hi:Option BA):Int :=
 if 33<=wl then 8 else if(src no).1≠0 then(src no).1 else if qT p w sum lo hi (src no).2 then 0 else 8
end Go.Cn.Pk
namespace Go.Proofs.YtmapagggnigfpaaGreat.pk
open Cn Cn.Pk vc
structure SrcAt(F:NP)(Inv:Hp->Prop)(sh:Nat)(src:Src):Prop where
 keep:∀{S:NP} {h h':Hp},Inv h->Keep S h h'->(∀g,F g->¬S g)->Inv h'
 lt:∀{h:Hp},Inv h->Wf h->∀g,F g->g < h.next
 node:∀(h:Hp) (no:Nat),no<=4294967295->Inv h->C 210 [pt sh,.int .u32 (no:Int)] h fun v h' =>
  (∃a1 l1 c1 a2 l2 c2 a3 l3 c3,v = .tuple #[.agg #[.slice a1 l1 c1,.slice a2 l2 c2,.slice a3 l3 c3],.int .i64 (src no).1]/\((src no).1=0->NodeS h' (fun y=>h.next<=y/\y < h'.next) (.agg #[.slice a1 l1 c1,.slice a2 l2 c2,.slice a3 l3 c3]) (src no).2/\Short (src no).2))/\Keep F h h'/\Inv h'
def treeC(sh:Nat)(p w:Int)(bQ:Nat)(aM:LU)(dS ver:Int):LV :=
 [.iface 139 (.pointer (some ⟨sh,0,none⟩)),.int .i64 p,.int .i64 w,.int .u32 (bQ:Int)]++bc aM++[.int .u64 dS,.int .u64 ver]
theorem lO{sh:Nat}{p w:Int}{bQ:Nat}{aM:LU}{dS ver:Int}(hr:aM.length=32):(treeC sh p w bQ aM dS ver).length=38:=by
 unfold treeC;simp only[Ug,aJ,hr,Ux,Vl]
theorem gA{w:Int}(hw:w.toNat<=32)(N:NodeT):(sumN w N).length=32:=iK (iC _) hw
set_option maxRecDepth 20000 in
theorem TO{F:NP}{Inv:Hp->Prop}{sh:Nat}{src:Src}(so:SrcAt F Inv sh src){h:Hp}{t b:Nat}{p w dS ver:Int}{bQ no:Nat}{aM sum:LU}{aw a1 a2 a3 wR wS:OA}{lw cw l1 c1 l2 c2 l3 c3:Nat}{lo hi:Option BA}{SB:NP}
  (hI:Inv h) (ht:Blk h t (some t) (treeC sh p w bQ aM dS ver)) (hr:aM.length=32) (hb:Blk h b (some b) [.slice aw lw cw,.int .u32 (no:Int),.slice a1 l1 c1,.slice a2 l2 c2,.slice a3 l3 c3,.pointer wR,.pointer wS]) (a9:no<=4294967295)
  (ba:BdP h SB wR lo) (bb:BdP h SB wS hi) (ad:∀g,SB g->g≠b/\¬F g/\g < h.next) (cf:t≠b) (bf:¬F t) (ap:¬F b) (O:sum.length=32) (hw:w.toNat<=32) :
  C 106 [pt t,pt b,.agg (bc sum).toArray] h fun v h'=>v = .int .i64 (oU src p w lw no sum lo hi)/\
   (∃a1 l1 c1 a2 l2 c2 a3 l3 c3,Blk h' b (some b) [.slice aw lw cw,.int .u32 (no:Int),.slice a1 l1 c1,.slice a2 l2 c2,.slice a3 l3 c3,.pointer wR,.pointer wS]/\
    (oU src p w lw no sum lo hi=0->NodeS h' (fun y=>h.next<=y/\y < h'.next) (.agg #[.slice a1 l1 c1,.slice a2 l2 c2,.slice a3 l3 c3]) (src no).2/\Short (src no).2))/\Keep (fun y=>y=b\/F y) h h'/\Inv h':=by
 rw[<-aH O];refine sv Qy fun wf=>?_;have aq:=lO (sh:=sh) (p:=p) (w:=w) (bQ:=bQ) (dS:=dS) (ver:=ver) hr;have cg:=hb.glt wf;have ci:=ht.glt wf;intro h1 e1;rw[aH O]at e1;obtain⟨b1,k1,n1,bg⟩:=aB wf e1;have kF:∀{S:NP} {x y:Hp},Wf x->Kept x y->Keep (fun y=>y=b\/F y) x y:=fun bh k=>k.mono bh (S':=fun y=>y=b\/F y) fun _ _ h=>h.elim;refine⟨rfl,rfl,aw,lw,cw,⟨rfl,(Kept.blk k1 hb).one rfl⟩,?_⟩;by_cases hd:33<=lw
 ·rw[if_pos (by rw[cK,aF];omega)];have hE:oU src p w lw no sum lo hi=8:=by unfold oU;rw[if_pos hd]
  rw[hE];exact⟨rfl,⟨_,_,_,_,_,_,_,_,_,Kept.blk k1 hb,fun h=>by omega⟩,kF (S:=F) wf k1,so.keep hI k1 fF⟩
 ·rw[if_neg (by rw[cK,aF];omega)];intro h2 e2;obtain⟨b2,k2,n2,bi⟩:=aB bg e2;have ae:=k1.trans wf k2 fF;have t2:=Kept.blk ae ht;have ar:=Kept.blk ae hb;have I2:=so.keep hI ae fF;refine⟨rfl,rfl,some ⟨sh,0,none⟩,⟨rfl,by rw[t2.cells (by rw[aq];omega)];rfl⟩,rfl,rfl,(no:Int),⟨rfl,ar.one rfl⟩,?_⟩;refine(so.node h2 no a9 I2).wf fun v h3 bj cj ⟨⟨x1,y1,z1,x2,y2,z2,x3,y3,z3,e,hx⟩,k3,I3⟩=>?_;have ck:=so.lt I2 bi;have af:=so.lt hI wf;have bk:=k3.blk b2 fun y G E=>by simp at G;have:=af y E;omega
  have bl:=k3.blk (Kept.blk k2 b1) fun y G E=>by simp at G;have:=af y E;omega
  obtain⟨h4,e4,b4,W,n4,ah⟩:=bk.store (o:=0) (vs:=[.slice x1 y1 z1,.slice x2 y2 z2,.slice x3 y3 z3]) (by simp) rfl;rw[aO (by rfl)]at b4;have ah:=ah bj;have t3:=k3.blk t2 fun y G E=>by simp at G;subst G;exact bf E
  have bm:=k3.blk ar fun y G E=>by simp at G;subst G;exact ap E
  have t4:=W.blk t3 fun y G E=>by simp at G;omega
  have au:=W.blk bm fun y G E=>by simp at G;omega
  have bn:=W.blk bl fun y G E=>by simp at G;omega
  have I4:=so.keep I3 W fun g hg E=>by have:=af g hg;omega
  have av:Keep (fun y=>y=b\/F y) h h4:=((kF (S:=F) wf ae).trans wf k3 fun _ _ h=>.inr h).trans wf W fun y G E=>by omega
  refine⟨x1,y1,z1,x2,y2,z2,x3,y3,z3,(src no).1,e,rfl,h4,e4,?_⟩;by_cases he:(src no).1=0
  ·rw[if_neg (by rw[he];simp[cP])];obtain⟨hN,hS⟩:=hx he;intro h5 e5;rw[dU]at e5;obtain⟨b5,k5,n5,ax⟩:=aB ah e5;have t5:=Kept.blk k5 t4;have bo:=Kept.blk k5 au;have ay:=Kept.blk k5 b4;have bp:=Kept.blk k5 bn;have az:NodeS h5 (fun y=>h2.next<=y/\y < h3.next) (.agg #[.slice x1 y1 z1,.slice x2 y2 z2,.slice x3 y3 z3]) (src no).2:=(hN.keep W fun y G E=>by omega).keep k5 fF;refine⟨rfl,rfl,p,w,⟨rfl,by rw[t5.cells (by rw[aq];omega)];rfl⟩,x1,y1,z1,x2,y2,z2,x3,y3,z3,⟨rfl,by rw[ay.cells (by simp)];rfl⟩,?_⟩;obtain⟨ai,aj,ak⟩:=hS;refine(Nk (az.at fun y G=>G.2) (by have:=W.next;have:=k5.next;omega) p w (by omega) (by omega) (by omega)).wf fun v h6 bq cl ⟨⟨d,D,e,hm,al,br⟩,k6⟩=>?_;have V:D.length=32:=by
    by_cases U:d=0
    ·rw[al U];exact gA hw _
    ·rw[br U];exact bI
   have bt:=Kept.blk k6 b5;obtain⟨h7,e7,b7,k7,n7,a0⟩:=bt.store (o:=0) (vs:=bc D) (by rw[aJ,aJ,V,bI];exact Uf _) (aZ _);rw[aO (by rw[aJ,aJ,V,bI])]at b7;have a0:=a0 bq;have aa:Keep (· = h4.next) h5 h7:=(k6.mono ax (S':=(· = h4.next)) fun _ _ h=>h.elim).trans ax k7 fF;have bu:=aa.blk bp fun y G E=>by simp at G;have:=W.next;omega
   have a4:=aa.blk ay fun y G E=>by simp at G;have:=W.next;omega
   have a5:=aa.blk bo fun y G E=>by simp at G;have:=W.next;omega
   have I7:=so.keep (so.keep I4 k5 fF) aa fun g hg E=>by have:=af g hg;have:=W.next;omega
   have an:Keep (fun y=>y=b\/F y) h h7:=(av.trans wf k5 fun _ _ h=>h.elim).trans wf aa fun y G E=>by have:=W.next;omega
   have r7:h7.cellsAt h1.next 0 3=some [.slice x1 y1 z1,.slice x2 y2 z2,.slice x3 y3 z3]:=by rw[a4.cells (by simp)];rfl
   refine⟨cV D,d,by rw[aH V];exact e,rfl,h7,by rw[aH V];exact e7,cV D,fun _=>⟨rfl,cH b7 V⟩,cV sum,fun _=>⟨rfl,cH bu O⟩,x1,y1,z1,x2,y2,z2,x3,y3,z3,fun _=>⟨rfl,r7⟩,
    decide (y2=0/\y3=0),fun _=>IP _ _ _ _ _ _ _ _ _ _,fun _=>rfl,x1,y1,z1,fun _=>⟨rfl,a4.one rfl⟩,?_⟩
   have ao:(src no).2.ps.length=y1/\(src no).2.K.length=y2/\(src no).2.ks.length=y3:=by
    obtain⟨_,_,_,_,_,_,_,_,_,ee,⟨_,_,u1⟩,⟨_,_,u2⟩,⟨_,_,u3⟩⟩:=hN;injection ee with ee
    simp only[Wc,Ur,Value.slice.injEq,and_true]at ee;obtain⟨⟨_,r1,_⟩,⟨_,r2,_⟩,_,r3,_⟩:=ee;exact⟨by rw[u1.len,r1],by rw[u2.len,r2],by rw[u3.len,r3]⟩
   obtain⟨cm,bv,bw⟩:=ao;rw[fG bv bw,aH V,aH O];have ac:(aR (aR (cP d 0) true (aD (eS (bc D) (bc sum)))) true (aR (src no).2.leaf (bX (aE y1) 0) false)=true)↔¬(MayIs p w (src no).2 0/\sumN w (src no).2=sum/\¬((src no).2.leaf=true/\(src no).2.ps.length=0)):=by
    rw[cG,cG,bN,aV,aF];have h1:cP d 0=true↔d≠0:=by unfold cP;simp
    have h2:aD (eS (bc D) (bc sum))=true↔D≠sum:=by
     unfold aD;rw[VL,<-Vr,jE _ _ (by rw[V,O])]
    rw[h1,h2]
    constructor
    ·rintro((h | h) | ⟨h,h'⟩) ⟨q1,q2,q3⟩
     ·exact h (hm.uniq q1)
     ·have U:d=0:=hm.uniq q1;exact h (by rw[al U,q2])
     ·exact q3 ⟨h,by omega⟩
    ·intro hq;apply Classical.byContradiction;intro E;refine hq ⟨?_,?_,?_⟩
     ·have U:d=0:=Classical.not_not.1 fun h=>E (.inl (.inl h));rw[U]at hm;exact hm
     ·have U:d=0:=Classical.not_not.1 fun h=>E (.inl (.inl h));have:D=sum:=Classical.not_not.1 fun h=>E (.inl (.inr h));rw[<-al U,this]
     ·rintro⟨q1,q2⟩;exact E (.inr ⟨q1,by omega⟩)
   by_cases hq:MayIs p w (src no).2 0/\sumN w (src no).2=sum/\¬((src no).2.leaf=true/\(src no).2.ps.length=0)
   ·rw[if_neg (fun h=>ac.1 h hq)];have bx:NodeS h7 (fun y=>h2.next<=y/\y < h3.next) (.agg #[.slice x1 y1 z1,.slice x2 y2 z2,.slice x3 y3 z3]) (src no).2:=az.keep aa fun y G E=>by have:=W.next;omega
    refine⟨x1,y1,z1,x2,y2,z2,x3,y3,z3,⟨rfl,r7⟩,?_⟩;refine(Qg (bx.at fun y G=>G.2) ⟨ai,aj,ak⟩).wf fun v h8 bz cn ⟨hC,k8⟩=>?_;have b3:=hC;obtain⟨u1,v1,w1,u2,v2,w2,u3,v3,w3,ev,_⟩:=hC;subst ev;have b6:=Kept.blk k8 a5;obtain⟨h9,e9,b9,k9,n9,a6⟩:=b6.store (o:=2) (vs:=[.slice u1 v1 w1,.slice u2 v2 w2,.slice u3 v3 w3]) (by simp) rfl;have b9:Blk h9 b (some b) [.slice aw lw cw,.int .u32 (no:Int),.slice u1 v1 w1,.slice u2 v2 w2,.slice u3 v3 w3,.pointer wR,.pointer wS]:=b9;have a6:=a6 bz;have cd:=an.next;have a7:NodeS h9 (fun y=>h7.next<=y/\y < h8.next) (.agg #[.slice u1 v1 w1,.slice u2 v2 w2,.slice u3 v3 w3]) (src no).2:=b3.keep k9 fun y G E=>by omega
    have ag:Keep (fun y=>y=b\/F y) h h9:=(an.trans wf k8 fun _ _ h=>h.elim).trans wf k9 fun y G E=>.inl E;have ca:BdP h9 (fun y=>SB y\/h7.next<=y/\y < h8.next) wR lo:=(ba.keep ag fun g hg E=>by rcases E with h | h;exact(ad g hg).1 h;exact(ad g hg).2.1 h).mono fun _ h=>.inl h;have cc:BdP h9 (fun y=>SB y\/h7.next<=y/\y < h8.next) wS hi:=(bb.keep ag fun g hg E=>by rcases E with h | h;exact(ad g hg).1 h;exact(ad g hg).2.1 h).mono fun _ h=>.inl h;have I9:=so.keep (so.keep I7 k8 fF) k9 fun g hg E=>by subst E;exact ap hg
    refine⟨u1,v1,w1,u2,v2,w2,u3,v3,w3,rfl,rfl,rfl,rfl,h9,e9,?_⟩;refine(Ru b9 (a7.mono fun _ h=>.inr h) ca cc ⟨ai,aj,ak⟩).mono fun v h' ⟨e,eh⟩=>⟨_,e,?_⟩;subst eh;have ce:=k9.next;have a8:NodeS h' (fun y=>h.next<=y/\y < h'.next) (.agg #[.slice u1 v1 w1,.slice u2 v2 w2,.slice u3 v3 w3]) (src no).2:=a7.mono fun y G=>by omega
    by_cases hB:Kk lo hi (src no).2=true
    ·rw[if_neg (by rw[hB];simp[aD])];have hE:oU src p w lw no sum lo hi=0:=by
      unfold oU;rw[if_neg hd,if_neg (by simp[he]),if_pos ⟨hq.1,hq.2.1,hq.2.2,hB⟩]
     rw[hE];exact⟨rfl,⟨_,_,_,_,_,_,_,_,_,b9,fun _=>⟨a8,ai,aj,ak⟩⟩,ag,I9⟩
    ·rw[if_pos (by simp[aD,hB])];have hE:oU src p w lw no sum lo hi=8:=by
      unfold oU;rw[if_neg hd,if_neg (by simp[he]),if_neg fun hh=>hB hh.2.2.2]
     rw[hE];exact⟨rfl,⟨_,_,_,_,_,_,_,_,_,b9,fun h=>by omega⟩,ag,I9⟩
   ·rw[if_pos (ac.2 hq)];have hE:oU src p w lw no sum lo hi=8:=by
     unfold oU;rw[if_neg hd,if_neg (by simp[he]),if_neg fun hh=>hq ⟨hh.1,hh.2.1,hh.2.2.1⟩]
    rw[hE];exact⟨rfl,⟨_,_,_,_,_,_,_,_,_,a5,fun h=>by omega⟩,an,I7⟩
  ·rw[if_pos (by simp[cP,he])];have hE:oU src p w lw no sum lo hi=(src no).1:=by
    unfold oU;rw[if_neg hd,if_pos he]
   rw[hE];exact⟨rfl,⟨_,_,_,_,_,_,_,_,_,au,fun h=>absurd h he⟩,av,I4⟩
end Go.Proofs.YtmapagggnigfpaaGreat.pk
namespace Go.Cn.Pk
structure Plc where
 way:LN
 no:Nat
 sum:LU
 lo:Option BA
 hi:Option BA
noncomputable def iW(src:Src)(p w:Int)(x:Plc):Int:=oU src p w x.way.length x.no x.sum x.lo x.hi
def Plc.below(x:Plc)(N:NodeT)(i:Nat)(k:KidT):Plc :=
 ⟨x.way++[i],k.page,k.sum,if 0 < i then some (N.K.getD (i - 1) .empty) else x.lo,if i < N.K.length then some (N.K.getD i .empty) else x.hi⟩
def intc(i:Nat):LV:=[.int .i64 (i:Int)]
theorem Mj(i:Nat):(intc i).length=1:=rfl
theorem yU(L:LN):(L.flatMap intc).all isCell=true:=by
 induction L with
 | nil=>rfl
 | cons x L E=>rw[Vg,Vt,E];rfl
theorem Dd:∀K:List BA,K.flatMap Go.Proofs.YtmapagggnigfpaaGreat.pk.strc=K.map fun s=>Value.string s
 | []=>rfl
 | x::K=>by rw[Vg,VO,Dd K];rfl
theorem SlT.bd{h:Hp}{g:ON}{a:OA}{l c:Nat}{K:List BA}{S:NP}(s:SlT Go.Proofs.YtmapagggnigfpaaGreat.pk.strc 1 h g a l c K)(U:∀y,g=some y->S y){j:Nat}{t:BA}(O:K[j]? = some t):
  BdP h S (some ⟨blk a,aA (off a) (j:Int) 1,none⟩) (some t):=by
 have V:j < K.length:=(Us.1 O).1;have hl:=s.len;have hm:=s.sl.mem
 cases a with
 | none=>omega
 | some a =>
  obtain⟨b,o,sp⟩:=a;obtain⟨_,hm⟩:=hm;obtain⟨CS,hb,W,G⟩:=hm (by omega);refine⟨b,o+j,g,CS,?_,hb,?_,U⟩
  ·show some (Addr.mk b (aA o (j:Int) 1) none)=_;unfold aA;rw[Uo,Ve]
  ·have E:((CS.drop o).take (l * 1))[j]? = some (.string t):=by
    rw[G];rw[Dd,VB,O];rfl
   rw[VZ]at E
   split at E
   ·rw[Vp]at E;exact E
   ·simp at E
end Go.Cn.Pk
namespace Go.Proofs.YtmapagggnigfpaaGreat.pk
open Cn Cn.Pk vc
structure SpotS(h:Hp)(SX:NP)(b:Nat)(x:Plc)(N:NodeT):Prop where
 ex:∃aw cw a1 l1 c1 a2 l2 c2 a3 l3 c3 wR wS,Blk h b (some b) [.slice aw x.way.length cw,.int .u32 (x.no:Int),.slice a1 l1 c1,.slice a2 l2 c2,.slice a3 l3 c3,.pointer wR,.pointer wS]/\
  (∃g:ON,(∀y,g=some y->SX y)/\SlT intc 1 h g aw x.way.length cw x.way)/\NodeS h SX (.agg #[.slice a1 l1 c1,.slice a2 l2 c2,.slice a3 l3 c3]) N/\BdP h SX wR x.lo/\BdP h SX wS x.hi
 short:Short N
theorem SpotS.keep{h h':Hp}{SX S:NP}{b:Nat}{x:Plc}{N:NodeT}(s:SpotS h SX b x N)(k:Keep S h h')(hb:¬S b)(E:∀y,SX y->¬S y):SpotS h' SX b x N:=by
 obtain⟨⟨aw,cw,a1,l1,c1,a2,l2,c2,a3,l3,c3,wR,wS,U,⟨g,O,V⟩,W,q5,q6⟩,q7⟩:=s;exact⟨⟨aw,cw,a1,l1,c1,a2,l2,c2,a3,l3,c3,wR,wS,k.blk U fun y G=>by simp at G;subst G;exact hb,⟨g,O,V.keep k fun y G=>E y (O y G)⟩,W.keep k E,q5.keep k E,q6.keep k E⟩,q7⟩
def topP(bQ:Nat)(aM:LU):Plc:=⟨[],bQ,aM,none,none⟩
set_option maxRecDepth 20000 in
theorem UA{F:NP}{Inv:Hp->Prop}{sh:Nat}{src:Src}(G:SrcAt F Inv sh src){h:Hp}{t:Nat}{p w dS ver:Int}{bQ:Nat}{aM:LU}
  (hI:Inv h) (O:Blk h t (some t) (treeC sh p w bQ aM dS ver)) (hr:aM.length=32) (U:bQ<=4294967295) (V:¬F t) (hw:w.toNat<=32) :
  C 84 [pt t] h fun v h'=>(∃k:Nat,v = .tuple #[pt k,.int .i64 (iW src p w (topP bQ aM))]/\h.next<=k/\k < h'.next/\(iW src p w (topP bQ aM)=0->SpotS h' (fun y=>h.next<=y/\y < h'.next) k (topP bQ aM) (src bQ).2))/\Keep F h h'/\Inv h':=by
 refine sv Qt fun wf=>?_;have E:=lO (sh:=sh) (p:=p) (w:=w) (bQ:=bQ) (dS:=dS) (ver:=ver) hr;have ac:=O.glt wf;have W:=G.lt hI wf;refine⟨rfl,rfl,rfl,(bQ:Int),⟨rfl,by rw[O.cells (by rw[E];omega)];rfl⟩,?_⟩;intro h1 e1;obtain⟨b1,k1,n1,ad⟩:=aB wf e1;have t1:=Kept.blk k1 O;have rd:h1.cellsAt t 4 32=some (aK .u8 32 (cV aM)):=by
  rw[t1.cells (by rw[E];omega),aH hr];unfold treeC;rw[Ut,Vy (by simp),VV (by simp),VH,Vz (by rw[aJ,hr];exact Uf _),Uj (by rw[aJ,hr];exact Uf _)]
 refine⟨rfl,rfl,rfl,cV aM,⟨rfl,rd⟩,?_⟩;rw[aH hr];refine(TO G (G.keep hI k1 fF) t1 hr b1 U (lo:=none) (hi:=none) (SB:=fun _=>False) rfl rfl (fun _ h=>h.elim) (by omega) V (fun hc=>by have:=W _ hc;omega) hr hw).wf fun v h2 aa ae ⟨e,⟨a1,l1,c1,a2,l2,c2,a3,l3,c3,bb,hN⟩,k2,I2⟩=>⟨_,e,?_⟩;have hle:=k2.next;refine⟨⟨h.next,rfl,Uf _,bb.glt aa,fun h0=>?_⟩,k1.mono wf (S':=F) (fun _ _ h=>h.elim) |>.trans wf k2 fun y hy hc=>by rcases hc with h | h;omega;exact h,I2⟩;obtain⟨hN,hS⟩:=hN h0;exact⟨⟨none,0,a1,l1,c1,a2,l2,c2,a3,l3,c3,none,none,bb,⟨none,by simp,Sl.nil _ _ _,rfl⟩,hN.mono fun y hy=>by omega,rfl,rfl⟩,hS⟩
end Go.Proofs.YtmapagggnigfpaaGreat.pk
