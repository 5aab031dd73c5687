/- Joined: CnS. -/
import Derived.Test.YtmapagggnigfpaaGreatDn06
import Derived.Scope
set_option linter.unusedVariables false
set_option linter.unusedSimpArgs false
namespace Go.Cn
section
variable {P:Program}
theorem gN{P:Program}{b:Frame}{a:Act}{k:List Item}{cs:List Frame}{w:World}{c:Code}:step P (lone (b.atR a (.code (.scope c)::k)) cs w) = .next (lone (b.atR a (.code c :: .inScope c::k)) cs w) :=
 step_lone_go (by simp[stepG,stepG.exec,Frame.atR])
theorem AM{P:Program}{b:Frame}{a:Act}{k:List Item}{cs:List Frame}{w:World}{c:Code}:step P (lone (b.atR a (.inScope c::k)) cs w) = .next (lone (b.atR a k) cs w) :=
 step_lone_go (by simp[stepG,stepG.exec,Frame.atR])
theorem rL{P:Program}{F:Fence}{n:Nat}{Q:Exit->Act->World->Prop}{a:Act}{w:World}{c:Code}(h:c.wpIn F n P (Exit.noGoto Q) a w):(Code.scope c).wpIn F n P Q a w:=by
 intro b k cs V hb hr;have h0:(lone (b.atR a (.code (.scope c)::k)) cs w).fenced P F:=fenced_calm hb hr rfl;obtain⟨e,G,O,U,E⟩:=h b (.inScope c::k) cs V hb hr
 cases e with
 | normal=>exact⟨.normal,G,O,U,.head h0 gN (StepsIn.trans E (.one (fenced_calm hb hr rfl) AM))⟩
 | exit id =>
  refine⟨.exit id,G,O,U,fun k' hk=>.head h0 gN (E.1 k' (by simp[exitTo,hk])),fun h1 h2=>?_⟩;obtain⟨k1,W,hs⟩:=E.2 h1 (by simp[exitTo,h2]);exact⟨k1,W,.head h0 gN hs⟩
 | goto l=>exact U.elim
 | ret =>
  refine⟨.ret,G,O,U,fun hn=>?_,fun hs=>?_⟩
  ·obtain⟨t,s⟩:=E.1 hn;exact⟨t,.head h0 gN s⟩
  ·obtain⟨t,s⟩:=E.2 hs;exact⟨t,.head h0 gN s⟩
 | panic ch =>
  obtain⟨t,s⟩:=E;exact⟨.panic ch,G,O,U,t,.head h0 gN s⟩
 | outgrown=>exact⟨.outgrown,G,O,U,E.imp id (Outgrown.of_steps (.one gN))⟩
def mk(r:Nat):Deferred:={target:=.collected r,args:=#[]}
def Marks(w0:World)(σ:Sg)(w:World)(a a':Act):Prop :=
 ∃ms:LN,a'.defers=ms.map mk++a.defers/\ms.Nodup/\∀r∈ms,w0.heap.size<=r/\w.heap[r]? = some (.deferred (some []))/\∀b e,σ b=some e->e.rb≠r
theorem Marks.of_eq{w0 w:World}{σ:Sg}{a a':Act}(h:a'.defers=a.defers):Marks w0 σ w a a':=⟨[],by simp[h],by simp,by simp⟩
theorem Marks.keep{base:Nat}{w0 W w2:World}{E G:Sg}{h1 h2:Hp}{a a':Act}(m:Marks w0 E W a a')(he:Ext base E h1 W G h2 w2):Marks w0 G w2 a a':=by
 obtain⟨ms,h3,h4,h5⟩:=m;refine⟨ms,h3,h4,fun r hr=>?_⟩;obtain⟨q1,q2,U⟩:=h5 r hr;have V:=(VT.1 q2).1;refine⟨q1,by rw[he.other r V U];exact q2,fun b e hb O=>?_⟩
 cases hs:E b with
 | some e1=>have:=he.le _ _ hs;rw[this]at hb;cases hb;exact U _ _ hs O
 | none =>
  rcases he.img b e hs hb with ⟨b0,e0,k1,k2⟩ | k
  ·exact U _ _ k1 (k2.trans O)
  ·omega
theorem Marks.trans{base:Nat}{w0 U w2:World}{G E:Sg}{h1 h2:Hp}{a a1 a2:Act}(m1:Marks w0 G U a a1)(m2:Marks U E w2 a1 a2)(hs:w0.heap.size<=U.heap.size)(he:Ext base G h1 U E h2 w2):Marks w0 E w2 a a2:=by
 obtain⟨aa,k1,k2,k3⟩:=m2;have ac:∀ms:LN,(∀r∈ms,U.heap[r]? = some (Obj.deferred (some [])))->∀r∈ms,r < U.heap.size:=fun ms hh r hr=>(VT.1 (hh r hr)).1;obtain⟨O,h3,h4,h5⟩:=m1;have af:Marks w0 E w2 a a1:=Marks.keep ⟨O,h3,h4,h5⟩ he;have ad:=ac O fun r hr=>(h5 r hr).2.1;refine⟨aa++O,by rw[k1,h3];simp,?_,?_⟩
 ·rw[List.nodup_append];refine⟨k2,h4,fun r hr r' ae heq=>?_⟩;subst heq;have:=(k3 r hr).1;have:=ad r ae
  omega
 ·intro r hr;rcases VF.1 hr with hr | hr
  ·exact⟨Nat.le_trans hs (k3 r hr).1,(k3 r hr).2⟩
  ·obtain⟨q1,q2,q3⟩:=h5 r hr;have V:=(VT.1 q2).1;refine⟨q1,by rw[he.other r V q3];exact q2,fun b e hb W=>?_⟩
   cases hs:G b with
   | some e1=>have:=he.le _ _ hs;rw[this]at hb;cases hb;exact q3 _ _ hs W
   | none =>
    rcases he.img b e hs hb with ⟨b0,e0,k1,k2⟩ | k
    ·exact q3 _ _ k1 (k2.trans W)
    ·omega
def uK(cx:Cx)(σ:Sg)(ro:ON):Prop :=
 match cx.ro with
 | none=>ro=none
 | some l=>∃e,σ l=some e/\ro=some e.rb
theorem uK.mono{cx:Cx}{σ cE:Sg}{ro:ON}(h:uK cx σ ro)(hs:σ.le cE):uK cx cE ro:=by
 unfold uK at h ⊢
 split at h
 ·exact h
 ·obtain⟨e,E,G⟩:=h;exact⟨e,hs _ _ E,G⟩
theorem gD{h:Hp}{l:Nat}{r:Lp}(hl:loopAt h l=some r):h.ob l=some (.loop r):=by
 unfold loopAt at hl
 split at hl
 ·rename_i r' E;simp at hl;subst hl;exact E
 ·simp at hl
def OD(base:Nat)(σ:Sg)(h:Hp)(w:World)(ws:List Tmp)(tm:LV)(a:Act)(K:Exit->LV->Hp->Prop)(Q:Exit->Act->World->Prop):Prop :=
 ∀e cE dE h' a' w',Ext base σ h w cE h' w'->HR base cE h' w'->eM cE dE a'.tmps->Marks w cE w' a a'->fX ws tm dE->K e dE h'->Q e a' w'
theorem Dx{cx:Cx}{ro:ON}{g:Operand}{ps:Array Tmp}{G body:Code}{K:Exit->LV->Hp->Prop}{base:Nat}{σ:Sg}{h:Hp}{w:World}{tm:LV}{a:Act}{Q:Exit->Act->World->Prop}{gX:Nat->List Tmp}
  (hx:xC P alP (SCalls P) cx gX (.rangeFunc g ps G body) K tm h) (ar:uK cx σ ro) (hr:HR base σ h w) (ht:eM σ tm a.tmps) (hQ:OD base σ h w (wr (.rangeFunc g ps G body)) tm a K Q):(Code.rangeFunc g ps G body).wpIn (gU ro) 0 P Q a w:=by
 unfold xC at hx
 split at hx
 rotate_left;· exact hx.elim
 rename_i au
 split at hx
 rotate_left;· exact hx.elim
 rename_i f first captured hg
 split at hx
 rotate_left;· exact hx.elim
 rename_i av
 have ax:=kX ht g;rw[hg]at ax;obtain⟨O,E,ba,ay,az⟩:=ax.func_inv rfl;obtain⟨⟨bj,bb,ai,a0⟩,aj⟩:=hx.func av;refine wpIn_rangeFunc fun fn _=>?_;obtain⟨l,U,w0,w1,dn,a4,ag,ad,ae,bf,ak,bi⟩:∃(l:Nat) (U:List Deferred) (w0 w1:World) (dn:Nat),
   (Instr.enterLoop fn a.tmps ps G body (gU ro).round).run P w = .ok (l,U) w1/\w.heap.size<=w0.heap.size/\(∀k,k < w.heap.size->w0.heap[k]? = w.heap[k]?)/\(w0.os=w.os/\w0.tape=w.tape/\w0.output=w.output)/\
   (w1=w0.alloc (.loop {state:=.ready,pending:=none,fn,tmps:=a.tmps,params:=ps,assign:=G,body,defers:=dn})/\l=w0.heap.size)/\
   (U=[]\/(U=[mk w.heap.size]/\w0=w.alloc (.deferred (some []))))/\True:=by
  cases al:cx.ro with
  | none =>
   have:ro=none:=by simpa[uK,al]using ar
   subst this;refine⟨w.heap.size+1,[mk w.heap.size],w.alloc (.deferred (some [])),_,w.heap.size,run_enterLoop_outer fn a.tmps ps G body,?_,?_,⟨rfl,rfl,rfl⟩,⟨rfl,by simp⟩,.inr ⟨rfl,rfl⟩,trivial⟩
   ·simp
   ·intro k hk;show(w.heap.push _)[k]? = _;rw[Vs,if_neg (by omega)]
  | some l0 =>
   obtain⟨e0,bg,rfl⟩:∃e,σ l0=some e/\ro=some e.rb:=by simpa[uK,al]using ar
   have an:∃r0,loopAt h l0=some r0:=by
    simp only[Cx.ok,al]at au;exact Option.isSome_iff_exists.1 au
   obtain⟨r0,an⟩:=an;obtain⟨r1,bh,_⟩:=hr.loopAt bg (gD an);refine⟨w.heap.size,[],w,_,r1.defers,?_,Uf _,fun _ _=>rfl,⟨rfl,rfl,rfl⟩,⟨rfl,rfl⟩,.inl rfl,trivial⟩;unfold Instr.enterLoop;simp only[EZ,Sem.run_bind,run_getLoop bh,run_newObj_alloc,Result.andThen,Sem.run_pure]
 obtain⟨rfl,rfl⟩:=bf;have a5:HR base σ h w0:=hr.grown ag ad;have ao:Ext base σ h w σ h w0:=⟨Sg.le_refl σ,ae.1,ae.2.1,ae.2.2,ag,fun k hk=>ad k (Vj hk hr.base_le),fun k hk _=>ad k hk,
  fun b e h1 h2=>by rw[h1]at h2;simp at h2,Uf _,fun b _ hb=>⟨rfl,rfl,hb⟩⟩
 have hle:σ.le (σ.put h.next ⟨w0.heap.size,0,0⟩):=Sg.put_le (a5.none_next (Uf _));obtain⟨g1,g2,g3⟩:=a5.newOth (o:=.loop ⟨.ready,none,cx.me,tm,ps.toList,G,body⟩) (r:=.loop {state:=.ready,pending:=none,fn,tmps:=a.tmps,params:=ps,assign:=G,body,defers:=dn}) rfl
  (WNew.alloc w0 _) ⟨rfl,rfl,ht.mono hle,rfl,rfl,rfl⟩
 have af:bK (σ.put h.next ⟨w0.heap.size,0,0⟩) (first.toList++[Value.func (.yield h.next) #[] #[]]++captured.toList) (O ++ #[Value.func (.yield w0.heap.size) #[] #[]]++E).toList:=by
  have l1:bK σ first.toList O.toList:=bK.of_agg ay.1 ay.2;have l3:bK σ captured.toList E.toList:=bK.of_agg az.1 az.2;have l2:bK (σ.put h.next ⟨w0.heap.size,0,0⟩) [Value.func (.yield h.next) #[] #[]] [Value.func (.yield w0.heap.size) #[] #[]]:=bK.cons (.yield _ _ g3) (bK.nil _);have:=((l1.mono hle).append l2).append (l3.mono hle);simpa using this
 have hc:=aj base _ _ _ g1 af;refine⟨w0.heap.size,U,w0.alloc (.loop {state:=.ready,pending:=none,fn,tmps:=a.tmps,params:=ps,assign:=G,body,defers:=dn}),{target:=.fn (.func f) E,args:=O ++ #[Value.func (.yield w0.heap.size) #[] #[]]},w0.alloc (.loop {state:=.ready,pending:=none,fn,tmps:=a.tmps,params:=ps,assign:=G,body,defers:=dn}),f,O ++ #[Value.func (.yield w0.heap.size) #[] #[]]++E,w0.alloc (.loop {state:=.ready,pending:=none,fn,tmps:=a.tmps,params:=ps,assign:=G,body,defers:=dn}),a4,?_,fun _ _=>trivial,?_,qE ro,uB (hc.mono ?_)⟩
 ·have hm:(#[Operand.const (.func (.yield w0.heap.size) #[] #[])]).map a.eval = #[Value.func (.yield w0.heap.size) #[] #[]]:=by simp[Act.eval]
  unfold resolve;simp only[rangeCall,hm,ba]
  rfl
 ·show(callFunc f _).run P _=_;exact vL bb ai a0 _ _
 ·rintro e w3 ⟨v,v',h3,aa,rfl,hk,hv,a6,W⟩;have ah:=W.le _ _ g3;unfold vA at hk
  split at hk
  rotate_left;· exact hk.elim
  rename_i r a7
  split at hk
  ·exact hk.elim
  rename_i ap
  obtain⟨r',q1,q2,q3,q4,q5,q6,q7,q8⟩:=a6.loopAt ah (gD a7);have a8:=run_endLoop (P:=P) q1 (by rw[q3];exact ap);obtain⟨k1,k2⟩:=a6.setOth (o':=.loop {r with state:=.exhausted}) (r':=.loop {r' with state:=.exhausted}) ah (gD a7) rfl rfl ⟨rfl,q4,q5,q6,q7,q8⟩
  have V:Ext base σ h w aa (h3.setOb h.next (.loop {r with state:=.exhausted})) (w3.putObj w0.heap.size (.loop {r' with state:=.exhausted})):=(ao.trans g2).trans (W.trans k2)
  have aq:eM aa tm ({a with defers:=U++a.defers}:Act).tmps:=(ht.mono hle).mono W.le
  have hmarks:Marks w aa (w3.putObj w0.heap.size (.loop {r' with state:=.exhausted})) a {a with defers:=U++a.defers}:=by
   rcases ak with rfl | ⟨rfl,rfl⟩
   ·exact Marks.of_eq rfl
   ·have bk:w.heap.size < (w.alloc (.deferred (some []))).heap.size:=by simp
    have a9:∀b e,(σ.put h.next ⟨(w.alloc (.deferred (some []))).heap.size,0,0⟩) b=some e->e.rb≠w.heap.size:=by
     intro b e hb;unfold Sg.put at hb
     split at hb
     ·simp at hb;subst hb;simp
     ·have:=(hr.dom _ _ hb).2;omega
    have m0:Marks w (σ.put h.next ⟨(w.alloc (.deferred (some []))).heap.size,0,0⟩) ((w.alloc (.deferred (some []))).alloc (.loop {state:=.ready,pending:=none,fn,tmps:=a.tmps,params:=ps,assign:=G,body,defers:=dn})) a {a with defers:=[mk w.heap.size]++a.defers}:=by
     refine⟨[w.heap.size],rfl,by simp,fun r hr=>?_⟩;simp at hr;subst hr;refine⟨Uf _,?_,a9⟩;show((w.heap.push _).push _)[w.heap.size]? = _;rw[Vs,if_neg (by simp),Vs,if_pos rfl]
    exact m0.keep (W.trans k2)
  obtain⟨j,hj⟩:∃j,j=r'.pending:=⟨_,rfl⟩;refine⟨j,_,by rw[hj];exact a8,?_⟩;have ac:j=r.pending:=hj.trans q4;clear hj
  split at hk
  ·rename_i hp;rw[hp]at ac;subst ac
   exact hQ .normal aa tm _ _ _ V k1 aq hmarks (fX.refl _ _) hk
  ·rename_i hp;rw[hp]at ac;subst ac
   exact wpIn_ret (hQ .ret aa tm _ _ _ V k1 aq hmarks (fX.refl _ _) hk)
  ·rename_i id hp;rw[hp]at ac;subst ac
   exact wpIn_exit (hQ (.exit id) aa tm _ _ _ V k1 aq hmarks (fX.refl _ _) hk)
  ·exact hk.elim
theorem gM(hm:P.follows .mixedOrders=true){cx:Cx}{ro:ON}{gX:Nat->List Tmp}:∀(c:Code) {K:Exit->LV->Hp->Prop} {base:Nat} {σ:Sg} {h:Hp} {w:World} {tm:LV} {a:Act} {Q:Exit->Act->World->Prop},
  xC P alP (SCalls P) cx gX c K tm h->uK cx σ ro->HR base σ h w->eM σ tm a.tmps->OD base σ h w (wr c) tm a K Q->c.wpIn (gU ro) 0 P Q a w
 | .skip,K,base,σ,h,w,tm,a,Q,U,aa,hr,ht,V=>wpIn_skip (V .normal σ tm h a w (Ext.refl _ _ _ _) hr ht (Marks.of_eq rfl) (fX.refl _ _) U)
 | .exit id,K,base,σ,h,w,tm,a,Q,U,aa,hr,ht,V=>wpIn_exit (V (.exit id) σ tm h a w (Ext.refl _ _ _ _) hr ht (Marks.of_eq rfl) (fX.refl _ _) U)
 | .ret,K,base,σ,h,w,tm,a,Q,U,aa,hr,ht,V=>wpIn_ret (V .ret σ tm h a w (Ext.refl _ _ _ _) hr ht (Marks.of_eq rfl) (fX.refl _ _) U)
 | .label l,K,base,σ,h,w,tm,a,Q,U,aa,hr,ht,V=>wpIn_label (V .normal σ tm h a w (Ext.refl _ _ _ _) hr ht (Marks.of_eq rfl) (fX.refl _ _) U)
 | .region id ops false,K,base,σ,h,w,tm,a,Q,U,aa,hr,ht,V=>by
  refine wpIn_region ?_;rw[List.range_eq_range'];have ao:=Ad (ws:=wr (.region id ops false)) (fun o ho t hd=>List.mem_filterMap.2 ⟨o,ho,hd⟩) U;have:=xO (Q:=Q) ro ops.toList 0 (by simp) hr ht ao fun cE dE h' a' w' he W O hd hk=>V .normal cE dE h' a' w' he W O (Marks.of_eq hd) hk.2 hk.1;simpa using this
 | .region id ops true,K,base,σ,h,w,tm,a,Q,U,aa,hr,ht,V=>by
  have ao:=Be (ws:=wr (.region id ops true)) (fun o ho t hd=>List.mem_filterMap.2 ⟨o,ho,hd⟩) U;exact AJ hm hr ht ao (fun cE dE h' a' w' he W O hd hk=>V .normal cE dE h' a' w' he W O (Marks.of_eq hd) hk.2 hk.1) ro
 | .seq x y,K,base,σ,h,w,tm,a,Q,U,aa,hr,ht,V=>by
  refine wpIn_seq (gM hm x U aa hr ht ?_);intro e cE dE h' a' w' he W O hd ak hk;have s1:fX (wr (.seq x y)) tm dE:=ak.mono fun t h=>VF.2 (.inl h)
  cases e with
  | normal =>
   have hj:eM cE (BG (gX (CV y)) x tm dE) a'.tmps/\fX (wr x) tm (BG (gX (CV y)) x tm dE):=by
    unfold BG
    split
    ·exact⟨O,ak⟩
    ·exact⟨yW O (fun t ht _=>ak.2 t ht) ak.1,vF ak⟩
   refine gM hm y hk (aa.mono he.le) W hj.1 ?_;intro e2 ac ah h2 a2 w2 E ad ae af al ag;exact V e2 ac ah h2 a2 w2 (he.trans E) ad ae (hd.trans af he.size E) ((hj.2.mono fun t h=>VF.2 (.inl h)).trans (al.mono fun t h=>VF.2 (.inr h))) ag
  | exit id=>exact V _ cE dE h' a' w' he W O hd s1 hk
  | goto l=>exact V _ cE dE h' a' w' he W O hd s1 hk
  | ret=>exact V _ cE dE h' a' w' he W O hd s1 hk
  | panic c=>exact V _ cE dE h' a' w' he W O hd s1 hk
  | outgrown=>exact V _ cE dE h' a' w' he W O hd s1 hk
 | .cond c x y,K,base,σ,h,w,tm,a,Q,U,aa,hr,ht,V=>by
  simp only[xC]at U;have hc:=kX ht c
  split at U
  ·rename_i t he
   rw[he]at hc
   cases t with
   | true =>
    simp only[if_true]at U;refine wpIn_cond_true hc.bool_inv (gM hm x U aa hr ht ?_);exact fun e cE dE h' a' w' h1 h2 h3 h4 h5 h6=>V e cE dE h' a' w' h1 h2 h3 h4 (h5.mono fun t h=>VF.2 (.inl h)) h6
   | false =>
    simp only[VA,if_false]at U;refine wpIn_cond_false hc.bool_inv (gM hm y U aa hr ht ?_);exact fun e cE dE h' a' w' h1 h2 h3 h4 h5 h6=>V e cE dE h' a' w' h1 h2 h3 h4 (h5.mono fun t h=>VF.2 (.inr h)) h6
  ·exact U.elim
 | .block id c,K,base,σ,h,w,tm,a,Q,U,aa,hr,ht,V=>by
  refine wpIn_block (gM hm c U aa hr ht ?_);intro e cE dE h' a' w' he W O hd hs hk
  cases e with
  | exit i =>
   simp only[Exit.inBlock];simp only at hk
   split
   ·rename_i hi;rw[if_pos hi]at hk;exact V _ cE dE h' a' w' he W O hd hs hk
   ·rename_i hi;rw[if_neg hi]at hk;exact V _ cE dE h' a' w' he W O hd hs hk
  | normal=>exact V _ cE dE h' a' w' he W O hd hs hk
  | goto l=>exact V _ cE dE h' a' w' he W O hd hs hk
  | ret=>exact V _ cE dE h' a' w' he W O hd hs hk
  | panic c=>exact V _ cE dE h' a' w' he W O hd hs hk
  | outgrown=>exact V _ cE dE h' a' w' he W O hd hs hk
 | .loop c,K,base,σ,h,w,tm,a,Q,U,aa,hr,ht,V=>by
  simp only[xC]at U
  split at U
  ·obtain⟨n,U⟩:=U;refine wpIn_loop_rounds n ?_;have key:∀(n:Nat) (an:LV) (ai:Sg) (h1:Hp) (w1:World) (a1:Act),Ext base σ h w ai h1 w1->HR base ai h1 w1->Marks w ai w1 a a1->eM ai an a1.tmps->fX (wr c) tm an->
     wD False (fun k tm h=>xC P alP (SCalls P) cx gX c k tm h) K n an h1->Code.roundsIn (gU ro) 0 P c Q n a1 w1:=by
    intro n
    induction n with
    | zero=>intro an ai h1 w1 a1 _ _ _ _ _ U;exact U.elim
    | succ n ih =>
     intro an ai h1 w1 a1 G ap aj aq ar U;show c.wpIn (gU ro) 0 P (Exit.then (Code.roundsIn (gU ro) 0 P c Q n) Q) a1 w1;unfold wD at U;refine gM hm c U (aa.mono G.le) ap aq ?_;intro e ac ah h2 a2 w2 E ad ae af al ag;have hs:=ar.trans al
     cases e with
     | normal=>exact ih _ ac h2 w2 a2 (G.trans E) ad (aj.trans af G.size E) ae hs ag
     | exit id=>exact V _ ac ah h2 a2 w2 (G.trans E) ad ae (aj.trans af G.size E) hs ag
     | goto l=>exact V _ ac ah h2 a2 w2 (G.trans E) ad ae (aj.trans af G.size E) hs ag
     | ret=>exact V _ ac ah h2 a2 w2 (G.trans E) ad ae (aj.trans af G.size E) hs ag
     | panic x=>exact V _ ac ah h2 a2 w2 (G.trans E) ad ae (aj.trans af G.size E) hs ag
     | outgrown=>exact V _ ac ah h2 a2 w2 (G.trans E) ad ae (aj.trans af G.size E) hs ag
   exact key n _ σ h w a (Ext.refl _ _ _ _) hr (Marks.of_eq rfl) ht (fX.refl _ _) U
  obtain⟨n,U⟩:=U;refine wpIn_loop_rounds n ?_;have key:∀(n:Nat) (vals:LV) (ai:Sg) (h1:Hp) (w1:World) (a1:Act),Ext base σ h w ai h1 w1->HR base ai h1 w1->Marks w ai w1 a a1->
    eM ai (eK (gX ((aX c).getD 0)) vals 0 (forget (wr c) (gX ((aX c).getD 0)) tm)) a1.tmps->
    fX (wr c) tm (eK (gX ((aX c).getD 0)) vals 0 (forget (wr c) (gX ((aX c).getD 0)) tm))->
    pY False (fun k vals h=>xC P alP (SCalls P) cx gX c k (eK (gX ((aX c).getD 0)) vals 0 (forget (wr c) (gX ((aX c).getD 0)) tm)) h) (gX ((aX c).getD 0)) K n vals h1->Code.roundsIn (gU ro) 0 P c Q n a1 w1:=by
   intro n
   induction n with
   | zero=>intro vals ai h1 w1 a1 _ _ _ _ _ U;exact U.elim
   | succ n ih =>
    intro vals ai h1 w1 a1 G ap aj aq ar U;show c.wpIn (gU ro) 0 P (Exit.then (Code.roundsIn (gU ro) 0 P c Q n) Q) a1 w1;unfold pY at U;refine gM hm c U (aa.mono G.le) ap aq ?_;intro e ac ah h2 a2 w2 E ad ae af al ag;have hs:=ar.trans al
    cases e with
    | normal=>exact ih _ ac h2 w2 a2 (G.trans E) ad (aj.trans af G.size E) (yW ae (fun t ht _=>hs.2 t ht) hs.1) (vF hs) ag
    | exit id=>exact V _ ac ah h2 a2 w2 (G.trans E) ad ae (aj.trans af G.size E) hs ag
    | goto l=>exact V _ ac ah h2 a2 w2 (G.trans E) ad ae (aj.trans af G.size E) hs ag
    | ret=>exact V _ ac ah h2 a2 w2 (G.trans E) ad ae (aj.trans af G.size E) hs ag
    | panic x=>exact V _ ac ah h2 a2 w2 (G.trans E) ad ae (aj.trans af G.size E) hs ag
    | outgrown=>exact V _ ac ah h2 a2 w2 (G.trans E) ad ae (aj.trans af G.size E) hs ag
  exact key n _ σ h w a (Ext.refl _ _ _ _) hr (Marks.of_eq rfl) (yW ht (fun _ _ _=>rfl) rfl) (vF (fX.refl _ _)) U
 | .rangeFunc f ps x y,K,base,σ,h,w,tm,a,Q,U,aa,hr,ht,V=>Dx U aa hr ht V
 | .scope c,K,base,σ,h,w,tm,a,Q,U,aa,hr,ht,V=>by
  refine rL (gM hm c U aa hr ht ?_);intro e cE dE h' a' w' he W O hd hs hk
  cases e with
  | goto l=>exact hk.elim
  | normal=>exact V _ cE dE h' a' w' he W O hd hs hk
  | exit id=>exact V _ cE dE h' a' w' he W O hd hs hk
  | ret=>exact V _ cE dE h' a' w' he W O hd hs hk
  | panic c=>exact V _ cE dE h' a' w' he W O hd hs hk
  | outgrown=>exact V _ cE dE h' a' w' he W O hd hs hk
 | .goto l,K,base,σ,h,w,tm,a,Q,U,aa,hr,ht,V=>U.elim
 | .refuse s,K,base,σ,h,w,tm,a,Q,U,aa,hr,ht,V=>U.elim
end
end Go.Cn
