/- Joined: CnR, CnRg. -/
import Derived.Test.YtmapagggnigfpaaGreatDn05
import Derived.LoopN
set_option linter.unusedVariables false
set_option linter.unusedSimpArgs false
namespace Go.Cn
section
variable {P:Program}
def fX(ws:List Tmp)(tm dE:LV):Prop:=dE.length=tm.length/\∀t,t∉ws->dE.getD t undef=tm.getD t undef
theorem fX.refl(ws:List Tmp)(tm:LV):fX ws tm tm:=⟨rfl,fun _ _=>rfl⟩
theorem fX.trans{ws:List Tmp}{a b c:LV}(h:fX ws a b)(k:fX ws b c):fX ws a c:=⟨k.1.trans h.1,fun t E=>(k.2 t E).trans (h.2 t E)⟩
theorem fX.mono{ws E:List Tmp}{a b:LV}(h:fX ws a b)(hs:∀t∈ws,t∈E):fX E a b:=⟨h.1,fun t G=>h.2 t fun O=>G (hs t O)⟩
theorem fX.put{ws:List Tmp}{tm:LV}{d:Option Tmp}{v:Value}(h:∀t,d=some t->t∈ws):fX ws tm (put tm d v) :=
 ⟨sI tm d v,fun t E=>by rw[tI,if_neg (fun G=>E (h t G.1))]⟩
theorem sG{ops:List Oper}{o:Oper}{tm:LV}{h:Hp}{k W:KT}(hs:nT P alP (SCalls P) ops o tm h k)(E:∀v h,k v h->W v h):nT P alP (SCalls P) ops o tm h W:=by
 unfold nT at hs ⊢;have G:∀{α:Type} {x:Option α} {f g:α->Prop},opt alP.bot x f->(∀a,f a->g a)->opt alP.bot x g:=by
  intro α x f g O U
  cases x with
  | none=>exact O
  | some a=>exact U a O
 split at hs
 ·exact hs
 ·split at hs
  ·exact G hs fun v=>E v _
  ·exact G hs fun v=>E v _
  ·exact G hs fun r=>E _ _
  ·rename_i w _ _ _
   cases w with
   | true=>simp only[if_true]at hs ⊢;exact G hs fun fa V=>V.mono E
   | false=>simp only[VA,if_false]at hs ⊢;exact E _ _ hs
  ·rename_i w _ _ _
   cases w with
   | true =>
    simp only[if_true]at hs ⊢;refine G hs fun l V=>?_;intro r hr;obtain⟨x,O,rfl⟩:=Uu.1 hr;exact E _ _ (V _ (Uu.2 ⟨x,O,rfl⟩))
   | false=>simp only[VA,if_false]at hs ⊢;exact E _ _ hs
  ·exact G hs fun r=>E _ _
theorem Ad{ops:List Oper}{ws:List Tmp}:∀{rest:List Oper} {tm:LV} {h:Hp} {K:LV->Hp->Prop},(∀o∈rest,∀t,o.dst=some t->t∈ws)->pP P alP (SCalls P) ops rest tm h K->
  pP P alP (SCalls P) ops rest tm h fun dE h'=>K dE h'/\fX ws tm dE
 | [],tm,h,K,_,E=>⟨E,fX.refl _ _⟩
 | o::rest,tm,h,K,hw,E=>by
  simp only[pP]at E ⊢;refine sG E fun v h' G=>?_;have:=Ad (ws:=ws) (fun o' U=>hw o' (by simp[U])) G;have mono:∀{rest:List Oper} {tm:LV} {h:Hp} {K O:LV->Hp->Prop},(∀tm h,K tm h->O tm h)->pP P alP (SCalls P) ops rest tm h K->pP P alP (SCalls P) ops rest tm h O:=by
   intro rest
   induction rest with
   | nil=>intro tm h K O G E;exact G _ _ E
   | cons o rest V=>intro tm h K O G E;simp only[pP]at E ⊢;exact sG E fun v h'=>V G
  exact mono (fun dE h' ⟨W,h2⟩=>⟨W,(fX.put (fun t ht=>hw o (by simp) t ht)).trans h2⟩) this
theorem sC{L:List Oper}{fs:List Inf}{pre:List OV}:∀{rest:LN} {tm:LV} {bF:List Owed} {h:Hp} {K V:LV->Hp->Prop},(∀tm h,K tm h->V tm h)->
  xDraw P alP (SCalls P) L fs pre rest tm bF h K->xDraw P alP (SCalls P) L fs pre rest tm bF h V
 | [],tm,bF,h,K,V,W,E=>W _ _ E
 | i::rest,tm,bF,h,K,V,W,E=>by
  have U:∀{α:Type} {x:Option α} {f g:α->Prop},opt alP.bot x f->(∀a,f a->g a)->opt alP.bot x g:=by
   intro α x f g E aa
   cases x with
   | none=>exact E
   | some a=>exact aa a E
  have hp:∀{am:Nat} {h:Hp} {bF:List Owed} {r r':Prop},eY P alP am h bF r->(r->r')->eY P alP am h bF r':=by
   intro am h bF r r' G ac
   induction bF with
   | nil=>exact ac G
   | cons d bF O =>
    unfold eY at G ⊢;simp only[Vv]at G ⊢
    split
    ·rename_i hb;rw[if_pos hb]at G;exact O G
    ·rename_i hb;rw[if_neg hb]at G;exact⟨G.1,O G.2⟩
  have O:=fun {tm} {bF} {h}=>sC (L:=L) (fs:=fs) (pre:=pre) (rest:=rest) (tm:=tm) (bF:=bF) (h:=h) W;simp only[xDraw]at E ⊢
  split at E
  ·rename_i o f e1 e2
   split at E
   ·exact E
   ·split at E
    ·exact O E
    ·split at E
     ·exact U E fun v=>O
     ·exact U E fun v=>O
     ·exact U E fun r hr=>hp hr O
     ·split at E
      ·rename_i hw;try rw[if_pos hw]
       exact U E fun fa hc=>hc.mono fun v h' hr=>hp hr O
      ·rename_i hw;try rw[if_neg hw]
       exact hp E O
     ·split at E
      ·rename_i hw;try rw[if_pos hw]
       refine U E fun l hl r hr=>?_;obtain⟨x,E,rfl⟩:=Uu.1 hr;exact hp (hl _ (Uu.2 ⟨x,E,rfl⟩)) O
      ·rename_i hw;try rw[if_neg hw]
       exact hp E O
     ·exact U E fun r=>O
  ·exact E
theorem xP{L:List Oper}{fs:List Inf}{pre:List OV}{ws:List Tmp}(hw:∀o∈L,∀t,o.dst=some t->t∈ws):∀{rest:LN} {tm:LV} {bF:List Owed} {h:Hp} {K:LV->Hp->Prop},
  xDraw P alP (SCalls P) L fs pre rest tm bF h K->xDraw P alP (SCalls P) L fs pre rest tm bF h fun dE h'=>K dE h'/\fX ws tm dE
 | [],tm,bF,h,K,E=>⟨E,fX.refl _ _⟩
 | i::rest,tm,bF,h,K,E=>by
  have U:∀{α:Type} {x:Option α} {f g:α->Prop},opt alP.bot x f->(∀a,f a->g a)->opt alP.bot x g:=by
   intro α x f g E V
   cases x with
   | none=>exact E
   | some a=>exact V a E
  have hp:∀{am:Nat} {h:Hp} {bF:List Owed} {r r':Prop},eY P alP am h bF r->(r->r')->eY P alP am h bF r':=by
   intro am h bF r r' G W
   induction bF with
   | nil=>exact W G
   | cons d bF O =>
    unfold eY at G ⊢;simp only[Vv]at G ⊢
    split
    ·rename_i hb;rw[if_pos hb]at G;exact O G
    ·rename_i hb;rw[if_neg hb]at G;exact⟨G.1,O G.2⟩
  simp only[xDraw]at E ⊢
  split at E
  ·rename_i o f e1 e2
   have aa:∀t,o.dst=some t->t∈ws:=hw o (Uy e1);have O:∀{v:Value} {bF:List Owed} {h:Hp},xDraw P alP (SCalls P) L fs pre rest (put tm o.dst v) bF h K->xDraw P alP (SCalls P) L fs pre rest (put tm o.dst v) bF h fun dE h'=>K dE h'/\fX ws tm dE:=by
    intro v bF h ac;exact sC (fun dE h' ⟨h1,h2⟩=>⟨h1,(fX.put aa).trans h2⟩) (xP hw ac)
   split at E
   ·exact E
   ·split at E
    ·exact O E
    ·split at E
     ·exact U E fun v=>O
     ·exact U E fun v=>O
     ·exact U E fun r hr=>hp hr O
     ·split at E
      ·rename_i hw;try rw[if_pos hw]
       exact U E fun fa hc=>hc.mono fun v h' hr=>hp hr O
      ·rename_i hw;try rw[if_neg hw]
       exact hp E O
     ·split at E
      ·rename_i hw;try rw[if_pos hw]
       refine U E fun l hl r hr=>?_;obtain⟨x,E,rfl⟩:=Uu.1 hr;exact hp (hl _ (Uu.2 ⟨x,E,rfl⟩)) O
      ·rename_i hw;try rw[if_neg hw]
       exact hp E O
     ·exact U E fun r=>O
  ·exact E
theorem AJ(hm:P.follows .mixedOrders=true){id:Nat}{ops:Array Oper}{base:Nat}{σ:Sg}{h:Hp}{w:World}{tm:LV}{a:Act}{K:LV->Hp->Prop}{Q:Exit->Act->World->Prop}
  (hr:HR base σ h w) (ht:eM σ tm a.tmps) (V:jZ P alP (SCalls P) ops.toList tm h K)
  (hQ:∀cE dE h' a' w',Ext base σ h w cE h' w'->HR base cE h' w'->eM cE dE a'.tmps->a'.defers=a.defers->K dE h'->Q .normal a' w') (ro:ON):(Code.region id ops true).wpIn (gU ro) 0 P Q a w:=by
 unfold jZ at V
 split at V
 ·rename_i aa
  cases hp:preAlloc P ops.toList h with
  | none=>simp[hp,opt,alP]at V
  | some r =>
   obtain⟨pre,h'⟩:=r;simp only[hp,opt]at V;refine wpIn_region_any hm ?_;have E:=nL (P:=P) (ops:=ops.toList) ops.toList 0 h h' pre (by simp) hp (fun b hb=>(hr.fresh b hb).1);have ad:HR base σ h' {w with drawn:=w.drawn+1}:=(hr.preAlloc (P:=P) _ hp).drawn rfl
   have ac:Ext base σ h w σ h' {w with drawn:=w.drawn+1}:=by
    refine⟨Sg.le_refl σ,rfl,rfl,rfl,Uf _,fun _ _=>rfl,fun _ _ _=>rfl,fun b e h1 W=>by rw[h1]at W;simp at W,E.next,fun b hb hs=>⟨E.old b hb,by rw[E.gs],hs⟩⟩
   have G:∀i,(Array.replicate ops.size false).getD i false=false:=by
    intro i;rw[VW,Array.getElem?_replicate]
    split <;> rfl
   have d:DI P ops.toList pre base σ h w tm K (fun i=>(Array.replicate ops.size false).getD i false) σ h' {w with drawn:=w.drawn+1} a.tmps [] (oT (infos P ops.toList) ops.toList.length (List.range ops.toList.length) 0) 0 0 [] []:=by
    refine⟨?_,ad,ac,⟨aa,by simp,by simp⟩,trivial,by simp,fun i _=>G i,trivial,by intro g hg;simp at hg,⟨by simp,by simp,by simp,fun i v hv=>by obtain⟨_,_,_,id,_,_,_,_,h5,_,h7,_⟩:=E.is i v hv;exact⟨id,h5,h7⟩,by simp⟩,?_,E.inj,?_,ht.1,fun t=>ht.2 t,V⟩
    ·intro i o ho hi;have ae:=G i;simp only at hi;rw[ae]at hi;simp at hi
    ·intro i v hv _;obtain⟨o,ty,z,id,h1,W,h3,h4,h5,h6,h7,h8⟩:=E.is i v hv;refine⟨o,ty,z,id,by simpa using h1,W,h3,h4,h5,h6,h7,hr.none_next h6,h8,?_⟩;rw[E.gs];exact(hr.fresh id h6).2
    ·intro i o ho ha;exact E.all i o (by simpa using ho) ha
   obtain⟨O,U,dM,ef,ow,gh,W,d',dN⟩:=d.advance;refine Mt (d0:=a.defers) hQ ro ops.size _ a _ σ W O U dM ef ow gh (by simp) ?_ d' dN rfl;unfold left;rw[List.filter_eq_self.2 (fun i _=>by simp only[G i];rfl)];simp
 ·exact V.elim
theorem Be{L:List Oper}{ws:List Tmp}(hw:∀o∈L,∀t,o.dst=some t->t∈ws){tm:LV}{h:Hp}{K:LV->Hp->Prop}(G:jZ P alP (SCalls P) L tm h K):
  jZ P alP (SCalls P) L tm h fun dE h'=>K dE h'/\fX ws tm dE:=by
 unfold jZ at G ⊢
 split
 ·rename_i E
  rw[if_pos E]at G
  cases hp:preAlloc P L h with
  | none=>simp[hp,opt,alP]at G
  | some r =>
   simp only[hp,opt]at G ⊢;exact xP hw G
 ·rename_i E;rw[if_neg E]at G;exact G
theorem iH{kp:List Tmp}:∀(ws:List Tmp) (tm:LV),(forget ws kp tm).length=tm.length
 | [],tm=>rfl
 | t::ws,tm=>by
  unfold forget;simp only[Vx]
  split
  ·exact iH ws tm
  ·have:=iH (kp:=kp) ws (tm.set t unk);simpa[forget]using this
theorem oV{kp:List Tmp}(t:Tmp):∀(ws:List Tmp) (tm:LV),(forget ws kp tm).getD t undef=(if t∈ws/\t∉kp/\t < tm.length then unk else tm.getD t undef)
 | [],tm=>by simp[forget]
 | s::ws,tm=>by
  unfold forget;simp only[Vx];by_cases hs:kp.contains s=true
  ·rw[if_pos hs];have O:=oV (kp:=kp) t ws tm;unfold forget at O;rw[O];have G:s∈kp:=by simpa using hs
   by_cases E:t=s
   ·subst E;simp[G]
   ·simp[E]
  ·rw[if_neg hs];have O:=oV (kp:=kp) t ws (tm.set s unk);unfold forget at O;rw[O];have G:s∉kp:=by simpa using hs
   have U:=tI tm (some s) unk t;simp only[Cn.put]at U;rw[U];by_cases E:t=s
   ·subst E;by_cases hl:t < tm.length
    ·simp[G,hl]
    ·simp[hl]
   ·have:¬s=t:=fun e=>E e.symm;simp[E,this]
theorem jD:∀(kp:List Tmp) (vals:LV) (i:Nat) (tm:LV),fX kp tm (eK kp vals i tm)
 | [],vals,i,tm=>fX.refl _ _
 | t::kp,vals,i,tm=>by
  unfold eK;have E:fX (t::kp) tm (tm.set t (vals.getD i undef)):=fX.put (d:=some t) (fun s hs=>by simp at hs;simp[hs]);exact E.trans ((jD kp vals (i+1) _).mono fun s hs=>by simp[hs])
theorem Dn{t:Tmp}{dE:LV}:∀(l:List Tmp) (vals:LV) (i:Nat) (eC:LV),eC.length=dE.length->(∀j s,l[j]? = some s->vals.getD (i+j) undef=dE.getD s undef)->t∈l\/eC.getD t undef=dE.getD t undef->
  (eK l vals i eC).getD t undef=dE.getD t undef:=by
 intro l
 induction l with
 | nil=>intro vals i eC _ _ h;rcases h with h | h;simp at h;exact h
 | cons s l ih =>
  intro vals i eC E W h;unfold eK;have h0:vals.getD i undef=dE.getD s undef:=by simpa using W 0 s rfl
  refine ih vals (i+1) _ (by simpa using E) (fun j s' hj=>by
   have:=W (j+1) s' (by simpa using hj);rw[show i+1+j=i+(j+1) by omega];exact this) ?_
  have U:=tI eC (some s) (vals.getD i undef) t;simp only[Cn.put]at U;by_cases O:s=t
  ·right
   rw[U];subst O;by_cases G:s < eC.length
   ·rw[if_pos ⟨rfl,G⟩];exact h0
   ·rw[if_neg (fun V=>G V.2),Uz,VI (WE G),Uz,VI (by rw[<-E];exact WE G)]
  ·rcases h with h | h
   ·left;simp at h;rcases h with h | h;exact absurd h.symm O;exact h
   ·right;rw[U,if_neg (fun V=>O (by simpa using V.1))];exact h
theorem tC{kp ws:List Tmp}{tm dE:LV}(hl:dE.length=tm.length){t:Tmp}(E:t∈kp):
  (eK kp (kp.map fun t=>dE.getD t undef) 0 (forget ws kp tm)).getD t undef=dE.getD t undef :=
 Dn kp _ 0 _ (by rw[iH,hl]) (fun j s G=>by rw[Nat.zero_add,Uz,VB,G];rfl) (.inl E)
theorem vF{ws kp:List Tmp}{tm dE:LV}(hs:fX ws tm dE):fX ws tm (eK kp (kp.map fun t=>dE.getD t undef) 0 (forget ws kp tm)):=by
 refine⟨by rw[(jD kp _ 0 _).1,iH],fun t E=>?_⟩;by_cases G:t∈kp
 ·rw[tC hs.1 G];exact hs.2 t E
 ·rw[(jD kp _ 0 _).2 t G,oV,if_neg (fun O=>E O.1)]
theorem yW{σ:Sg}{ws kp:List Tmp}{tm dE:LV}{E:AV}(O:eM σ dE E)(hs:∀t,t∉ws->t∉kp->dE.getD t undef=tm.getD t undef)(hl:dE.length=tm.length):
  eM σ (eK kp (kp.map fun t=>dE.getD t undef) 0 (forget ws kp tm)) E:=by
 have hlen:(eK kp (kp.map fun t=>dE.getD t undef) 0 (forget ws kp tm)).length=E.size:=by
  rw[(jD kp _ 0 _).1,iH,<-hl,O.1]
 refine⟨hlen,fun t=>?_⟩;by_cases U:t∈kp
 ·rw[tC hl U];exact O.2 t
 ·rw[(jD kp _ 0 _).2 t U,oV]
  split
  ·exact .unk _
  ·rename_i W
   by_cases hw:t∈ws
   ·have G:¬t < tm.length:=fun V=>W ⟨hw,U,V⟩;have:=O.2 t;rw[Uz,VI (by rw[hl];exact WE G)]at this;rw[Uz,VI (WE G)];exact this
   ·rw[<-hs t hw U];exact O.2 t
end
theorem Lies.grown{base:Nat}{σ:Sg}{w w':World}{e:En}{cs:LV}{g:ON}(h:Lies base σ w e cs g)(E:w'.heap[e.rb]? = w.heap[e.rb]?):Lies base σ w' e cs g:=by
 obtain⟨⟨c,el,fr,G,O⟩,U⟩:=h;exact⟨⟨c,el,fr,by rw[E];exact G,O⟩,U⟩
theorem HR.grown{base:Nat}{σ:Sg}{h:Hp}{w w':World}(hr:HR base σ h w)(hs:w.heap.size<=w'.heap.size)(O:∀k,k < w.heap.size->w'.heap[k]? = w.heap[k]?):HR base σ h w' :=
 ⟨Nat.le_trans hr.base_le hs,fun b e hb=>⟨(hr.dom b e hb).1,Vj (hr.dom b e hb).2 hs⟩,hr.fresh,
  fun b e cs t g E G U=>(hr.cell b e cs t g E G U).grown (O _ (hr.dom b e E).2),hr.grp,hr.gdom,hr.stack,hr.nest,hr.apart,
  hr.oth.step (Sg.le_refl σ) (fun b e o E G _=>⟨G,E⟩) (fun k o E _=>by rw[O k (VT.1 E).1];exact E) (fun b e E G=>by rw[E]at G;simp at G)⟩
end Go.Cn
