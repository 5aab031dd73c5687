/- Joined: CnK, CnL, CnM, CnN, CnO, CnP, CnQ. -/
import Derived.Test.YtmapagggnigfpaaGreatDn04
import Derived.OrdersIn
import Derived.RangeFuncRecord
import Derived.RangeFuncLeaves
import Derived.LoopNIn
set_option linter.unusedVariables false
set_option linter.unusedSimpArgs false
namespace Go.Cn
def sU(base:Nat)(σ:Sg)(h:Hp)(w:World)(K:KT)(e:Ending)(w':World):Prop :=
 ∃v v' h' cE,e = .returned v'/\K v h'/\VRel cE v v'/\HR base cE h' w'/\Ext base σ h w cE h' w'
theorem sU.mono{base:Nat}{σ:Sg}{h:Hp}{w:World}{K E:KT}(G:∀v h,K v h->E v h){e:Ending}{w':World}(hp:sU base σ h w K e w'):sU base σ h w E e w':=by
 obtain⟨v,v',h',cE,O,U,V⟩:=hp;exact⟨v,v',h',cE,O,G _ _ U,V⟩
def gU(ro:ON):Fence:={Fence.wide with round:=ro}
theorem EZ(ro:ON):(gU ro).round=ro:=rfl
theorem qE(ro:ON):(gU ro).depth.isSome=true->1<=0:=by simp[gU,Fence.wide]
theorem uB{ro:ON}{P:Program}{f:FuncId}{args:AV}{w:World}{R:Ending->World->Prop}(h:Calls P f args w R):CallsIn (gU ro) 0 P f args w R:=(callsIn_wide (n:=0)).2 h
theorem Aa{ro:ON}{P:Program}{f:FuncId}{args:AV}{w:World}{R:Ending->World->Prop}(h:CallsIn (gU ro) 0 P f args w R):Calls P f args w R:=(callsIn_wide (n:=0)).1 h
def lP(r:Loop)(args:AV):AV:=(r.params.zip args).foldl (fun tmps (t,a)=>tmps.setIfInBounds t a) r.tmps
def sV(P:Program)(f:FuncId)(args:LV)(h:Hp)(K:KT):Prop :=
 (∃fn,P.funcs[f]? = some fn/\fn.body.isSome=true/\jG fn=true)/\
 ∀(base:Nat) (σ:Sg) (w:World) (rargs:AV),HR base σ h w->bK σ args rargs.toList->Calls P f rargs w (sU base σ h w K)
def SL(P:Program)(f:FuncId)(args:LV)(h:Hp)(K:KT):Prop :=
 ∃l,f=P.funcs.size+l/\∀(base:Nat) (σ:Sg) (w:World) (rargs:AV) (e:En),HR base σ h w->bK σ args rargs.toList->σ l=some e->
  ∃r,w.heap[e.rb]? = some (.loop r)/\rargs.size=r.params.size/\RoundIn (gU none) 0 P e.rb r.fn (lP r rargs) r.assign r.body w (sU base σ h w K)
def SCalls(P:Program)(f:FuncId)(args:LV)(h:Hp)(K:KT):Prop:=sV P f args h K\/SL P f args h K
theorem sV.lt{P:Program}{f:FuncId}{args:LV}{h:Hp}{K:KT}(E:sV P f args h K):f < P.funcs.size:=by
 obtain⟨⟨fn,G,_⟩,_⟩:=E;exact(VT.1 G).1
theorem SCalls.func{P:Program}{f:FuncId}{args:LV}{h:Hp}{K:KT}(G:SCalls P f args h K)(O:f < P.funcs.size):sV P f args h K:=by
 rcases G with E | ⟨l,E,_⟩
 ·exact E
 ·exact absurd O (by rw[E];exact Nat.not_lt.2 (Nat.le_add_right _ _))
theorem sV.mono{P:Program}{f:FuncId}{args:LV}{h:Hp}{K G:KT}(O:sV P f args h K)(U:∀v h,K v h->G v h):sV P f args h G :=
 ⟨O.1,fun base σ w E hr hl=>(O.2 base σ w E hr hl).mono fun _ _=>sU.mono U⟩
theorem SCalls.mono{P:Program}{f:FuncId}{args:LV}{h:Hp}{K O:KT}(G:SCalls P f args h K)(U:∀v h,K v h->O v h):SCalls P f args h O:=by
 rcases G with G | ⟨l,V,G⟩
 ·exact .inl (G.mono U)
 ·refine .inr ⟨l,V,fun base σ w E e hr hl he=>?_⟩;obtain⟨r,W,h2,h3⟩:=G base σ w E e hr hl he;exact⟨r,W,h2,h3.mono fun _ _=>sU.mono U⟩
theorem SCalls.of_rel{P:Program}{f:FuncId}{args:LV}{h:Hp}{K:KT}(G:(∃fn,P.funcs[f]? = some fn/\fn.body.isSome=true/\jG fn=true)\/∃l,f=P.funcs.size+l)
  (U:∀(base:Nat) (σ:Sg) (w:World),HR base σ h w->SCalls P f args h K):SCalls P f args h K:=by
 rcases G with ⟨fn,G⟩ | ⟨l,G⟩
 ·refine .inl ⟨⟨fn,G⟩,fun base σ w E hr hl=>((U base σ w hr).func (VT.1 G.1).1).2 base σ w E hr hl⟩
 ·refine .inr ⟨l,G,fun base σ w E e hr hl he=>?_⟩;rcases U base σ w hr with O | ⟨l',O,V⟩
  ·exact absurd O.lt (by rw[G];exact Nat.not_lt.2 (Nat.le_add_right _ _))
  ·have:l'=l:=Nat.add_left_cancel (O.symm.trans G);subst this;exact V base σ w E e hr hl he
section
variable {P:Program}
def UW:Value->Option Bool
 | .bool x=>some x
 | _=>none
theorem FR{σ:Sg}{v v':Value}{want b:Bool}(h:xR v want=some b)(E:VRel σ v v'):(UW v'==some want)=b:=by
 unfold xR at h
 split at h
 ·obtain rfl:=E.bool_inv;simp at h;subst h;simp[UW]
 ·rename_i vs
  split at h
  ·rename_i hs
   have:vs = #[]:=Array.eq_empty_of_size_eq_zero hs;subst this;obtain rfl:=E.undef_inv;simp at h;subst h
   rfl
  ·simp at h
 ·simp at h
theorem oL{σ:Sg}{ops:Array Oper}{tm:LV}{tmps:AV}(O:eM σ tm tmps){o:Oper}{b:Bool}(h:wants ops.toList tm o=some b):
  Region.wanted o (yielded ops tmps)=b:=by
 unfold wants at h;unfold Region.wanted
 cases E:o.guard with
 | none=>simp[E]at h;simp[h]
 | some U =>
  obtain⟨j,want⟩:=U;simp only[E]at h ⊢;unfold yielded;simp only[VR]at h
  cases G:(ops[j]?).bind (·.dst) with
  | none=>simp[G]at h;subst h;rfl
  | some d =>
   simp only[G]at h;have V:=O.2 d;have:=FR h V;rw[<-this];simp only[Ul];by_cases hl:d < tmps.size
   ·rw[VW,Vq hl];simp
    cases tmps[d] <;> rfl
   ·rw[VW,Array.getElem?_eq_none (WE hl)]
    rfl
def Tf(base:Nat)(σ:Sg)(h:Hp)(w:World)(a:Act)(dst:Option Tmp)(k:KT)(next:Act->World->Prop):Prop :=
 ∀cE v v' h' w',Ext base σ h w cE h' w'->HR base cE h' w'->VRel cE v v'->k v h'->next (a.put dst v') w'
theorem vL{f:FuncId}{fn:Func}(O:P.funcs[f]? = some fn)(hb:fn.body.isSome=true)(hm:jG fn=true)(args:AV)(w:World):(callFunc f args).run P w = .ok (.enter f args) w:=by
 have V:fn.body.isNone=false:=by cases U:fn.body <;> simp_all
 have G:(fn.name == "runtime.NumGoroutine")=false:=by simpa[jG]using hm
 simp only[beq_eq_false_iff_ne,ne_eq]at G;simp[callFunc,O,G];intro E;rw[E]at hb;simp at hb
theorem Gj{t:TI}{name:String}{f:FuncId}(h:methodOf P t name=some f)(v:Value)(n:Nat)(w:World):(method (n+1) t v name).run P w = .ok (f,v) w:=by
 unfold methodOf at h
 split at h
 ·rename_i i hi
  split at h
  ·rename_i m hm
   split at h
   ·simp at h
   ·rename_i hp
    have G:m.path = #[]:=by simpa using hp
    unfold method;simp only[Sem.run_bind,run_typeInfo w hi,Result.andThen_ok,hm,G]
    split at h <;> first | (simp at h;done) | skip
    ·rename_i U e E hu
     simp at h;subst h;simp[follow,E,receiverAt,run_underlying hu,Place.get]
    ·rename_i U d O E hu
     simp at h;subst h;simp only[follow,E,Sem.run_pure,Result.andThen_ok,receiverAt,Sem.run_bind,run_underlying hu]
     cases d <;> first | (exact absurd rfl (O _)) | simp[Place.get]
  ·simp at h
 ·simp at h
theorem HJ{tm:LV}{σ:Sg}{a:Act}(ht:eM σ tm a.tmps){o:Oper}{f:FuncId}{args:LV}(O:callee P tm o.op=some (f,args)):
  ∃U,bK σ args U.toList/\
   ((f < P.funcs.size/\∀fn,P.funcs[f]? = some fn->fn.body.isSome=true->jG fn=true->∀w,(execOp a.eval o).run P w = .ok (.enter f U) w)\/
    ∃l e,f=P.funcs.size+l/\σ l=some e/\∀w r,w.heap[e.rb]? = some (.loop r)->U.size=r.params.size->(execOp a.eval o).run P w = .ok (.round e.rb r.fn (lP r U) r.assign r.body) w):=by
 obtain⟨dst,op,ty,pos,after,guard⟩:=o;unfold callee at O;simp only at O
 split at O
 ·rename_i g E ae
  have hg:=kX ht g;have V:=Cc ht E
  split at O
  ·rename_i f' first captured he
   split at O
   ·rename_i af
    simp at O;obtain⟨rfl,rfl⟩:=O;rw[he]at hg;obtain⟨W,G,e2,h1,h2⟩:=hg.func_inv rfl;refine⟨W++E.map a.eval++G,?_,.inl ⟨af,fun fn hf hb hm w=>?_⟩⟩
    ·have l1:bK σ first.toList W.toList:=bK.of_agg h1.1 h1.2;have l2:bK σ (E.map (ev tm)).toList (E.map a.eval).toList:=bK.of_agg V.1 V.2;have l3:bK σ captured.toList G.toList:=bK.of_agg h2.1 h2.2;have:=(l1.append l2).append l3;simpa using this
    ·simp[execOp,resolve,e2,Deferred.ofValue,invoke,vL hf hb hm]
   ·simp at O
  ·rename_i l first captured he
   split at O
   ·simp at O;obtain⟨rfl,rfl⟩:=O;rw[he]at hg;obtain⟨e,hl,e2⟩:=hg.yield_inv;refine⟨E.map a.eval,?_,.inr ⟨l,e,rfl,hl,fun w r hr hs=>?_⟩⟩
    ·have l2:bK σ (E.map (ev tm)).toList (E.map a.eval).toList:=bK.of_agg V.1 V.2;simpa using l2
    ·have:=run_yield (P:=P) hr hs;simp[execOp,resolve,e2,Deferred.ofValue,invoke,this,lP]
   ·simp at O
  ·simp at O
 ·rename_i r name E ae
  have hg:=kX ht r;have V:=Cc ht E
  split at O
  ·rename_i t v he
   split at O
   ·rename_i g ac
    split at O
    ·rename_i aa
     simp only[Uw,decide_eq_true_eq]at aa;simp at O;obtain⟨rfl,rfl⟩:=O;rw[he]at hg;obtain⟨v',e2,hv⟩:=hg.iface_inv;refine⟨#[v']++E.map a.eval,?_,.inl ⟨aa.1,fun fn hf hb hm w=>?_⟩⟩
     ·have l2:bK σ (E.map (ev tm)).toList (E.map a.eval).toList:=bK.of_agg V.1 V.2;have:=bK.cons hv l2;simpa using this
     ·have ag:=Gj ac v' (P.types.size+99) w;have hex:(#[Value.iface t v']++E.map a.eval).extract 1 (#[Value.iface t v']++E.map a.eval).size=E.map a.eval:=by
       apply Array.ext';simp[Uj]
      have ad:(callMethod (.iface t v') name (E.map a.eval)).run P w = .ok (.enter g (#[v']++E.map a.eval)) w:=by
       unfold callMethod;simp only[Sem.run_bind,run_program,Result.andThen_ok];show(Sem.run P (method (P.types.size+99+1) t v' name) w).andThen _=_;rw[ag];exact vL hf hb hm _ w
      simp only[execOp,resolve,e2,Sem.run_bind,Sem.run_pure,Result.andThen_ok,invoke,hex];have h0:(#[Value.iface t v']++E.map a.eval)[0]? = some (.iface t v'):=by rw[Array.getElem?_append,if_pos (by simp)];rfl
      rw[h0];exact ad
    ·simp at O
   ·simp at O
  ·simp at O
 ·simp at O
theorem mU{base:Nat}{σ:Sg}{h:Hp}{w:World}(hr:HR base σ h w){tm:LV}{a:Act}(ht:eM σ tm a.tmps){ops:Array Oper}{o:Oper}{k:KT}
  (hs:nT P alP (SCalls P) ops.toList o tm h k) {next:Act->World->Prop} {Q:Exit->Act->World->Prop} (hn:Tf base σ h w a o.dst k next) (ro:ON) :
  if Region.wanted o (yielded ops a.tmps) then o.wpIn (gU ro) 0 P a w next Q else(∀f,o.about P w a.eval=some f->(gU ro).fn f)/\next (a.put o.dst undef) w:=by
 unfold nT at hs
 cases hw:wants ops.toList tm o with
 | none=>simp[hw,alP]at hs
 | some b =>
  rw[oL ht hw];simp only[hw]at hs;have skip:∀{v:Value},b=false->k undef h->next (a.put o.dst undef) w:=fun hb hk=>hn σ undef undef h w (Ext.refl _ _ _ _) hr (VRel.undef σ) hk
  cases b with
  | false =>
   simp only[VA,if_false]at hs ⊢;refine⟨fun _ _=>trivial,skip (v:=undef) rfl ?_⟩
   split at hs <;> simpa[opt]using hs
  | true =>
   simp only[if_true]at hs ⊢;refine⟨fun _ _=>trivial,?_⟩;have G:(∀c,o.op≠.defer c)->o.semAt (gU ro).round a.eval=execOp a.eval o:=fun O=>Oper.semAt_eq _ _ _ O
   split at hs
   ·cases hp:pop P tm o.op with
    | none=>simp[hp,opt,alP]at hs
    | some v =>
     obtain⟨v',U,V⟩:=Oy ht o hp w;rw[G (by rintro c O;rw[O]at hp;simp[pop]at hp),U];simp only[hp,opt]at hs;exact hn σ v v' h w (Ext.refl _ _ _ _) hr V hs
   ·cases hp:rop P tm o.op h with
    | none=>simp[hp,opt,alP]at hs
    | some v =>
     obtain⟨v',U,V⟩:=Ov hr ht o hp;rw[G (by rintro c O;rw[O]at hp;simp[rop]at hp),U];simp only[hp,opt]at hs;exact hn σ v v' h w (Ext.refl _ _ _ _) hr V hs
   ·cases hp:AX P tm o.op h with
    | none=>simp[hp,opt,alP]at hs
    | some vh =>
     obtain⟨v,h'⟩:=vh;obtain⟨cE,nx,v',w',U,V,h3,h4,h5⟩:=PV hr ht o hp;rw[G (by rintro c O;rw[O]at hp;simp[AX]at hp),U];simp only[hp,opt]at hs;rcases V with rfl | ⟨rfl,rfl⟩
     ·exact hn cE v v' h' w' h5 h4 h3 hs
     ·exact hn cE v undef h' w' h5 h4 h3 hs
   ·cases hp:callee P tm o.op with
    | none=>simp[hp,opt,alP]at hs
    | some fa =>
     obtain⟨f,args⟩:=fa;simp only[hp,opt]at hs;rw[G (by rintro c O;rw[O]at hp;simp[callee]at hp)];obtain⟨W,hl,E⟩:=HJ ht hp;have fin:∀e w',sU base σ h w k e w'->(match e,w' with
       | .returned v,aa=>next (a.put o.dst v) aa
       | .panicked chain,aa=>Q (.panic chain) a aa
       | .outgrown,_=>LetsOut Q):=by
      rintro e w' ⟨v,v',h',cE,rfl,hk,hv,ad,he⟩;exact hn cE v v' h' w' he ad hv hk
     rcases E with ⟨ae,E⟩ | ⟨l,e,rfl,hle,E⟩
     ·obtain⟨⟨fn,hf,hb,hm⟩,ac⟩:=hs.func ae;rw[E fn hf hb hm w];exact⟨qE ro,uB ((ac base σ w W hr hl).mono fin)⟩
     ·rcases hs with hs | ⟨l',af,hs⟩
      ·exact absurd hs.lt (Nat.not_lt.2 (Nat.le_add_right _ _))
      ·have:l'=l:=(Nat.add_left_cancel af).symm;subst this;obtain⟨r,U,V,h3⟩:=hs base σ w W e hr hl hle;rw[E w r U V];exact⟨qE ro,RoundIn.mono h3 fin⟩
   ·cases hp:OE tm o.op h with
    | none=>simp[hp,opt,alP]at hs
    | some alts =>
     obtain⟨v,h',v',w',U,V,h3,h4,h5⟩:=QB (P:=P) hr ht o hp;rw[G (by rintro c O;rw[O]at hp;simp[OE]at hp),V];simp only[hp,opt]at hs;exact hn σ v v' h' w' h5 h4 h3 (hs _ (Uu.2 ⟨(v,h'),U,rfl⟩))
   ·cases hp:tM P tm o.op h with
    | none=>simp[hp,opt,alP]at hs
    | some vh =>
     obtain⟨v,h'⟩:=vh;obtain⟨cE,v',w',U,V,h3,h4⟩:=MY hr ht o hp;rw[G (by rintro c O;rw[O]at hp;simp[tM,mkOf]at hp),U];simp only[hp,opt]at hs;exact hn cE v v' h' w' h4 h3 V hs
theorem xO{ops:Array Oper}{Q:Exit->Act->World->Prop}(ro:ON):∀(rest:List Oper) (i:Nat) {base:Nat} {σ:Sg} {h:Hp} {w:World} {tm:LV} {a:Act} {K:LV->Hp->Prop},
  rest=ops.toList.drop i->HR base σ h w->eM σ tm a.tmps->pP P alP (SCalls P) ops.toList rest tm h K->
  (∀cE dE h' a' w',Ext base σ h w cE h' w'->HR base cE h' w'->eM cE dE a'.tmps->a'.defers=a.defers->K dE h'->Q .normal a' w')->
  wpOpsIn (gU ro) 0 P ops Q (List.range' i (ops.size - i)) a w
 | [],i,base,σ,h,w,tm,a,K,he,hr,O,U,V=>by
  have:ops.size - i=0:=by
   have:=congrArg List.length he;simp at this;omega
  rw[this];simp only[List.range'_zero,wpOpsIn];exact V σ tm h a w (Ext.refl _ _ _ _) hr O rfl U
 | o::rest,i,base,σ,h,w,tm,a,K,he,hr,O,U,V=>by
  have hi:i < ops.size:=by
   rcases Nat.lt_or_ge i ops.size with W | W
   ·exact W
   ·rw[VV (by simpa using W)]at he;simp at he
  have ho:ops[i]? = some o:=by
   have:=congrArg (fun l:List Oper=>l[0]?) he;simp at this;exact this.symm
  have G:rest=ops.toList.drop (i+1):=by
   have:=congrArg List.tail he;simpa using this
  rw[show ops.size - i=(ops.size - (i+1))+1 by omega,List.range'_succ,wpOpsIn_cons];unfold wpOpIn;rw[ho];refine mU hr O U ?_ ro;intro cE v v' h' w' E aa hv hk;refine xO ro rest (i+1) G aa ((O.mono E.le).put o.dst hv) hk ?_;intro ac ad h2 a2 w2 e2 r2 t2 d2 k2;exact V ac ad h2 a2 w2 (E.trans e2) r2 t2 (by rw[d2,Act.put_defers']) k2
end
section
variable {P:Program} {tm dE:LV}
theorem nM{lo:Option Operand}(h:∀x∈lo.toList,ev tm x=ev dE x):lo.map (ev tm)=lo.map (ev dE):=by
 cases lo with
 | none=>rfl
 | some x=>simp at h;simp[h]
theorem rU{xs:Array Operand}(h:∀x∈xs.toList,ev tm x=ev dE x):xs.map (ev tm)=xs.map (ev dE) :=
 Array.map_congr_left fun x E=>h x (by simpa using E)
theorem pM{ps:List (Nat×Operand)}(h:∀x∈ps.map (·.2),ev tm x=ev dE x):(ps.map fun(i,x)=>(i,ev tm x))=ps.map fun(i,x)=>(i,ev dE x):=by
 apply WV;rintro⟨i,x⟩ hp;simp only;rw[h x (Uu.2 ⟨(i,x),hp,rfl⟩)]
def mP(tm dE:LV)(op:Op):Prop:=∀x∈op.operands.toList,ev tm x=ev dE x
theorem uU{op:Op}(h:mP tm dE op):pop P tm op=pop P dE op:=by
 unfold mP at h;unfold pop
 split
 case h_17 args G =>
  simp only[Op.operands,Call.operands]at h;simp at h
  split
  ·rename_i t U x xs e1 e2
   have E:x∈args:=by rw[<-Vm,e2];simp
   rw[h x E]
  ·rfl
 case h_18 args G =>
  simp only[Op.operands,Call.operands]at h;simp at h
  split
  ·rename_i t U x xs e1 e2
   have E:x∈args:=by rw[<-Vm,e2];simp
   rw[h x E]
  ·rfl
 case h_19 args G =>
  simp only[Op.operands,Call.operands]at h;simp at h
  split
  ·rename_i x y e2
   have E:x∈args:=by rw[<-Vm,e2];simp
   have O:y∈args:=by rw[<-Vm,e2];simp
   rw[h x E,h y O]
  ·rfl
 case h_20 args G =>
  simp only[Op.operands,Call.operands]at h;simp at h
  split
  ·rename_i x y e2
   have E:x∈args:=by rw[<-Vm,e2];simp
   have O:y∈args:=by rw[<-Vm,e2];simp
   rw[h x E,h y O]
  ·rfl
 case h_9 fn first captured =>
  simp only[Op.operands]at h;simp at h;rw[rU (xs:=first) (fun x E=>h x (.inl (by simpa using E))),rU (xs:=captured) (fun x E=>h x (.inr (by simpa using E)))]
 case h_10 t x lo hi mx =>
  simp only[Op.operands]at h;simp at h;rw[h.1,nM (lo:=lo) (fun x E=>h.2 x (by simp_all)),nM (lo:=hi) (fun x E=>h.2 x (by simp_all)),nM (lo:=mx) (fun x E=>h.2 x (by simp_all))]
 case h_15 t parts=>
  simp only[Op.operands]at h;rw[pM (ps:=parts.toList) h]
 all_goals first
  | rfl
  | (simp only[Op.operands]at h;simp at h;simp[h];done)
  | (simp only[Op.operands]at h;simp at h;simp only[h];done)
theorem uT{op:Op}(h:mP tm dE op)(hp:Hp):rop P tm op hp=rop P dE op hp:=by
 unfold mP at h;unfold rop
 split
 case h_4 args E =>
  simp only[Op.operands,Call.operands]at h;simp at h
  split
  ·split
   ·rename_i x xs e2
    have G:x∈args:=by rw[<-Vm,e2];simp
    rw[h x G]
   ·rfl
  ·rfl
 all_goals first
  | rfl
  | (simp only[Op.operands]at h;simp at h;simp[h];done)
  | (simp only[Op.operands]at h;simp at h;simp only[h];done)
theorem vJ{op:Op}(h:mP tm dE op)(hp:Hp):AX P tm op hp=AX P dE op hp:=by
 unfold mP at h;unfold AX
 split
 case h_4 t r =>
  cases r with
  | none=>rfl
  | some x =>
   simp only[Op.operands]at h;simp at h;simp only[h]
 case h_10 args E =>
  simp only[Op.operands,Call.operands]at h;simp at h
  split
  ·rename_i t U x y e1 e2
   have G:x∈args:=by rw[<-Vm,e2];simp
   have O:y∈args:=by rw[<-Vm,e2];simp
   rw[h x G,h y O]
  ·rfl
 case h_12 args E =>
  simp only[Op.operands,Call.operands]at h;simp at h
  split
  ·rename_i t xt x y e1 e2
   have G:x∈args:=by rw[<-Vm,e2];simp
   have O:y∈args:=by rw[<-Vm,e2];simp
   rw[h x G,h y O]
  ·rfl
 case h_13 args E =>
  simp only[Op.operands,Call.operands]at h;simp at h
  split
  ·rename_i t U x y e1 e2
   have G:x∈args:=by rw[<-Vm,e2];simp
   have O:y∈args:=by rw[<-Vm,e2];simp
   rw[h x G,h y O]
  ·rfl
 case h_14 args E =>
  simp only[Op.operands,Call.operands]at h;simp at h
  split
  ·rename_i t U x e1 e2
   have G:x∈args:=by rw[<-Vm,e2];simp
   rw[h x G]
  ·rfl
 all_goals first
  | rfl
  | (simp only[Op.operands]at h;simp at h;simp[h];done)
  | (simp only[Op.operands]at h;simp at h;simp only[h];done)
theorem lJ{op:Op}(h:mP tm dE op):callee P tm op=callee P dE op:=by
 unfold mP at h;unfold callee
 split
 ·rename_i f args E
  simp only[Op.operands,Call.operands]at h;simp at h;have hm:args.toList.map (ev tm)=args.toList.map (ev dE):=WV fun x G=>h.2 x (by simpa using G);rw[h.1,hm]
 ·rename_i r name args E
  simp only[Op.operands,Call.operands]at h;simp at h;have hm:args.toList.map (ev tm)=args.toList.map (ev dE):=WV fun x G=>h.2 x (by simpa using G);rw[h.1,hm]
 ·rfl
theorem yL{op:Op}(h:mP tm dE op):mkOf P tm op=mkOf P dE op:=by
 unfold mP at h;unfold mkOf
 split
 ·simp only[Op.operands]at h;simp at h;simp only[h]
 ·rename_i t len parts
  simp only[Op.operands]at h;rw[pM (ps:=parts.toList) h]
 ·rfl
 ·rfl
theorem yK{op:Op}(h:mP tm dE op)(hp:Hp):tM P tm op hp=tM P dE op hp:=by unfold tM;rw[yL h]
theorem BZ{op:Op}(h:mP tm dE op)(hp:Hp):OE tm op hp=OE dE op hp:=by
 unfold mP at h;unfold OE
 split
 ·simp only[Op.operands]at h;simp at h;simp only[h]
 ·rfl
end
section
variable {P:Program}
theorem HR.ghost{base:Nat}{σ:Sg}{h:Hp}{w:World}(hr:HR base σ h w)(cs:LV)(t:TI):HR base σ (h.alloc cs t) w:=by
 have W:h.ob h.next=none:=(hr.fresh _ (Uf _)).1;have G:∀b e,σ b=some e->b≠h.next:=fun b e hb=>by have:=(hr.dom b e hb).1;omega
 have aa:Oth base σ (h.alloc cs t) w:=hr.oth.step (Sg.le_refl σ) (fun b e o V h2 _=>by rw[Hp.ob_alloc,if_neg (G b e V)]at h2;exact⟨h2,V⟩) (fun k o V _=>V) (fun b e V h2=>by rw[V]at h2;simp at h2);refine⟨hr.base_le,fun b e hb=>⟨by have:=(hr.dom b e hb).1;rw[Hp.next_alloc];omega,(hr.dom b e hb).2⟩,?_,?_,?_,?_,?_,?_,?_,aa⟩
 ·intro b hb;rw[Hp.next_alloc]at hb;rw[Hp.ob_alloc,Hp.gs_alloc,if_neg (by omega)];exact hr.fresh b (by omega)
 ·intro b e O U g hb E hl;rw[Hp.ob_alloc,if_neg (G b e hb)]at E;exact hr.cell b e O U g hb E hl
 ·intro b O U g E;rw[Hp.ob_alloc]at E;rw[Hp.next_alloc]
  split at E
  ·cases E;omega
  ·have:=hr.grp b O U g E;omega
 ·intro b e O U g hb E;rw[Hp.ob_alloc,if_neg (G b e hb)]at E;exact hr.gdom b e O U g hb E
 ·intro g l hg b hb;rw[Hp.gs_alloc]at hg;obtain⟨O,U,E⟩:=hr.stack g l hg b hb;refine⟨O,U,?_⟩;rw[Hp.ob_alloc,if_neg ?_]
  ·exact E
  ·rintro rfl;rw[W]at E;simp at E
 ·intro g l hg;rw[Hp.gs_alloc]at hg;refine(hr.nest g l hg).imp_of_mem fun {b1 b2} m1 m2 hp=>?_;intro e1 e2 lA kH t1 t2 g1 g2 s1 s2 o1 o2;rw[Hp.ob_alloc,if_neg (G b1 e1 s1)]at o1;rw[Hp.ob_alloc,if_neg (G b2 e2 s2)]at o2;exact hp e1 e2 lA kH t1 t2 g1 g2 s1 s2 o1 o2
 ·intro b1 b2 e1 e2 lA kH t1 t2 g1 g2 s1 s2 o1 o2 l1 l2 ac;rw[Hp.ob_alloc,if_neg (G b1 e1 s1)]at o1;rw[Hp.ob_alloc,if_neg (G b2 e2 s2)]at o2;exact hr.apart b1 b2 e1 e2 lA kH t1 t2 g1 g2 s1 s2 o1 o2 l1 l2 ac
theorem HR.ghostMap{base:Nat}{σ:Sg}{h:Hp}{w:World}(hr:HR base σ h w):HR base σ (h.newOb (.map [] 0)) w:=by
 have W:h.ob h.next=none:=(hr.fresh _ (Uf _)).1;have G:∀b e,σ b=some e->b≠h.next:=fun b e hb=>by have:=(hr.dom b e hb).1;omega
 have aa:Oth base σ (h.newOb (.map [] 0)) w:=hr.oth.step (Sg.le_refl σ) (fun b e o V h2 _=>by rw[Hp.ob_newOb,if_neg (G b e V)]at h2;exact⟨h2,V⟩) (fun k o V _=>V) (fun b e V h2=>by rw[V]at h2;simp at h2);refine⟨hr.base_le,fun b e hb=>⟨by have:=(hr.dom b e hb).1;rw[Hp.next_newOb];omega,(hr.dom b e hb).2⟩,?_,?_,?_,?_,?_,?_,?_,aa⟩
 ·intro b hb;rw[Hp.next_newOb]at hb;rw[Hp.ob_newOb,Hp.gs_newOb,if_neg (by omega)];exact hr.fresh b (by omega)
 ·intro b e O U g hb E hl;rw[Hp.ob_newOb,if_neg (G b e hb)]at E;exact hr.cell b e O U g hb E hl
 ·intro b O U g E;rw[Hp.ob_newOb]at E;rw[Hp.next_newOb]
  split at E
  ·cases E
  ·have:=hr.grp b O U g E;omega
 ·intro b e O U g hb E;rw[Hp.ob_newOb,if_neg (G b e hb)]at E;exact hr.gdom b e O U g hb E
 ·intro g l hg b hb;rw[Hp.gs_newOb]at hg;obtain⟨O,U,E⟩:=hr.stack g l hg b hb;refine⟨O,U,?_⟩;rw[Hp.ob_newOb,if_neg ?_]
  ·exact E
  ·rintro rfl;rw[W]at E;simp at E
 ·intro g l hg;rw[Hp.gs_newOb]at hg;refine(hr.nest g l hg).imp_of_mem fun {b1 b2} m1 m2 hp=>?_;intro e1 e2 lA kH t1 t2 g1 g2 s1 s2 o1 o2;rw[Hp.ob_newOb,if_neg (G b1 e1 s1)]at o1;rw[Hp.ob_newOb,if_neg (G b2 e2 s2)]at o2;exact hp e1 e2 lA kH t1 t2 g1 g2 s1 s2 o1 o2
 ·intro b1 b2 e1 e2 lA kH t1 t2 g1 g2 s1 s2 o1 o2 l1 l2 ac;rw[Hp.ob_newOb,if_neg (G b1 e1 s1)]at o1;rw[Hp.ob_newOb,if_neg (G b2 e2 s2)]at o2;exact hr.apart b1 b2 e1 e2 lA kH t1 t2 g1 g2 s1 s2 o1 o2 l1 l2 ac
theorem HR.ghostOb{base:Nat}{σ:Sg}{h:Hp}{w:World}(hr:HR base σ h w)(c:Option (LV×TI)):HR base σ (h.newOb (Jx c h.next)) w:=by
 cases c with
 | some ce=>exact hr.ghost ce.1 ce.2
 | none=>exact hr.ghostMap
theorem HR.late{base:Nat}{σ:Sg}{h:Hp}{w w':World}(hr:HR base σ h w){b:Nat}{cs:LV}{t:TI}{c:AV}{el:TI}{fr:Nat×Nat}
  (hb:σ b=none) (ai:b < h.next) (V:h.ob b=some (.cells cs t (some b))) (ae:h.gs.get b=none)
  (hw:WNew w w' (.cells c el fr)) (af:cs.length<=c.size) (ag:∀(i:Nat) v,cs[i]? = some v->∃v',c[i]? = some v'/\VRel σ v v') (aj:∀j,j < c.size->¬(fr.1<=j/\j < fr.2)) :
  HR base (σ.put b ⟨w.heap.size,0,c.size⟩) h w':=by
 have hle:σ.le (σ.put b ⟨w.heap.size,0,c.size⟩):=Sg.put_le hb;have hold:∀k,k < w.heap.size->w'.heap[k]? = w.heap[k]?:=by
  intro k hk;rw[hw.heap,Vs,if_neg (by omega)]
 have E:∀x e,(σ.put b ⟨w.heap.size,0,c.size⟩) x=some e->(x=b/\e=⟨w.heap.size,0,c.size⟩)\/(x≠b/\σ x=some e):=by
  intro x e O;unfold Sg.put at O
  split at O
  ·rename_i hh;left;exact⟨hh,by simpa using O.symm⟩
  ·rename_i hh;right;exact⟨hh,O⟩
 have ah:Oth base (σ.put b ⟨w.heap.size,0,c.size⟩) h w':=by
  refine hr.oth.step hle ?_ ?_ ?_
  ·intro x e o h1 U h3;rcases E x e h1 with ⟨rfl,rfl⟩ | ⟨h4,h5⟩
   ·rw[V]at U;cases U;simp[Ob.isOth]at h3
   ·exact⟨U,h5⟩
  ·intro k o h1 _;rw[hold k (VT.1 h1).1];exact h1
  ·intro x e h1 U;rcases E x e h1 with ⟨rfl,rfl⟩ | ⟨h4,h5⟩
   ·left;exact⟨.cells c el fr,by rw[hw.heap];simp,rfl⟩
   ·rw[h5]at U;simp at U
 refine⟨?_,?_,hr.fresh,?_,hr.grp,?_,hr.stack,?_,?_,ah⟩
 ·rw[hw.heap];simp;have:=hr.base_le;omega
 ·intro x e O;rw[hw.heap];simp;rcases E x e O with ⟨rfl,rfl⟩ | ⟨_,U⟩
  ·exact⟨ai,by simp⟩
  ·have:=hr.dom _ _ U;omega
 ·intro x e ac t' g O G hl;rcases E x e O with ⟨rfl,rfl⟩ | ⟨h1,U⟩
  ·rw[V]at G;cases G;refine⟨⟨c,el,fr,by rw[hw.heap];simp,rfl,by simpa using af,?_,fun _=>aj⟩,hr.base_le⟩;intro i v hv;obtain⟨v',h3,h4⟩:=ag i v hv;exact⟨v',by simpa using h3,h4.mono hle⟩
  ·obtain⟨⟨c0,ak,al,h3,h4,h5,h6,h7⟩,h8⟩:=hr.cell x e ac t' g U G hl;refine⟨⟨c0,ak,al,by rw[hold _ (hr.dom _ _ U).2];exact h3,h4,h5,?_,h7⟩,h8⟩;intro i v hv;obtain⟨v',h9,an⟩:=h6 i v hv;exact⟨v',h9,an.mono hle⟩
 ·intro x e ac t' g O G;rcases E x e O with ⟨rfl,rfl⟩ | ⟨h1,U⟩
  ·rw[V]at G;cases G;exact⟨_,O⟩
  ·obtain⟨e',ao⟩:=hr.gdom x e ac t' g U G;exact⟨e',hle _ _ ao⟩
 ·intro g l hg;refine(hr.nest g l hg).imp_of_mem fun {b1 b2} m1 m2 hp=>?_;intro e1 e2 lA kH t1 t2 g1 g2 s1 s2 o1 o2;have n1:b1≠b:=by
   rintro rfl;obtain⟨_,_,O⟩:=hr.stack g l hg _ m1;rw[V]at O;cases O;rw[ae]at hg;simp at hg
  have n2:b2≠b:=by
   rintro rfl;obtain⟨_,_,O⟩:=hr.stack g l hg _ m2;rw[V]at O;cases O;rw[ae]at hg;simp at hg
  rcases E b1 e1 s1 with ⟨e,_⟩ | ⟨_,aa⟩
  ·exact absurd e n1
  ·rcases E b2 e2 s2 with ⟨e,_⟩ | ⟨_,W⟩
   ·exact absurd e n2
   ·exact hp e1 e2 lA kH t1 t2 g1 g2 aa W o1 o2
 ·intro b1 b2 e1 e2 lA kH t1 t2 g1 g2 s1 s2 o1 o2 l1 l2 ad;rcases E b1 e1 s1 with ⟨rfl,rfl⟩ | ⟨n1,aa⟩
  ·rcases E b2 e2 s2 with ⟨rfl,rfl⟩ | ⟨n2,W⟩
   ·rw[o1]at o2;cases o2;rfl
   ·have:=(hr.dom _ _ W).2;simp at ad;omega
  ·rcases E b2 e2 s2 with ⟨rfl,rfl⟩ | ⟨n2,W⟩
   ·have:=(hr.dom _ _ aa).2;simp at ad;omega
   ·exact hr.apart b1 b2 e1 e2 lA kH t1 t2 g1 g2 aa W o1 o2 l1 l2 ad
theorem HR.lateMap{base:Nat}{σ:Sg}{h:Hp}{w w':World}(hr:HR base σ h w){b:Nat}
  (hb:σ b=none) (ag:b < h.next) (O:h.ob b=some (.map [] 0)) (al:h.gs.get b=none)
  (hw:WNew w w' (.map #[] 0)):HR base (σ.put b ⟨w.heap.size,0,0⟩) h w':=by
 have hle:σ.le (σ.put b ⟨w.heap.size,0,0⟩):=Sg.put_le hb;have hold:∀k,k < w.heap.size->w'.heap[k]? = w.heap[k]?:=by
  intro k hk;rw[hw.heap,Vs,if_neg (by omega)]
 have E:∀x e,(σ.put b ⟨w.heap.size,0,0⟩) x=some e->(x=b/\e=⟨w.heap.size,0,0⟩)\/(x≠b/\σ x=some e):=by
  intro x e V;unfold Sg.put at V
  split at V
  ·rename_i hh;left;exact⟨hh,by simpa using V.symm⟩
  ·rename_i hh;right;exact⟨hh,V⟩
 have af:Oth base (σ.put b ⟨w.heap.size,0,0⟩) h w':=by
  intro x e o h1 W h3;rcases E x e h1 with ⟨rfl,rfl⟩ | ⟨h4,h5⟩
  ·rw[O]at W;cases W;refine⟨hr.base_le,rfl,⟨.map #[] 0,by rw[hw.heap];simp,rfl,.nil⟩,fun b' e' aa U=>?_⟩;rcases E b' e' aa with ⟨rfl,_⟩ | ⟨_,h6⟩
   ·rfl
   ·have:=(hr.dom _ _ h6).2;simp at U;omega
  ·obtain⟨p1,p2,⟨r,p3,p4⟩,p5⟩:=hr.oth x e o h5 W h3;refine⟨p1,p2,⟨r,by rw[hold _ (hr.dom _ _ h5).2];exact p3,p4.mono hle⟩,fun b' e' aa U=>?_⟩;rcases E b' e' aa with ⟨rfl,rfl⟩ | ⟨_,h6⟩
   ·have:=(hr.dom _ _ h5).2;simp at U;omega
   ·exact p5 b' e' h6 U
 refine⟨?_,?_,hr.fresh,?_,hr.grp,?_,hr.stack,?_,?_,af⟩
 ·rw[hw.heap];simp;have:=hr.base_le;omega
 ·intro x e V;rw[hw.heap];simp;rcases E x e V with ⟨rfl,rfl⟩ | ⟨_,W⟩
  ·exact⟨ag,by simp⟩
  ·have:=hr.dom _ _ W;omega
 ·intro x e ac t' g V G hl;rcases E x e V with ⟨rfl,rfl⟩ | ⟨h1,W⟩
  ·rw[O]at G;cases G
  ·obtain⟨⟨c0,ah,ai,h3,h4,h5,h6,h7⟩,h8⟩:=hr.cell x e ac t' g W G hl;refine⟨⟨c0,ah,ai,by rw[hold _ (hr.dom _ _ W).2];exact h3,h4,h5,?_,h7⟩,h8⟩;intro i v hv;obtain⟨v',h9,aj⟩:=h6 i v hv;exact⟨v',h9,aj.mono hle⟩
 ·intro x e ac t' g V G;rcases E x e V with ⟨rfl,rfl⟩ | ⟨h1,W⟩
  ·rw[O]at G;cases G
  ·obtain⟨e',ak⟩:=hr.gdom x e ac t' g W G;exact⟨e',hle _ _ ak⟩
 ·intro g l hg;refine(hr.nest g l hg).imp_of_mem fun {b1 b2} m1 m2 hp=>?_;intro e1 e2 lA kH t1 t2 g1 g2 s1 s2 o1 o2;have n1:b1≠b:=by
   rintro rfl;rw[O]at o1;cases o1
  have n2:b2≠b:=by
   rintro rfl;rw[O]at o2;cases o2
  rcases E b1 e1 s1 with ⟨e,_⟩ | ⟨_,ad⟩
  ·exact absurd e n1
  ·rcases E b2 e2 s2 with ⟨e,_⟩ | ⟨_,ae⟩
   ·exact absurd e n2
   ·exact hp e1 e2 lA kH t1 t2 g1 g2 ad ae o1 o2
 ·intro b1 b2 e1 e2 lA kH t1 t2 g1 g2 s1 s2 o1 o2 l1 l2 U;rcases E b1 e1 s1 with ⟨rfl,rfl⟩ | ⟨n1,ad⟩
  ·rw[O]at o1;cases o1
  ·rcases E b2 e2 s2 with ⟨rfl,rfl⟩ | ⟨n2,ae⟩
   ·rw[O]at o2;cases o2
   ·exact hr.apart b1 b2 e1 e2 lA kH t1 t2 g1 g2 ad ae o1 o2 l1 l2 U
structure PreOk(P:Program)(ops:List Oper)(h0 h:Hp)(pre:List OV)(off:Nat):Prop where
 next:h0.next<=h.next
 old:∀b,b < h0.next->h.ob b=h0.ob b
 gs:h.gs=h0.gs
 is:∀i v,pre.getD i none=some v->∃o ty z id,ops[off+i]? = some o/\o.op = .alloc ty/\zero? P ty=some z/\plainV 100 z=true/\v=ptr id 0/\h0.next<=id/\id < h.next/\
  h.ob id=some (.cells z.cells.toList ty (some id))
 inj:∀i j v,pre.getD i none=some v->pre.getD j none=some v->i=j
 all:∀i o,ops[off+i]? = some o->isAlloc o.op=true->∃v,pre.getD i none=some v
theorem nL{ops:List Oper}:∀(rest:List Oper) (off:Nat) (h0 h:Hp) (pre:List OV),rest=ops.drop off->preAlloc P rest h0=some (pre,h)->
  (∀b,h0.next<=b->h0.ob b=none)->PreOk P ops h0 h pre off
 | [],off,h0,h,pre,hr,hp,hf=>by
  simp[preAlloc]at hp;obtain⟨rfl,rfl⟩:=hp;refine⟨Uf _,fun _ _=>rfl,rfl,by simp,by simp,?_⟩;intro i o hi;have:ops.length<=off:=by simpa using hr.symm
  rw[VI (by omega)]at hi;simp at hi
 | o::rest,off,h0,h,pre,hr,hp,hf=>by
  have ho:ops[off]? = some o:=by
   have:=congrArg (fun l:List Oper=>l[0]?) hr;simp at this;exact this.symm
  have O:rest=ops.drop (off+1):=by
   have:=congrArg List.tail hr;simpa using this
  simp only[preAlloc]at hp
  split at hp
  ·rename_i ty W
   split at hp
   ·rename_i z hz
    split at hp
    ·rename_i aa
     split at hp
     ·rename_i l h' hl
      simp at hp;obtain⟨rfl,rfl⟩:=hp;have E:=nL rest (off+1) _ _ _ O hl (fun b hb=>by
       rw[Hp.next_alloc]at hb;rw[Hp.ob_alloc,if_neg (by omega)];exact hf b (by omega))
      have hn:=E.next;rw[Hp.next_alloc]at hn;refine⟨by omega,?_,by rw[E.gs];rfl,?_,?_,?_⟩
      ·intro b hb;rw[E.old b (by rw[Hp.next_alloc];omega),Hp.ob_alloc,if_neg (by omega)]
      ·intro i v G
       cases i with
       | zero =>
        simp at G;subst G;refine⟨o,ty,z,h0.next,by simpa using ho,W,hz,aa,rfl,Uf _,by omega,?_⟩;rw[E.old _ (by rw[Hp.next_alloc];omega),Hp.ob_alloc,if_pos rfl]
       | succ i =>
        simp at G;obtain⟨o',U,z',id,h1,h2,h3,h4,h5,h6,h7,h8⟩:=E.is i v (by simpa using G);exact⟨o',U,z',id,by rw[show off+(i+1)=off+1+i by omega];exact h1,h2,h3,h4,h5,by rw[Hp.next_alloc]at h6;omega,h7,h8⟩
      ·intro i j v hi V
       cases i with
       | zero =>
        cases j with
        | zero=>rfl
        | succ j =>
         exfalso
         simp at hi V;obtain⟨o',U,z',id,h1,h2,h3,h4,h5,h6,h7,h8⟩:=E.is j v (by simpa using V);rw[<-hi]at h5;simp[ptr]at h5;rw[Hp.next_alloc]at h6;omega
       | succ i =>
        cases j with
        | zero =>
         exfalso
         simp at hi V;obtain⟨o',U,z',id,h1,h2,h3,h4,h5,h6,h7,h8⟩:=E.is i v (by simpa using hi);rw[<-V]at h5;simp[ptr]at h5;rw[Hp.next_alloc]at h6;omega
        | succ j =>
         simp at hi V;have:=E.inj i j v (by simpa using hi) (by simpa using V)
         omega
      ·intro i o' hi ha
       cases i with
       | zero=>exact⟨_,rfl⟩
       | succ i =>
        obtain⟨v,G⟩:=E.all i o' (by rw[show off+1+i=off+(i+1) by omega];exact hi) ha;exact⟨v,by simpa using G⟩
     ·simp at hp
    ·simp at hp
   ·simp at hp
  ·rename_i W
   split at hp
   ·rename_i l h' hl
    simp at hp;obtain⟨rfl,rfl⟩:=hp;have E:=nL rest (off+1) _ _ _ O hl hf;refine⟨E.next,E.old,E.gs,?_,?_,?_⟩
    ·intro i v G
     cases i with
     | zero=>simp at G
     | succ i =>
      simp at G;obtain⟨o',U,z',id,h1,h2⟩:=E.is i v (by simpa using G);exact⟨o',U,z',id,by rw[show off+(i+1)=off+1+i by omega];exact h1,h2⟩
    ·intro i j v hi V
     cases i with
     | zero=>simp at hi
     | succ i =>
      cases j with
      | zero=>simp at V
      | succ j =>
       simp at hi V;have:=E.inj i j v (by simpa using hi) (by simpa using V)
       omega
    ·intro i o' hi ha
     cases i with
     | zero =>
      rw[Vk,ho]at hi;cases hi
      exfalso
      cases hh:o.op <;> simp[hh,isAlloc]at ha
      exact W _ hh
     | succ i =>
      obtain⟨v,G⟩:=E.all i o' (by rw[show off+1+i=off+(i+1) by omega];exact hi) ha;exact⟨v,by simpa using G⟩
   ·simp at hp
theorem HR.preAlloc{base:Nat}{σ:Sg}{w:World}:∀(ops:List Oper) {h h':Hp} {pre:List OV},HR base σ h w->preAlloc P ops h=some (pre,h')->HR base σ h' w
 | [],h,h',pre,hr,hp=>by simp[Cn.preAlloc]at hp;obtain⟨rfl,rfl⟩:=hp;exact hr
 | o::rest,h,h',pre,hr,hp=>by
  simp only[Cn.preAlloc]at hp
  split at hp
  ·split at hp
   ·split at hp
    ·split at hp
     ·rename_i hl;simp at hp;obtain⟨rfl,rfl⟩:=hp;exact HR.preAlloc rest (hr.ghost _ _) hl
     ·simp at hp
    ·simp at hp
   ·simp at hp
  ·split at hp
   ·rename_i hl;simp at hp;obtain⟨rfl,rfl⟩:=hp;exact HR.preAlloc rest hr hl
   ·simp at hp
end
section
variable {P:Program}
theorem Bq(l:LN):∀(s j:Nat),(l.foldl (fun s t=>s ||| 2 ^ t) s).testBit j=(s.testBit j||decide (j∈l)):=by
 induction l with
 | nil=>intro s j;simp
 | cons x l E =>
  intro s j;simp only[Vx,E,Nat.testBit_or,Nat.testBit_two_pow,VM];by_cases h:x=j
  ·subst h;simp
  ·have:¬j=x:=fun e=>h e.symm;simp[h,this]
theorem lY(l:LN)(j:Nat):(bitsOf l).testBit j=decide (j∈l):=by
 unfold bitsOf;simp only[RZ];rw[Bq];simp
theorem Dc{a b:Nat}(h:(a &&& b)=a){j:Nat}(E:a.testBit j=true):b.testBit j=true:=by
 have:=congrArg (fun x:Nat=>x.testBit j) h;simp[Nat.testBit_and,E]at this;exact this
theorem and_zero{a b:Nat}(h:(a &&& b)=0){j:Nat}(E:a.testBit j=true)(hb:b.testBit j=true):False:=by
 have:=congrArg (fun x:Nat=>x.testBit j) h;simp[Nat.testBit_and,E,hb]at this
theorem mF(ops:List Oper):∀(rest:List Oper) (E:List Inf),(iB P ops rest E).length=E.length+rest.length/\
  (∀i,i < E.length->(iB P ops rest E)[i]? = E[i]?)/\
  (∀i o,rest[i]? = some o->(iB P ops rest E)[E.length+i]? = some (rY P ops ((iB P ops rest E).take (E.length+i)) o))
 | [],E=>by simp[iB]
 | o::rest,E=>by
  obtain⟨U,O,V⟩:=mF ops rest (E++[rY P ops E o]);simp only[iB];simp only[Ug,Ux,Vl]at U O V;refine⟨by rw[U,Ux];omega,?_,?_⟩
  ·intro i hi;rw[O i (by omega),VQ hi]
  ·intro i o' hi
   cases i with
   | zero =>
    simp at hi;subst hi;have G:(iB P ops rest (E++[rY P ops E o])).take E.length=E:=by
     apply Vi;intro j;rw[VZ]
     split
     ·rename_i W;rw[O j (by omega),VQ W]
     ·rename_i W;rw[VI (by omega)]
    rw[Vk,G,O _ (by omega),VN (by omega)];simp
   | succ i =>
    simp at hi;have:=V i o' hi;rw[show E.length+(i+1)=E.length+(0+1)+i by omega];exact this
theorem jJ(ops:List Oper):(infos P ops).length=ops.length:=by
 have:=(mF (P:=P) ops ops []).1;simpa[infos]using this
theorem yV{ops:List Oper}{i:Nat}{o:Oper}(h:ops[i]? = some o):(infos P ops)[i]? = some (rY P ops ((infos P ops).take i) o):=by
 have:=(mF (P:=P) ops ops []).2.2 i o h;simpa[infos]using this
def ahead(o:Oper):LN:=(o.after.toList.filter (Region.binds .any)).map (·.on)
theorem FG{ops:List Oper}{D:NP}(hD:∀i o,ops[i]? = some o->D i->∀j∈ahead o,D j):
  ∀(n i:Nat),i < n->∀f o,(infos P ops)[i]? = some f->ops[i]? = some o->(∀j∈ahead o,D j)->∀j,f.am.testBit j=true->D j
 | 0,i,h=>by omega
 | n+1,i,ac=>by
  intro f o hf ho hi j E;have ih:=FG hD n;rw[yV ho]at hf
  cases hf
  simp only[rY]at E;have key:∀(l:List Edge) (s:Nat),(∀e∈l,D e.on)->(∀j,s.testBit j=true->D j)->
    ∀j,(l.foldl (fun s e=>s ||| 2 ^ e.on ||| ((((infos P ops).take i)[e.on]?).map (·.am)).getD 0) s).testBit j=true->D j:=by
   intro l
   induction l with
   | nil=>intro s _ U j E;exact U j E
   | cons e l V =>
    intro s W U j E;simp only[Vx]at E;refine V _ (fun e' aa=>W e' (by simp[aa])) ?_ j E;intro j E;simp only[Nat.testBit_or,Nat.testBit_two_pow,Vh,decide_eq_true_eq]at E;rcases E with (E | E) | E
    ·exact U j E
    ·rw[<-E];exact W e (by simp)
    ·rw[VZ]at E
     split at E
     ·rename_i ad
      cases G:(infos P ops)[e.on]? with
      | none=>simp[G]at E
      | some fe =>
       simp[G]at E;have hlen:e.on < ops.length:=by rw[<-jJ (P:=P)];exact(Us.1 G).1
       have O:=Uh hlen;refine ih e.on (by omega) fe _ G O ?_ j E;exact hD e.on _ O (W e (by simp))
     ·simp at E
  refine key _ 0 ?_ (by simp) j E;intro e he;exact hi _ (Uu.2 ⟨e,he,rfl⟩)
structure StepOk(P:Program)(ops:List Oper)(done:LN)(i:Nat)(o:Oper)(f:Inf):Prop where
 op:ops[i]? = some o
 inf:(infos P ops)[i]? = some f
 new:i∉done
 ahead:∀j∈ahead o,j∈done
 effs:∀j∈done,∀oj,ops[j]? = some oj->isEff P oj.op=true->f.am.testBit j=true
 clash:∀j∈done,∀g,(infos P ops)[j]? = some g->clash g f=true->f.am.testBit j=true
structure Ord(P:Program)(ops:List Oper)(rest done:LN)(doneM effs:Nat):Prop where
 ok:orderOk (infos P ops) rest done doneM effs=true
 doneM:∀j,doneM.testBit j=decide (j∈done)
 effs:∀j,effs.testBit j=true↔j∈done/\∃o,ops[j]? = some o/\isEff P o.op=true
theorem Ord.step{ops:List Oper}{i:Nat}{rest done:LN}{doneM effs:Nat}(h:Ord P ops (i::rest) done doneM effs):
  ∃o f,StepOk P ops done i o f/\Ord P ops rest (i::done) (doneM ||| 2 ^ i) (if f.eff then effs ||| 2 ^ i else effs)/\f.eff=isEff P o.op:=by
 have O:=h.ok;simp only[orderOk]at O
 cases hf:(infos P ops)[i]? with
 | none=>simp[hf]at O
 | some f =>
  simp only[hf,Uw,beq_iff_eq,VL]at O;obtain⟨⟨⟨⟨h1,h2⟩,h3⟩,h4⟩,h5⟩:=O;have hlen:i < ops.length:=by rw[<-jJ (P:=P)];exact(Us.1 hf).1
  have ho:=Uh hlen;have ac:=yV (P:=P) ho;rw[hf]at ac;have W:f=rY P ops ((infos P ops).take i) ops[i]:=by simpa using ac
  have G:f.eff=isEff P ops[i].op:=by rw[W];rfl
  refine⟨ops[i],f,⟨ho,hf,?_,?_,?_,?_⟩,⟨h5,?_,?_⟩,G⟩
  ·have:=h.doneM i;rw[h1]at this;simpa using this.symm
  ·intro j U;have ad:f.em.testBit j=true:=by
    rw[W];simp only[rY];rw[lY];simpa[Cn.ahead]using U
   have:=Dc h2 ad;rw[h.doneM]at this;simpa using this
  ·intro j U oj ae he;have:effs.testBit j=true:=(h.effs j).2 ⟨U,oj,ae,he⟩;exact Dc h3 this
  ·intro j U g hg hc;have:=VK.1 h4 j U;simp only[hg,Vh,VL]at this;rcases this with hh | hh
   ·rw[hc]at hh;simp at hh
   ·exact hh
  ·intro j;rw[Nat.testBit_or,Nat.testBit_two_pow,h.doneM];by_cases U:i=j
   ·subst U;simp
   ·have:¬j=i:=fun e=>U e.symm;simp[U,this]
  ·intro j
   cases he:f.eff with
   | true =>
    simp only[if_true,Nat.testBit_or,Nat.testBit_two_pow,Vh,decide_eq_true_eq,h.effs]
    constructor
    ·rintro(⟨E,V⟩ | rfl)
     ·exact⟨by simp[E],V⟩
     ·exact⟨by simp,_,ho,by rw[<-G,he]⟩
    ·rintro⟨E,V⟩;simp at E;rcases E with rfl | E
     ·right;rfl
     ·left;exact⟨E,V⟩
   | false =>
    simp only[VA,if_false,h.effs]
    constructor
    ·rintro⟨E,V⟩;exact⟨by simp[E],V⟩
    ·rintro⟨E,o',aa,V⟩;simp at E;rcases E with rfl | E
     ·rw[ho]at aa;cases aa;rw[<-G,he]at V;simp at V
     ·exact⟨E,o',aa,V⟩
theorem Ord.cover{ops:List Oper}:∀{rest done:LN} {doneM effs:Nat},Ord P ops rest done doneM effs->∀i,i < ops.length->i∈done\/i∈rest
 | [],done,doneM,effs,h,i,hi=>by
  left
  have G:=h.ok;simp only[orderOk,beq_iff_eq,jJ]at G;have:=h.doneM i;rw[G,Nat.testBit_two_pow_sub_one]at this;simpa[hi]using this.symm
 | j::rest,done,doneM,effs,h,i,hi=>by
  obtain⟨o,f,_,O,_⟩:=h.step;rcases O.cover i hi with E | E
  ·simp at E;rcases E with rfl | E
   ·right;simp
   ·left;exact E
  ·right;simp[E]
end
section
variable {P:Program}
structure Ent where
 idx:Nat
 o:Oper
 v:Value
def tmOf(eC:LV):List Ent->LV
 | []=>eC
 | e::es=>put (tmOf eC es) e.o.dst e.v
def lookD(eC:LV)(p:Nat->Bool)(t:Tmp):List Ent->Value
 | []=>eC.getD t undef
 | e::es=>if p e.idx=true/\e.o.dst=some t/\t < eC.length then e.v else lookD eC p t es
theorem sI(tm:LV)(d:Option Tmp)(v:Value):(put tm d v).length=tm.length:=by cases d <;> simp[Cn.put]
theorem kM(eC:LV):∀es,(tmOf eC es).length=eC.length
 | []=>rfl
 | e::es=>by simp only[tmOf];rw[sI,kM eC es]
theorem tI(tm:LV)(d:Option Tmp)(v:Value)(t:Tmp):(put tm d v).getD t undef=if d=some t/\t < tm.length then v else tm.getD t undef:=by
 cases d with
 | none=>simp[Cn.put]
 | some d =>
  simp only[Cn.put,Um];by_cases E:d=t
  ·subst E;by_cases hl:d < tm.length
   ·rw[if_pos ⟨rfl,hl⟩,Uz,List.getElem?_set_self hl];rfl
   ·rw[if_neg (fun h=>hl h.2),List.set_eq_of_length_le (WE hl)]
  ·rw[if_neg (fun h=>E h.1),Uz,Wq E,Uz]
theorem sZ(eC:LV)(t:Tmp):∀es,(tmOf eC es).getD t undef=lookD eC (fun _=>true) t es
 | []=>rfl
 | e::es=>by
  simp only[tmOf,lookD,tI,kM,sZ eC t es,true_and]
def Chain(P:Program)(L:List Oper):List Ent->Prop
 | []=>True
 | e::es=>(∃f,StepOk P L (es.map (·.idx)) e.idx e.o f)/\Chain P L es
theorem Chain.mem{L:List Oper}:∀{es:List Ent},Chain P L es->∀e∈es,L[e.idx]? = some e.o
 | [],_,e,h=>by simp at h
 | x::es,h,e,he=>by
  simp at he;rcases he with rfl | he
  ·obtain⟨⟨f,E⟩,_⟩:=h;exact E.op
  ·exact Chain.mem h.2 e he
theorem vE{L:List Oper}{i:Nat}{o:Oper}{f:Inf}(G:L[i]? = some o)(E:(infos P L)[i]? = some f):
  (∀t,f.dm.testBit t=decide (o.dst=some t))/\(∀t,f.lm.testBit t=decide (t∈Oper.looksAt L.toArray o)):=by
 rw[yV G]at E
 cases E
 refine⟨fun t=>?_,fun t=>?_⟩
 ·simp only[rY,lY]
  cases o.dst with
  | none=>simp
  | some d=>simp[eq_comm]
 ·simp only[rY,lY]
theorem NX{f g:Inf}{t:Nat}(E:f.dm.testBit t=true)(G:g.lm.testBit t=true):clash f g=true:=by
 unfold clash;simp only[Vh,VL]
 left
 rw[beq_eq_false_iff_ne];intro h;exact and_zero h E (by simp[Nat.testBit_or,G])
theorem NY{f g:Inf}{t:Nat}(E:f.lm.testBit t=true)(G:g.dm.testBit t=true):clash f g=true:=by
 unfold clash;simp only[Vh,VL]
 right
 rw[beq_eq_false_iff_ne];intro h;exact and_zero h G E
theorem NW{f g:Inf}{t:Nat}(E:f.dm.testBit t=true)(G:g.dm.testBit t=true):clash f g=true:=by
 unfold clash;simp only[Vh,VL]
 left
 rw[beq_eq_false_iff_ne];intro h;exact and_zero h E (by simp[Nat.testBit_or,G])
def Closed(L:List Oper)(eZ:Nat->Bool):Prop:=∀i o,L[i]? = some o->eZ i=true->∀j∈ahead o,eZ j=true
theorem Closed.am{L:List Oper}{eZ:Nat->Bool}(E:Closed L eZ){i:Nat}{o:Oper}{f:Inf}(G:L[i]? = some o)(O:(infos P L)[i]? = some f)(U:∀j∈ahead o,eZ j=true){j:Nat}(V:f.am.testBit j=true):eZ j=true :=
 FG (P:=P) (D:=fun i=>eZ i=true) E (i+1) i (Nat.lt_succ_self i) f o O G U j V
theorem tS{L:List Oper}{eZ:Nat->Bool}(G:Closed L eZ){done:LN}{i j:Nat}{o oj:Oper}{f g:Inf}(hs:StepOk P L done i o f)(O:j∈done)(U:(infos P L)[j]? = some g)
  (E:clash g f=true) (hl:eZ i=true):eZ j=true :=
 G.am hs.op hs.inf (G i o hs.op hl) (hs.clash j O g U E)
theorem uZ{L:List Oper}{eZ:Nat->Bool}(hc:Closed L eZ){eC:LV}{t:Tmp}{i:Nat}{o:Oper}{f:Inf}(U:L[i]? = some o)(V:(infos P L)[i]? = some f)(ha:∀j∈ahead o,eZ j=true)
  (ht:t∈Oper.looksAt L.toArray o):∀{es:List Ent},Chain P L es->(∀e∈es,∀g,(infos P L)[e.idx]? = some g->clash g f=true->f.am.testBit e.idx=true)->
  lookD eC eZ t es=lookD eC (fun _=>true) t es
 | [],_,_=>rfl
 | e::es,G,O=>by
  have ih:=uZ hc (eC:=eC) U V ha ht G.2 (fun e' W=>O e' (by simp[W]));simp only[lookD,ih,true_and];by_cases hd:e.o.dst=some t
  ·obtain⟨⟨fe,E⟩,_⟩:=G;have h1:=((vE E.op E.inf).1 t);have h2:=((vE U V).2 t);rw[hd]at h1;simp at h1;simp[ht]at h2;have hb:=O e (by simp) fe E.inf (NX h1 h2);have hl:=hc.am U V ha hb;simp[hl]
  ·simp[hd]
theorem EM{L:List Oper}{eZ:Nat->Bool}(hc:Closed L eZ){eC:LV}{t:Tmp}{e:Ent}(hl:eZ e.idx=false)(ha:∀j∈ahead e.o,eZ j=true)(ht:t∈Oper.looksAt L.toArray e.o):
  ∀{cM:List Ent},Chain P L cM->∀{pre es:List Ent},cM=pre++e::es->lookD eC eZ t cM=lookD eC (fun _=>true) t es
 | [],_,pre,es,h=>by simp at h
 | x::cM,O,pre,es,h=>by
  cases pre with
  | nil =>
   simp at h;obtain⟨rfl,rfl⟩:=h;obtain⟨⟨f,hs⟩,E⟩:=O;simp only[lookD,hl,VA,false_and,if_false];exact uZ hc hs.op hs.inf ha ht E (fun e' aa g W ac=>hs.clash e'.idx (Uu.2 ⟨e',aa,rfl⟩) g W ac)
  | cons y pre =>
   simp at h;obtain⟨rfl,rfl⟩:=h;obtain⟨⟨f,hs⟩,E⟩:=O;have ih:=EM hc (eC:=eC) hl ha ht E rfl;simp only[lookD];rw[ih,if_neg ?_];rintro⟨h1,h2,h3⟩;have U:e∈pre++e::es:=by simp
   have V:=E.mem e U;have hlen:e.idx < (infos P L).length:=by rw[jJ];exact(Us.1 V).1
   have W:=Uh hlen;have G:=((vE hs.op hs.inf).1 t);rw[h2]at G;simp at G;have hle:=((vE V W).2 t);simp[ht]at hle;have:=tS hc (oj:=e.o) hs (Uu.2 ⟨e,U,rfl⟩) W (NY hle G) h1;rw[hl]at this;simp at this
theorem mW{eC:LV}{p q:Nat->Bool}{t:Tmp}:∀{es:List Ent},(∀e∈es,p e.idx=q e.idx)->lookD eC p t es=lookD eC q t es
 | [],_=>rfl
 | e::es,h=>by simp only[lookD,h e (by simp),mW (es:=es) fun e' E=>h e' (by simp[E])]
theorem EL{L:List Oper}{eZ gS:Nat->Bool}(hc:Closed L eZ){eC:LV}{t:Tmp}{e:Ent}(hl:eZ e.idx=false)(aa:gS e.idx=true)(G:∀i,i≠e.idx->gS i=eZ i):
  ∀{cM:List Ent},Chain P L cM->e∈cM->lookD eC gS t cM=if e.o.dst=some t/\t < eC.length then e.v else lookD eC eZ t cM
 | [],_,h=>by simp at h
 | x::cM,ae,h=>by
  obtain⟨⟨f,hs⟩,E⟩:=ae;simp at h;by_cases O:x.idx=e.idx
  ·have ac:x=e:=by
    rcases h with h | h
    ·exact h.symm
    ·exfalso;exact hs.new (by rw[O];exact Uu.2 ⟨e,h,rfl⟩)
   subst ac;have U:lookD eC gS t cM=lookD eC eZ t cM:=mW fun e' af=>G _ fun heq=>hs.new (by rw[<-heq];exact Uu.2 ⟨e',af,rfl⟩);simp only[lookD,hl,aa,true_and,VA,false_and,if_false,U]
  ·have he:e∈cM:=by rcases h with h | h;exact absurd (by rw[h]) O;exact h
   have ih:=EL hc (eC:=eC) (t:=t) hl aa G E he;simp only[lookD,G _ O,ih];by_cases hx:eZ x.idx=true/\x.o.dst=some t/\t < eC.length
   ·simp only[hx,and_self,if_true];rw[if_neg];rintro⟨h1,h2⟩;have ad:=E.mem e he;have hlen:e.idx < (infos P L).length:=by rw[jJ];exact(Us.1 ad).1
    have hg:=Uh hlen;have V:=((vE hs.op hs.inf).1 t);rw[hx.2.1]at V;simp at V;have W:=((vE ad hg).1 t);rw[h1]at W;simp at W;have:=tS hc (oj:=e.o) hs (Uu.2 ⟨e,he,rfl⟩) hg (NW W V) hx.1;rw[hl]at this;simp at this
   ·simp only[hx,if_false]
def mD(looks:List Tmp)(tm:LV):LV:=(List.range tm.length).map fun t=>if looks.contains t then tm.getD t undef else unk
theorem sN(E:List Tmp)(tm:LV)(t:Tmp):(mD E tm).getD t undef=if t < tm.length then(if E.contains t then tm.getD t undef else unk) else undef:=by
 unfold mD;rw[Uz,VB];by_cases h:t < tm.length
 ·rw[List.getElem?_range h,if_pos h];rfl
 ·rw[VI (by simpa using h),if_neg h];rfl
theorem yM{σ:Sg}{E:List Tmp}{tm:LV}{tmps:AV}(hs:tm.length=tmps.size)(h:∀t∈E,VRel σ (tm.getD t undef) (tmps.getD t undef)):eM σ (mD E tm) tmps:=by
 refine⟨by simp[mD,hs],fun t=>?_⟩;rw[sN];by_cases hl:t < tm.length
 ·rw[if_pos hl]
  split
  ·rename_i G;exact h t (by simpa using G)
  ·exact .unk _
 ·rw[if_neg hl,VW,Array.getElem?_eq_none (by rw[<-hs];exact WE hl)];exact VRel.undef σ
theorem iA{L:Array Oper}{o:Oper}{tm:LV}:mP tm (mD (Oper.looksAt L o) tm) o.op:=by
 intro x E
 cases x with
 | tmp t =>
  have hm:t∈Oper.looksAt L o:=by
   unfold Oper.looksAt;refine VF.2 (.inl (List.mem_filterMap.2 ⟨.tmp t,E,rfl⟩))
  simp only[ev];rw[sN];by_cases hl:t < tm.length
  ·rw[if_pos hl,if_pos (by simpa using hm)]
  ·rw[if_neg hl,Uz,VI (WE hl)];rfl
 | _=>rfl
theorem tN{L:List Oper}{o:Oper}{tm:LV}:wants L (mD (Oper.looksAt L.toArray o) tm) o=wants L tm o:=by
 unfold wants
 cases E:o.guard with
 | none=>rfl
 | some G =>
  obtain⟨j,want⟩:=G;simp only
  cases O:(L[j]?).bind (·.dst) with
  | none=>rfl
  | some d =>
   simp only;have hm:d∈Oper.looksAt L.toArray o:=by
    unfold Oper.looksAt;refine VF.2 (.inr ?_);rw[E];simp only;have:(L.toArray[j]?).bind (·.dst)=some d:=by simpa using O
    rw[this];simp
   rw[sN];by_cases hl:d < tm.length
   ·rw[if_pos hl,if_pos (by simpa using hm)]
   ·rw[if_neg hl,Uz,VI (WE hl)];rfl
theorem Dz{am:Nat}{h:Hp}{bF:List Owed}{r:Prop}(hp:eY P alP am h bF r):r/\∀d∈bF,am.testBit d.idx=true\/rop P d.tm d.op h=some d.v:=by
 induction bF with
 | nil=>exact⟨hp,by simp⟩
 | cons d bF U =>
  unfold eY at hp;simp only[Vv]at hp;by_cases hb:am.testBit d.idx=true
  ·rw[if_pos hb]at hp;obtain⟨G,O⟩:=U hp;exact⟨G,fun x E=>by simp at E;rcases E with rfl | E;exact .inl hb;exact O x E⟩
  ·rw[if_neg hb]at hp;obtain⟨h0,hp⟩:=hp;obtain⟨G,O⟩:=U hp;exact⟨G,fun x E=>by simp at E;rcases E with rfl | E;exact .inr h0;exact O x E⟩
end
section
variable {P:Program}
theorem oQ{h:Hp}(G:h.ob h.next=none){b:Nat}{o:Ob}(E:h.ob b=some o):b≠h.next:=by rintro rfl;rw[G]at E;simp at E
theorem nN{h:Hp}(O:h.ob h.next=none){b o n:Nat}{x:LV}(o':Ob)(G:h.cellsAt b o n=some x):(h.newOb o').cellsAt b o n=some x:=by
 unfold Hp.cellsAt at G ⊢;rw[Hp.ob_newOb]
 split at G
 ·rename_i c U g E
  rw[if_neg (oQ O E),E];exact G
 ·simp at G
theorem wB{h:Hp}(G:h.ob h.next=none){m:Value}{x:List MapEntry}(o':Ob)(hm:mapOf h m=some x):mapOf (h.newOb o') m=some x:=by
 unfold mapOf at hm ⊢
 split at hm
 ·exact hm
 ·split at hm
  ·rename_i b _ es c E
   simp only[Hp.ob_newOb,if_neg (oQ G E),E];exact hm
  ·simp at hm
 ·simp at hm
theorem Er{h:Hp}(U:h.ob h.next=none){t:TI}{a v:Value}(o':Ob)(E:nB P t a h=some v):nB P t a (h.newOb o')=some v:=by
 unfold nB at E;unfold nB
 split at E
 ·split at E
  ·rename_i G O
   try simp only[G,O]
   simp only[VD]at E ⊢;obtain⟨c,V,rfl⟩:=E;exact⟨c,nN U _ V,rfl⟩
  ·rename_i G O
   try simp only[G,O]
   split at E
   ·rename_i x W;rw[nN U _ W];exact E
   ·simp at E
  ·simp at E
 ·simp at E
theorem AZ{h:Hp}(G:h.ob h.next=none){t:TI}{x ix v:Value}{ok:Bool}(o':Ob)(E:dY P t x ix ok h=some v):dY P t x ix ok (h.newOb o')=some v:=by
 unfold dY at E;unfold dY
 split at E
 ·rename_i kt et hu
  try simp only[hu]
  split at E
  ·simp at E
  ·rename_i O
   rw[if_neg O]
   split at E
   ·simp at E
   ·rename_i es hm
    rw[wB G _ hm];exact E
 ·simp at E
theorem Cl{h:Hp}(U:h.ob h.next=none){x v:Value}(o':Ob)(E:jV x h=some v):jV x (h.newOb o')=some v:=by
 unfold jV at E;unfold jV
 split at E
 ·split at E
  ·rename_i m s0 seen st G
   rw[Hp.ob_newOb,if_neg (oQ U G),G]
   try simp only
   split at E
   ·rename_i O es clock hs hm
    rw[Hp.ob_newOb,if_neg (oQ U hm),hm,hs];exact E
   ·simp at E
  ·simp at E
 ·simp at E
theorem Jq{h:Hp}(G:h.ob h.next=none){tm:LV}{op:Op}{v:Value}(o':Ob)(E:rop P tm op h=some v):rop P tm op (h.newOb o')=some v:=by
 unfold rop at E ⊢
 split at E
 ·exact Er G _ E
 ·exact AZ G _ E
 ·exact Cl G _ E
 ·split at E
  ·rename_i hl
   simp only[hl,if_true]
   split at E
   ·rename_i e
    try rw[e]
    simp only[VD]at E ⊢;obtain⟨es,hm,rfl⟩:=E;exact⟨es,wB G _ hm,rfl⟩
   ·simp at E
  ·simp at E
 ·split at E
  ·rename_i O U V;try simp only[O,U,V]
   exact E
  ·rename_i O U V
   try simp only[O,U,V]
   split at E
   ·rename_i W
    try simp only[W]
    split at E
    ·rename_i hc;rw[nN G _ hc];exact E
    ·simp at E
   ·simp at E
  ·simp at E
 ·simp at E
structure Gh where
 idx:Nat
 id:Nat
 c:Option (LV×TI)
structure EntOk(P:Program)(L:List Oper)(pre:List OV)(bF:List Owed)(gh:List Gh)(h:Hp)(e:Ent)(tm:LV):Prop where
 noEff:isEff P e.o.op=false
 want:∃b,wants L tm e.o=some b/\(b=false->e.v=undef)/\(b=true->
  pre.getD e.idx none=some e.v\/(pre.getD e.idx none=none/\kind P e.o.op = .pure/\pop P tm e.o.op=some e.v)\/
   (pre.getD e.idx none=none/\kind P e.o.op = .read/\rop P tm e.o.op h=some e.v/\⟨e.idx,e.o.op,tm,e.v⟩∈bF)\/
   (pre.getD e.idx none=none/\kind P e.o.op = .mk/\∃m id,mkOf P tm e.o.op=some m/\e.v=m.2 id/\(⟨e.idx,id,m.1⟩:Gh)∈gh))
def EntsOk(P:Program)(L:List Oper)(pre:List OV)(bF:List Owed)(gh:List Gh)(h:Hp)(eZ:Nat->Bool)(eC:LV):List Ent->Prop
 | []=>True
 | e::es=>(eZ e.idx=false->EntOk P L pre bF gh h e (tmOf eC es))/\EntsOk P L pre bF gh h eZ eC es
theorem EntsOk.mem{L:List Oper}{pre:List OV}{bF:List Owed}{gh:List Gh}{h:Hp}{eZ:Nat->Bool}{eC:LV}:∀{cM:List Ent},EntsOk P L pre bF gh h eZ eC cM->∀{E es:List Ent} {e:Ent},cM=E++e::es->eZ e.idx=false->
  EntOk P L pre bF gh h e (tmOf eC es)
 | [],_,E,es,e,he,_=>by simp at he
 | x::cM,G,E,es,e,he,hl=>by
  cases E with
  | nil=>simp at he;obtain⟨rfl,rfl⟩:=he;exact G.1 hl
  | cons y E=>simp at he;exact EntsOk.mem G.2 he.2 hl
theorem EntsOk.imp{L:List Oper}{pre:List OV}{bF iU:List Owed}{gh E:List Gh}{h h':Hp}{eZ gS:Nat->Bool}{eC:LV}:∀{cM:List Ent},EntsOk P L pre bF gh h eZ eC cM->
  (∀e∈cM,∀tm,gS e.idx=false->eZ e.idx=false/\(EntOk P L pre bF gh h e tm->EntOk P L pre iU E h' e tm))->EntsOk P L pre iU E h' gS eC cM
 | [],_,_=>trivial
 | e::es,G,hi=>⟨fun hl=>(hi e (by simp) _ hl).2 (G.1 (hi e (by simp) (tmOf eC es) hl).1),EntsOk.imp G.2 fun e' O=>hi e' (by simp[O])⟩
def GhOk(gh:List Gh)(h0 h:Hp)(eZ:Nat->Bool)(σ:Sg):Prop:=∀g∈gh,eZ g.idx=false->h0.next<=g.id/\g.id < h.next/\σ g.id=none/\h.ob g.id=some (Jx g.c g.id)/\h.gs.get g.id=none
structure GhOwn(gh:List Gh)(pre:List OV)(h:Hp)(cM:List Ent):Prop where
 one:∀a∈gh,∀b∈gh,a.id=b.id->a.idx=b.idx
 lt:∀a∈gh,a.id < h.next
 prn:∀a∈gh,∀i v,pre.getD i none=some v->v≠ptr a.id 0
 plt:∀i v,pre.getD i none=some v->∃id,v=ptr id 0/\id < h.next
 mem:∀a∈gh,∃e∈cM,e.idx=a.idx
structure DI(P:Program)(L:List Oper)(pre:List OV)(base:Nat)(wY:Sg)(h0:Hp)(w0:World)(eC:LV)(K:LV->Hp->Prop)
  (eZ:Nat->Bool) (σ:Sg) (h:Hp) (w:World) (tmps:AV) (cM:List Ent) (rest:LN) (doneM effs:Nat) (bF:List Owed) (gh:List Gh):Prop where
 closed:Closed L eZ
 hr:HR base σ h w
 ext:Ext base wY h0 w0 σ h w
 ord:Ord P L rest (cM.map (·.idx)) doneM effs
 chain:Chain P L cM
 effl:∀e∈cM,isEff P e.o.op=true->eZ e.idx=true
 unl:∀i∈rest,eZ i=false
 ents:EntsOk P L pre bF gh h eZ eC cM
 ghs:GhOk gh h0 h eZ σ
 gho:GhOwn gh pre h cM
 pres:∀i v,pre.getD i none=some v->eZ i=false->∃o ty z id,L[i]? = some o/\o.op = .alloc ty/\zero? P ty=some z/\plainV 100 z=true/\v=ptr id 0/\h0.next<=id/\id < h.next/\σ id=none/\
  h.ob id=some (.cells z.cells.toList ty (some id))/\h.gs.get id=none
 inj:∀i j v,pre.getD i none=some v->pre.getD j none=some v->i=j
 all:∀i o,L[i]? = some o->isAlloc o.op=true->∃v,pre.getD i none=some v
 len:eC.length=tmps.size
 rel:∀t,VRel σ (lookD eC eZ t cM) (tmps.getD t undef)
 form:xDraw P alP (SCalls P) L (infos P L) pre rest (tmOf eC cM) bF h K
def Qj(P:Program)(L:List Oper)(rest:LN):Prop:=rest=[]\/∃j rest' o,rest=j::rest'/\L[j]? = some o/\isEff P o.op=true
section
variable {L:List Oper} {pre:List OV} {base:Nat} {wY:Sg} {h0:Hp} {w0:World} {eC:LV} {K:LV->Hp->Prop} {eZ:Nat->Bool} {σ:Sg} {h:Hp} {w:World} {tmps:AV}
theorem DI.one{cM:List Ent}{i:Nat}{rest:LN}{doneM effs:Nat}{bF:List Owed}{gh:List Gh}(d:DI P L pre base wY h0 w0 eC K eZ σ h w tmps cM (i::rest) doneM effs bF gh)
  {o:Oper} (ho:L[i]? = some o) (he:isEff P o.op=false):∃e V aa iU ag h',DI P L pre base wY h0 w0 eC K eZ σ h' w tmps (e::cM) rest V aa iU ag:=by
 obtain⟨o',f,hs,ae,au⟩:=d.ord.step;have ap:o'=o:=by have:=hs.op;rw[ho]at this;simpa using this.symm
 subst ap;have aj:eZ i=false:=d.unl i (by simp);have E:=d.form;simp only[xDraw,ho,hs.inf]at E;have af:kind P o'.op = .call\/kind P o'.op = .alt->False:=by
  intro U;have ah:isAlloc o'.op=true:=by rcases U with U | U <;> simpa[isEff,U]using he
  cases ak:o'.op <;> simp[ak,isAlloc]at ah
  rcases U with U | U <;> simp[ak,kind]at U
 have mk:∀(v:Value) (iU:List Owed),EntOk P L pre iU gh h ⟨i,o',v⟩ (tmOf eC cM)->(∀x,x∈bF->x∈iU)->
   xDraw P alP (SCalls P) L (infos P L) pre rest (put (tmOf eC cM) o'.dst v) iU h K->
   ∃e V aa iU ag h',DI P L pre base wY h0 w0 eC K eZ σ h' w tmps (e::cM) rest V aa iU ag:=by
  intro v iU al an hf;refine⟨⟨i,o',v⟩,_,_,iU,gh,h,⟨d.closed,d.hr,d.ext,ae,⟨⟨f,hs⟩,d.chain⟩,?_,fun j hj=>d.unl j (by simp[hj]),⟨fun _=>al,?_⟩,d.ghs,
   ⟨d.gho.one,d.gho.lt,d.gho.prn,d.gho.plt,fun a ha=>by obtain⟨e,h1,h2⟩:=d.gho.mem a ha;exact⟨e,by simp[h1],h2⟩⟩,d.pres,d.inj,d.all,d.len,?_,hf⟩⟩
  ·intro e G W;simp at G;rcases G with rfl | G
   ·simp only at W;rw[he]at W;simp at W
   ·exact d.effl e G W
  ·refine d.ents.imp fun e G tm hl=>⟨hl,fun ad=>⟨ad.noEff,?_⟩⟩;obtain⟨b,h1,h2,h3⟩:=ad.want;refine⟨b,h1,h2,fun hb=>?_⟩;rcases h3 hb with h4 | h4 | ⟨h4,h5,h6,h7⟩ | h4
   ·exact .inl h4
   ·exact .inr (.inl h4)
   ·exact .inr (.inr (.inl ⟨h4,h5,h6,an _ h7⟩))
   ·exact .inr (.inr (.inr h4))
  ·intro t;simp only[lookD,aj,VA,false_and,if_false];exact d.rel t
 cases hw:wants L (tmOf eC cM) o' with
 | none=>simp[hw,alP]at E
 | some b =>
  simp only[hw]at E
  cases O:pre.getD i none with
  | some v =>
   simp only[O]at E;refine mk _ bF ⟨he,b,hw,fun hb=>?_,fun hb=>?_⟩ (fun _ h=>h) E
   ·simp[hb]
   ·left;simp only[hb,if_true];exact O
  | none =>
   simp only[O]at E
   split at E
   ·rename_i U
    cases b with
    | false =>
     simp[opt]at E;exact mk undef bF ⟨he,false,hw,fun _=>rfl,fun hb=>by simp at hb⟩ (fun _ h=>h) E
    | true =>
     simp only[if_true]at E
     cases hp:pop P (tmOf eC cM) o'.op with
     | none=>simp[hp,opt,alP]at E
     | some v =>
      simp only[hp,opt]at E;exact mk v bF ⟨he,true,hw,fun hb=>by simp at hb,fun _=>.inr (.inl ⟨O,U,hp⟩)⟩ (fun _ h=>h) E
   ·rename_i U
    cases b with
    | false =>
     simp[opt]at E;exact mk undef bF ⟨he,false,hw,fun _=>rfl,fun hb=>by simp at hb⟩ (fun _ h=>h) E
    | true =>
     simp only[if_true]at E
     cases hp:rop P (tmOf eC cM) o'.op h with
     | none=>simp[hp,opt,alP]at E
     | some v =>
      simp only[hp,opt]at E;exact mk v _ ⟨he,true,hw,fun hb=>by simp at hb,fun _=>.inr (.inr (.inl ⟨O,U,hp,by simp⟩))⟩ (fun _ h=>by simp[h]) E
   ·rename_i U
    exfalso
    have ah:isAlloc o'.op=true:=by simpa[isEff,U]using he
    obtain⟨v,hv⟩:=d.all i o' ho ah;rw[O]at hv;simp at hv
   ·rename_i U;exact(af (.inl U)).elim
   ·rename_i U;exact(af (.inr U)).elim
   ·rename_i U
    cases b with
    | false =>
     simp[opt]at E;exact mk undef bF ⟨he,false,hw,fun _=>rfl,fun hb=>by simp at hb⟩ (fun _ h=>h) E
    | true =>
     simp only[if_true]at E
     cases hm:mkOf P (tmOf eC cM) o'.op with
     | none=>simp[tM,hm,opt,alP]at E
     | some m =>
      simp only[tM,hm,Uv,opt]at E;have ao:=d.hr.fresh h.next (Uf _);have ac:(h.newOb (Jx m.1 h.next)).next=h.next+1:=rfl;have hold:∀b,b < h.next->(h.newOb (Jx m.1 h.next)).ob b=h.ob b:=fun b hb=>by rw[Hp.ob_newOb,if_neg (by omega)]
      have hle:=d.ext.next;refine⟨⟨i,o',m.2 h.next⟩,_,_,bF,⟨i,h.next,m.1⟩::gh,h.newOb (Jx m.1 h.next),⟨d.closed,d.hr.ghostOb _,?_,ae,⟨⟨f,hs⟩,d.chain⟩,?_,fun j hj=>d.unl j (by simp[hj]),⟨fun _=>?_,?_⟩,?_,?_,?_,d.inj,d.all,d.len,?_,E⟩⟩
      ·exact⟨d.ext.le,d.ext.os,d.ext.tape,d.ext.output,d.ext.size,d.ext.below,d.ext.other,d.ext.img,by rw[ac];omega,fun b hb aq=>by
        obtain⟨q1,q2,q3⟩:=d.ext.untouched b hb aq;exact⟨by rw[hold b (by omega)];exact q1,q2,q3⟩⟩
      ·intro e G W;simp at G;rcases G with rfl | G
       ·simp only at W;rw[he]at W;simp at W
       ·exact d.effl e G W
      ·exact⟨he,true,hw,fun hb=>by simp at hb,fun _=>.inr (.inr (.inr ⟨O,U,m,h.next,hm,rfl,by simp⟩))⟩
      ·refine d.ents.imp fun e G tm hl=>⟨hl,fun ad=>⟨ad.noEff,?_⟩⟩;obtain⟨b,h1,h2,h3⟩:=ad.want;refine⟨b,h1,h2,fun hb=>?_⟩;rcases h3 hb with h4 | h4 | ⟨h4,h5,h6,h7⟩ | ⟨h4,h5,m',id,h6,h7,h8⟩
       ·exact .inl h4
       ·exact .inr (.inl h4)
       ·exact .inr (.inr (.inl ⟨h4,h5,Jq ao.1 _ h6,h7⟩))
       ·exact .inr (.inr (.inr ⟨h4,h5,m',id,h6,h7,by simp[h8]⟩))
      ·intro g hg hl;rcases VM.1 hg with rfl | hg
       ·refine⟨by simp only;omega,by rw[ac];simp,d.hr.none_next (Uf _),?_,ao.2⟩;rw[Hp.ob_newOb,if_pos rfl]
       ·obtain⟨q1,q2,q3,q4,q5⟩:=d.ghs g hg hl;exact⟨q1,by rw[ac];omega,q3,by rw[hold _ q2];exact q4,q5⟩
      ·refine⟨?_,?_,?_,?_,?_⟩
       ·intro a ha b hb ai;rcases VM.1 ha with rfl | ha <;> rcases VM.1 hb with rfl | hb
        ·rfl
        ·have:=d.gho.lt b hb;simp only at ai;omega
        ·have:=d.gho.lt a ha;simp only at ai;omega
        ·exact d.gho.one a ha b hb ai
       ·intro a ha;rw[ac];rcases VM.1 ha with rfl | ha
        ·simp
        ·have:=d.gho.lt a ha;omega
       ·intro a ha j v hv;rcases VM.1 ha with rfl | ha
        ·obtain⟨id,rfl,av⟩:=d.gho.plt j v hv;intro hh;simp[ptr]at hh;omega
        ·exact d.gho.prn a ha j v hv
       ·intro j v hv;obtain⟨id,h1,h2⟩:=d.gho.plt j v hv;exact⟨id,h1,by rw[ac];omega⟩
       ·intro a ha;rcases VM.1 ha with rfl | ha
        ·exact⟨⟨i,o',m.2 h.next⟩,by simp,rfl⟩
        ·obtain⟨e,h1,h2⟩:=d.gho.mem a ha;exact⟨e,by simp[h1],h2⟩
      ·intro j v hv hl;obtain⟨oj,ty,z,id,g1,g2,g3,g4,g5,g6,g7,g8,g9,ar⟩:=d.pres j v hv hl;exact⟨oj,ty,z,id,g1,g2,g3,g4,g5,g6,by rw[ac];omega,g8,by rw[hold _ g7];exact g9,ar⟩
      ·intro t;simp only[lookD,aj,VA,false_and,if_false];exact d.rel t
theorem DI.advance:∀(rest:LN) {h:Hp} {cM:List Ent} {doneM effs:Nat} {bF:List Owed} {gh:List Gh},DI P L pre base wY h0 w0 eC K eZ σ h w tmps cM rest doneM effs bF gh->
  ∃U G E O iU V h',DI P L pre base wY h0 w0 eC K eZ σ h' w tmps U G E O iU V/\Qj P L G
 | [],h,cM,doneM,effs,bF,gh,d=>⟨cM,[],doneM,effs,bF,gh,h,d,.inl rfl⟩
 | i::rest,h,cM,doneM,effs,bF,gh,d=>by
  obtain⟨o,f,hs,_,_⟩:=d.ord.step
  cases he:isEff P o.op with
  | true=>exact⟨cM,i::rest,doneM,effs,bF,gh,h,d,.inr ⟨i,rest,o,rfl,hs.op,he⟩⟩
  | false =>
   obtain⟨e,E,O,iU,V,h',W⟩:=d.one hs.op he;exact DI.advance rest W
end
def left(n:Nat)(eZ:Nat->Bool):Nat:=((List.range n).filter fun i=>!eZ i).length
theorem KE{n:Nat}{eZ:Nat->Bool}(h:left n eZ=0):∀i,i < n->eZ i=true:=by
 intro i hi;unfold left at h;have:=VS h;rw[List.filter_eq_nil_iff]at this;have:=this i (by simpa using hi);simpa using this
theorem zD:∀(l:LN) {eZ gS:Nat->Bool} {i:Nat},l.Nodup->i∈l->eZ i=false->gS i=true->(∀j,j≠i->gS j=eZ j)->
  (l.filter fun j=>!eZ j).length=(l.filter fun j=>!gS j).length+1
 | [],eZ,gS,i,_,h,_,_,_=>by simp at h
 | x::l,eZ,gS,i,O,hi,h1,h2,U=>by
  have E:=List.nodup_cons.1 O;by_cases V:x=i
  ·subst V;have G:(l.filter fun j=>!eZ j)=l.filter fun j=>!gS j:=by
    apply List.filter_congr;intro j hj;rw[U j (by rintro rfl;exact E.1 hj)]
   simp[Wj,h1,h2,G]
  ·have W:i∈l:=by simp at hi;rcases hi with h | h;exact absurd h.symm V;exact h
   have ih:=zD l E.2 W h1 h2 U;rw[Wj,Wj,U x V]
   split <;> simp[ih]
theorem Mc{n:Nat}{eZ gS:Nat->Bool}{i:Nat}(hi:i < n)(E:eZ i=false)(G:gS i=true)(O:∀j,j≠i->gS j=eZ j):left n eZ=left n gS+1 :=
 zD _ List.nodup_range (by simpa using hi) E G O
end
section
variable {P:Program} {L:List Oper} {pre:List OV} {base:Nat} {wY:Sg} {h0:Hp} {w0:World} {eC:LV} {K:LV->Hp->Prop} {eZ gS:Nat->Bool} {σ cE:Sg} {h h':Hp} {w w':World} {tmps:AV}
 {cM:List Ent} {rest:LN} {doneM effs:Nat} {bF:List Owed} {gh:List Gh}
theorem Ord.at:∀{rest done:LN} {doneM effs:Nat},Ord P L rest done doneM effs->∀i∈rest,∃E o f,StepOk P L E i o f/\∀x∈done,x∈E
 | [],done,doneM,effs,_,i,hi=>by simp at hi
 | j::rest,done,doneM,effs,h,i,hi=>by
  obtain⟨o,f,hs,V,_⟩:=h.step;simp at hi;rcases hi with rfl | hi
  ·exact⟨done,o,f,hs,fun x O=>O⟩
  ·obtain⟨E,o',W,U,G⟩:=V.at i hi;exact⟨E,o',W,U,fun x O=>G x (by simp[O])⟩
theorem Ord.disj (h:Ord P L rest (cM.map (·.idx)) doneM effs) {i:Nat} (hi:i∈rest):i∉cM.map (·.idx):=by
 obtain⟨G,o,f,hs,E⟩:=h.at i hi;exact fun O=>hs.new (E i O)
def FI(P:Program)(L:List Oper)(pre:List OV)(h0:Hp)(eZ:Nat->Bool)(σ:Sg)(h:Hp):Prop :=
 ∀i v,pre.getD i none=some v->eZ i=false->∃o ty z id,L[i]? = some o/\o.op = .alloc ty/\zero? P ty=some z/\plainV 100 z=true/\v=ptr id 0/\h0.next<=id/\id < h.next/\σ id=none/\
  h.ob id=some (.cells z.cells.toList ty (some id))/\h.gs.get id=none
theorem DI.list(d:DI P L pre base wY h0 w0 eC K eZ σ h w tmps cM rest doneM effs bF gh){e:Ent}(he:e∈cM)(hl:eZ e.idx=false)(ha:∀j∈ahead e.o,eZ j=true)
  (W:gS e.idx=true) (O:∀i,i≠e.idx->gS i=eZ i) (ac:σ.le cE) (ad:HR base cE h w') (aa:Ext base wY h0 w0 cE h w') (V:FI P L pre h0 gS cE h) (ae:GhOk gh h0 h gS cE)
  {a:Act} {v':Value} (af:a.tmps=tmps) (hv:VRel cE e.v v'):DI P L pre base wY h0 w0 eC K gS cE h w' (a.put e.o.dst v').tmps cM rest doneM effs bF gh:=by
 subst af;have sub:∀i,eZ i=true->gS i=true:=by
  intro i hi;by_cases G:i=e.idx
  ·rw[G];exact W
  ·rw[O i G];exact hi
 have back:∀i,gS i=false->eZ i=false:=by
  intro i hi
  cases hh:eZ i with
  | false=>rfl
  | true=>rw[sub i hh]at hi;simp at hi
 refine⟨?_,ad,aa,d.ord,d.chain,fun x hx ag=>sub _ (d.effl x hx ag),?_,?_,ae,d.gho,V,d.inj,d.all,?_,?_,d.form⟩
 ·intro i o ho hi j hj;by_cases G:i=e.idx
  ·have:o=e.o:=by have:=d.chain.mem e he;rw[<-G,ho]at this;simpa using this
   subst this;exact sub j (ha j hj)
  ·rw[O i G]at hi;exact sub j (d.closed i o ho hi j hj)
 ·intro i hi;have ah:=d.ord.disj hi;rw[O i (by rintro rfl;exact ah (Uu.2 ⟨e,he,rfl⟩))];exact d.unl i hi
 ·exact d.ents.imp fun x hx tm ai=>⟨back _ ai,fun aj=>aj⟩
 ·rw[d.len];cases e.o.dst <;> simp[Act.put]
 ·intro t;rw[EL d.closed hl W O d.chain he];have E:=(d.rel t).mono ac
  cases hd:e.o.dst with
  | none=>simp only[Act.put];rw[if_neg (by simp)];exact E
  | some dd =>
   simp only[Act.put,Um];by_cases ht:dd=t
   ·subst ht;by_cases U:dd < eC.length
    ·rw[if_pos ⟨rfl,U⟩,VW,We (by rw[<-d.len];exact U)];exact hv
    ·rw[if_neg (fun hh=>U hh.2)];have hs:¬dd < a.tmps.size:=by rw[<-d.len];exact U
     rw[VW]at E ⊢;simpa[Array.getElem?_setIfInBounds,hs]using E
   ·rw[if_neg (fun hh=>ht hh.1)];rw[VW]at E ⊢;rw[Wg ht];exact E
theorem FI.mono(hp:FI P L pre h0 eZ σ h)(E:Ext base σ h w cE h' w')(G:∀i,gS i=false->eZ i=false):FI P L pre h0 gS cE h':=by
 intro i v V hl;obtain⟨o,ty,z,id,W,h2,h3,h4,h5,h6,U,h8,h9,O⟩:=hp i v V (G i hl);obtain⟨u1,u2,u3⟩:=E.untouched id U h8;exact⟨o,ty,z,id,W,h2,h3,h4,h5,h6,Vj U E.next,u3,u1.trans h9,u2.trans O⟩
theorem GhOk.mono{base:Nat}{gh:List Gh}{h0 h h':Hp}{eZ gS:Nat->Bool}{σ cE:Sg}{w w':World}(V:GhOk gh h0 h eZ σ)(E:Ext base σ h w cE h' w')(G:∀i,gS i=false->eZ i=false):GhOk gh h0 h' gS cE:=by
 intro g O hl;obtain⟨W,U,h3,h4,h5⟩:=V g O (G _ hl);obtain⟨u1,u2,u3⟩:=E.untouched g.id U h3;exact⟨W,Vj U E.next,u3,u1.trans h4,u2.trans h5⟩
theorem At{α:Type}{e:α}:∀{l:List α},e∈l->∃E es,l=E++e::es
 | [],h=>by simp at h
 | x::l,h=>by
  simp at h;rcases h with rfl | h
  ·exact⟨[],l,rfl⟩
  ·obtain⟨E,es,rfl⟩:=At h;exact⟨x::E,es,rfl⟩
theorem DI.maskRel(d:DI P L pre base wY h0 w0 eC K eZ σ h w tmps cM rest doneM effs bF gh){e:Ent}{G es:List Ent}(E:cM=G++e::es)(hl:eZ e.idx=false)(O:∀j∈ahead e.o,eZ j=true):
  eM σ (mD (Oper.looksAt L.toArray e.o) (tmOf eC es)) tmps:=by
 refine yM (by rw[kM,d.len]) fun t U=>?_;rw[sZ,<-EM d.closed (eC:=eC) hl O U d.chain E];exact d.rel t
theorem DI.maskNext(d:DI P L pre base wY h0 w0 eC K eZ σ h w tmps cM rest doneM effs bF gh){i:Nat}{o:Oper}{f:Inf}(hs:StepOk P L (cM.map (·.idx)) i o f) (G:∀j∈ahead o,eZ j=true) :
  eM σ (mD (Oper.looksAt L.toArray o) (tmOf eC cM)) tmps:=by
 refine yM (by rw[kM,d.len]) fun t O=>?_;rw[sZ,<-uZ d.closed (eC:=eC) hs.op hs.inf G O d.chain (fun e he g U E=>hs.clash e.idx (Uu.2 ⟨e,he,rfl⟩) g U E)];exact d.rel t
theorem qG{p:Ent->Bool}:∀{cM:List Ent},(∃e∈cM,p e=false)->∃E e es,cM=E++e::es/\p e=false/\∀x∈es,p x=true
 | [],h=>by obtain⟨e,he,_⟩:=h;simp at he
 | x::cM,h=>by
  by_cases G:∃e∈cM,p e=false
  ·obtain⟨E,e,es,rfl,O,U⟩:=qG G;exact⟨x::E,e,es,rfl,O,U⟩
  ·obtain⟨e,he,hp⟩:=h;simp at he;rcases he with rfl | he
   ·refine⟨[],e,cM,rfl,hp,fun y V=>?_⟩
    cases hyp:p y with
    | true=>rfl
    | false=>exact absurd ⟨y,V,hyp⟩ G
   ·exact absurd ⟨e,he,hp⟩ G
theorem wN:∀{cM:List Ent},Chain P L cM->∀{E es:List Ent} {e:Ent},cM=E++e::es->∃f,StepOk P L (es.map (·.idx)) e.idx e.o f
 | [],_,E,es,e,h=>by simp at h
 | x::cM,G,E,es,e,h=>by
  cases E with
  | nil=>simp at h;obtain⟨rfl,rfl⟩:=h;exact G.1
  | cons y E=>simp at h;exact wN G.2 h.2
end
theorem mem_ready{ops:Array Oper}{E:Array Bool}{i:Nat}(hs:E.size=ops.size):i∈Region.ready .any ops E↔∃o,ops.toList[i]? = some o/\E.getD i false=false/\∀j∈ahead o,E.getD j false=true:=by
 unfold Region.ready;simp only[WG,List.mem_range,Uw,VL]
 constructor
 ·rintro⟨G,O,U⟩;rw[Vq G]at U;simp only[Uv,Option.getD_some]at U;refine⟨ops[i],by simp[G],?_,?_⟩
  ·rw[VW,Vq (by omega)]at O ⊢;exact O
  ·intro j V;simp only[ahead,Uu,WG]at V;obtain⟨e,⟨he,hb⟩,rfl⟩:=V;have:=Array.all_eq_true'.1 U e (by simpa using he);rw[hb]at this;simpa using this
 ·rintro⟨o,G,O,U⟩;have hi:i < ops.size:=by have:=(Us.1 G).1;simpa using this
  have W:ops[i]? = some o:=by simpa using G
  refine⟨hi,?_,?_⟩
  ·rw[VW,Vq (by omega)]at O ⊢;exact O
  ·rw[W];simp only[Uv,Option.getD_some];refine Array.all_eq_true'.2 fun e he=>?_
   cases hb:Region.binds .any e with
   | false=>rfl
   | true=>simpa using U e.on (Uu.2 ⟨e,WG.2 ⟨by simpa using he,hb⟩,rfl⟩)
section
variable {P:Program}
theorem Md{base:Nat}{σ:Sg}{h:Hp}{w:World}(hr:HR base σ h w){o:Oper}{a:Act}{ty:TI}{z:Value}{id:Nat}(E:o.op = .alloc ty)(V:zero? P ty=some z)(hp:plainV 100 z=true)
  (hs:σ id=none) (G:id < h.next) (O:h.ob id=some (.cells z.cells.toList ty (some id))) (U:h.gs.get id=none) :
  ∃w' v' e,(execOp a.eval o).run P w = .ok (.value v') w'/\VRel (σ.put id e) (ptr id 0) v'/\HR base (σ.put id e) h w'/\WNew w w' (.cells z.cells ty (0,0))/\e.rb=w.heap.size:=by
 obtain⟨dst,op,t,pos,after,guard⟩:=o;simp only at E;subst E;have W:bK σ z.cells.toList z.cells.toList:=sX hp;have hw:=WNew.alloc w (.cells z.cells ty);have:=hr.late hs G O U hw (by simp) W.rel (by simp);refine⟨_,.pointer (some ⟨w.heap.size,0,none⟩),⟨w.heap.size,0,z.cells.size⟩,?_,?_,this,hw,rfl⟩
 ·simp[execOp,Instr.alloc,gO V,newVar,newRow]
 ·exact .ptr id 0 ⟨w.heap.size,0,z.cells.size⟩ (by unfold Sg.put;rw[if_pos rfl])
theorem Mt{ops:Array Oper}{pre:List OV}{base:Nat}{wY:Sg}{h0:Hp}{w0:World}{eC:LV}{K:LV->Hp->Prop}{d0:List Deferred}{Q:Exit->Act->World->Prop}
  (hQ:∀cE dE h' a' w',Ext base wY h0 w0 cE h' w'->HR base cE h' w'->eM cE dE a'.tmps->a'.defers=d0->K dE h'->Q .normal a' w') (ro:ON) :
  ∀(n:Nat) (E:Array Bool) (a:Act) (w:World) (σ:Sg) (h:Hp) (cM:List Ent) (rest:LN) (doneM effs:Nat) (bF:List Owed) (gh:List Gh),E.size=ops.size->left ops.size (fun i=>E.getD i false)=n->
   DI P ops.toList pre base wY h0 w0 eC K (fun i=>E.getD i false) σ h w a.tmps cM rest doneM effs bF gh->Qj P ops.toList rest->a.defers=d0->wpAnyIn (gU ro) 0 P .any ops Q n E a w:=by
 intro n
 induction n with
 | zero =>
  intro E a w σ h cM rest doneM effs bF gh ax a0 d dN ag;have ah:=KE a0;have bg:Region.ready .any ops E=[]:=by
   cases hr:Region.ready .any ops E with
   | nil=>rfl
   | cons i l =>
    have hi:i∈Region.ready .any ops E:=by rw[hr];simp
    rw[mem_ready ax]at hi;obtain⟨o,h1,h2,_⟩:=hi;have:=ah i (by have:=(Us.1 h1).1;simpa using this);rw[h2]at this;simp at this
  refine⟨bg,?_⟩;rcases dN with rfl | ⟨j,ao,o,rfl,ho,he⟩
  ·have G:=d.form;simp only[xDraw]at G;refine hQ σ _ h a w d.ext d.hr ⟨by rw[kM,d.len],fun t=>?_⟩ ag G;rw[sZ];have:=d.rel t;rw[mW (q:=fun _=>true) (fun e he=>?_)]at this
   ·exact this
   ·have:=d.chain.mem e he;exact ah e.idx (by have:=(Us.1 this).1;simpa using this)
  ·have h1:=d.unl j (by simp);have h2:=ah j (by have:=(Us.1 ho).1;simpa using this);rw[h1]at h2;simp at h2
 | succ n ih =>
  intro E a w σ h cM rest doneM effs bF gh ax a0 d dN ag;refine⟨fun bu=>?_,fun i hi=>?_⟩
  ·
   exfalso
   have hex:∃i,i∈Region.ready .any ops E:=by
    by_cases hu:∃e∈cM,(fun e:Ent=>E.getD e.idx false) e=false
    ·obtain⟨pr,e,es,bh,h1,h2⟩:=qG hu;obtain⟨f,hs⟩:=wN d.chain bh;refine⟨e.idx,(mem_ready ax).2 ⟨e.o,hs.op,h1,fun j hj=>?_⟩⟩;have:=hs.ahead j hj;obtain⟨x,hx,rfl⟩:=Uu.1 this;exact h2 x hx
    ·have ah:∀e∈cM,E.getD e.idx false=true:=by
      intro e he
      cases hh:E.getD e.idx false with
      | true=>rfl
      | false=>exact absurd ⟨e,he,hh⟩ hu
     cases rest with
     | nil =>
      exfalso
      have:left ops.size (fun i=>E.getD i false)=0:=by
       unfold left;rw[List.length_eq_zero_iff,List.filter_eq_nil_iff];intro i hi;have:=d.ord.cover i (by simpa using hi);simp at this;obtain⟨e,he,rfl⟩:=this;simpa using ah e he
      omega
     | cons j rest =>
      obtain⟨o,f,hs,_⟩:=d.ord.step;refine⟨j,(mem_ready ax).2 ⟨o,hs.op,d.unl j (by simp),fun x hx=>?_⟩⟩;have:=hs.ahead x hx;obtain⟨e,he,rfl⟩:=Uu.1 this;exact ah e he
   obtain⟨i,hi⟩:=hex;rw[bu]at hi;simp at hi
  ·rw[mem_ready ax]at hi;obtain⟨o,ho,ae,an⟩:=hi;have bv:i < ops.size:=by have:=(Us.1 ho).1;simpa using this
   have cg:ops[i]? = some o:=by simpa using ho
   have av:(E.setIfInBounds i true).size=ops.size:=by simpa using ax
   have af:(E.setIfInBounds i true).getD i false=true:=by
    rw[VW,We (by omega)];rfl
   have ai:∀j,j≠i->(E.setIfInBounds i true).getD j false=E.getD j false:=by
    intro j hj;rw[VW,Wg (fun e=>hj e.symm),VW]
   have ad:left ops.size (fun j=>(E.setIfInBounds i true).getD j false)=n:=by
    have:=Mc (n:=ops.size) (eZ:=fun j=>E.getD j false) (gS:=fun j=>(E.setIfInBounds i true).getD j false) bv ae af ai
    omega
   have O:∀j,(E.setIfInBounds i true).getD j false=false->E.getD j false=false:=by
    intro j hj;by_cases bw:j=i
    ·subst bw;exact ae
    ·rw[ai j bw]at hj;exact hj
   unfold wpOpIn;rw[cg];simp only;rcases d.ord.cover i (by simpa using bv) with hd | hd
   ·
    obtain⟨e,he,ci⟩:=Uu.1 hd;subst ci;have cj:e.o=o:=by have:=d.chain.mem e he;rw[ho]at this;simpa using this.symm
    subst cj;obtain⟨pr,es,bh⟩:=At he;have a4:=d.ents.mem bh ae;have W:=d.maskRel bh ae an;have bi:=a4.noEff;obtain⟨b,hw,aj,ck⟩:=a4.want;have ap:wants ops.toList (mD (Oper.looksAt ops.toList.toArray e.o) (tmOf eC es)) e.o=some b:=by rw[tN];exact hw
    have go:∀cE v v' h' w',Ext base σ h w cE h' w'->HR base cE h' w'->VRel cE v v'->(v=e.v/\h'=h)->wpAnyIn (gU ro) 0 P .any ops Q n (E.setIfInBounds e.idx true) (a.put e.o.dst v') w':=by
     rintro cE v v' h' w' aa aq hv ⟨rfl,rfl⟩;have a5:=d.list (gS:=fun j=>(E.setIfInBounds e.idx true).getD j false) he ae an af ai aa.le aq (d.ext.trans aa) (FI.mono d.pres aa O) (d.ghs.mono aa O) (a:=a) rfl hv;exact ih _ _ _ _ _ _ _ _ _ _ _ av ad a5 dN (by rw[Act.put_defers',ag])
    cases b with
    | false =>
     rw[oL W ap];simp only[VA,if_false];have:=aj rfl;refine⟨fun _ _=>trivial,?_⟩;exact go σ undef undef h w (Ext.refl _ _ _ _) d.hr (VRel.undef σ) ⟨this.symm,rfl⟩
    | true =>
     rcases ck rfl with ac | ⟨ac,hk,bx⟩ | ⟨ac,hk,bz,_⟩ | ⟨ac,hk,m,id,cl,cm,bk⟩
     ·
      rw[oL W ap];simp only[if_true];refine⟨fun _ _=>trivial,?_⟩;obtain⟨o',ty,z,id,h1,h2,h3,h4,h5,h6,h7,h8,h9,cn⟩:=d.pres e.idx e.v ac ae;rw[ho]at h1;have:e.o=o':=by simpa using h1
      subst this;obtain⟨w',v',en,a6,hv,aq,V,co⟩:=Md (P:=P) (a:=a) d.hr h2 h3 h4 h8 h7 h9 cn;rw[Oper.semAt_eq _ _ _ (by rintro c hd;rw[h2]at hd;simp at hd),a6];have hle:σ.le (σ.put id en):=Sg.put_le h8;have ar:Ext base wY h0 w0 (σ.put id en) h w':=by
       have x:=d.ext;refine⟨Sg.le_trans x.le hle,V.os.trans x.os,V.tape.trans x.tape,V.output.trans x.output,?_,?_,?_,?_,x.next,?_⟩
       ·rw[V.heap];simp;have:=x.size;omega
       ·intro k hk;rw[V.heap,Vs,if_neg (by have:=d.hr.base_le;omega)];exact x.below k hk
       ·intro k hk bi;rw[V.heap,Vs,if_neg (by have:=x.size;omega)];exact x.other k hk bi
       ·intro b0 e0 aj ak;unfold Sg.put at ak
        split at ak
        ·right
         have:e0=en:=by simpa using ak.symm
         rw[this,co];exact x.size
        ·exact x.img b0 e0 aj ak
       ·intro b0 aj bl;obtain⟨y1,y2,y3⟩:=x.untouched b0 aj bl;refine⟨y1,y2,?_⟩;unfold Sg.put;rw[if_neg (by omega)];exact y3
      have al:FI P ops.toList pre h0 (fun j=>(E.setIfInBounds e.idx true).getD j false) (σ.put id en) h:=by
       intro j v a7 hj;simp only at hj;obtain⟨oj,bm,zj,bn,g1,g2,g3,g4,g5,g6,g7,g8,g9,cp⟩:=d.pres j v a7 (O j hj);refine⟨oj,bm,zj,bn,g1,g2,g3,g4,g5,g6,g7,?_,g9,cp⟩;unfold Sg.put;rw[if_neg ?_]
       ·exact g8
       ·rintro rfl;have b3:j≠e.idx:=by rintro rfl;rw[af]at hj;simp at hj
        exact b3 (d.inj j e.idx v a7 (by rw[ac,h5,g5]))
      have bo:VRel (σ.put id en) e.v v':=by rw[h5];exact hv
      have a8:GhOk gh h0 h (fun j=>(E.setIfInBounds e.idx true).getD j false) (σ.put id en):=by
       intro g hg ay;obtain⟨q1,q2,q3,q4,q5⟩:=d.ghs g hg (O _ ay);refine⟨q1,q2,?_,q4,q5⟩;unfold Sg.put;rw[if_neg ?_]
       ·exact q3
       ·intro a9;exact d.gho.prn g hg _ _ ac (by rw[h5,a9])
      have a5:=d.list (gS:=fun j=>(E.setIfInBounds e.idx true).getD j false) he ae an af ai hle aq ar al a8 (a:=a) rfl bo;exact ih _ _ _ _ _ _ _ _ _ _ _ av ad a5 dN (by rw[Act.put_defers',ag])
     ·refine mU (k:=fun v h'=>v=e.v/\h'=h) d.hr W ?_ go ro;unfold nT;rw[ap];simp only[hk,if_true];rw[<-uU iA,bx];exact⟨rfl,trivial⟩
     ·refine mU (k:=fun v h'=>v=e.v/\h'=h) d.hr W ?_ go ro;unfold nT;rw[ap];simp only[hk,if_true];rw[<-uT iA,bz];exact⟨rfl,trivial⟩
     ·
      rw[oL W ap];simp only[if_true];refine⟨fun _ _=>trivial,?_⟩;obtain⟨g1,g2,g3,g4,g5⟩:=d.ghs _ bk ae;simp only at g1 g2 g3 g4 g5;have b4:mkOf P (mD (Oper.looksAt ops.toList.toArray e.o) (tmOf eC es)) e.o.op=some m:=by rw[<-yL iA];exact cl
      obtain⟨v',r,a6,U,b5⟩:=EF (P:=P) w W e.o b4;have V:WNew w (w.alloc r) r:=by
       cases r with
       | cells c el fr=>exact WNew.alloc w _
       | _=>exact WNew.push w _
      have aq:HR base (σ.put id ⟨w.heap.size,0,mV r⟩) h (w.alloc r):=by
       obtain⟨mc,vf⟩:=m
       cases mc with
       | some ce =>
        obtain⟨cc,el,rfl,U⟩:=U;have hlen:=U.1;exact d.hr.late g3 g2 g4 g5 V (by simp at hlen;omega) U.rel (by simp)
       | none =>
        have U:r = .map #[] 0:=U;subst U;exact d.hr.lateMap g3 g2 g4 g5 V
      rw[Oper.semAt_eq _ _ _ (by rintro c hd;rw[hd]at hk;simp[kind]at hk),a6];have hle:σ.le (σ.put id ⟨w.heap.size,0,mV r⟩):=Sg.put_le g3;have ar:Ext base wY h0 w0 (σ.put id ⟨w.heap.size,0,mV r⟩) h (w.alloc r):=by
       have x:=d.ext;refine⟨Sg.le_trans x.le hle,x.os,x.tape,x.output,?_,?_,?_,?_,x.next,?_⟩
       ·rw[V.heap];simp;have:=x.size;omega
       ·intro k hk;rw[V.heap,Vs,if_neg (by have:=d.hr.base_le;omega)];exact x.below k hk
       ·intro k hk bi;rw[V.heap,Vs,if_neg (by have:=x.size;omega)];exact x.other k hk bi
       ·intro b0 e0 aj ak;unfold Sg.put at ak
        split at ak
        ·right
         have:e0=⟨w.heap.size,0,mV r⟩:=by simpa using ak.symm
         rw[this];exact x.size
        ·exact x.img b0 e0 aj ak
       ·intro b0 aj bl;obtain⟨y1,y2,y3⟩:=x.untouched b0 aj bl;refine⟨y1,y2,?_⟩;unfold Sg.put;rw[if_neg (by omega)];exact y3
      have al:FI P ops.toList pre h0 (fun j=>(E.setIfInBounds e.idx true).getD j false) (σ.put id ⟨w.heap.size,0,mV r⟩) h:=by
       intro j v a7 hj;obtain⟨oj,bm,zj,bn,k1,k2,k3,k4,k5,k6,k7,k8,k9,cq⟩:=d.pres j v a7 (O j hj);refine⟨oj,bm,zj,bn,k1,k2,k3,k4,k5,k6,k7,?_,k9,cq⟩;unfold Sg.put;rw[if_neg ?_]
       ·exact k8
       ·intro a9;exact d.gho.prn _ bk _ _ a7 (by rw[k5,a9])
      have a8:GhOk gh h0 h (fun j=>(E.setIfInBounds e.idx true).getD j false) (σ.put id ⟨w.heap.size,0,mV r⟩):=by
       intro g hg ay;obtain⟨q1,q2,q3,q4,q5⟩:=d.ghs g hg (O _ ay);refine⟨q1,q2,?_,q4,q5⟩;unfold Sg.put;rw[if_neg ?_]
       ·exact q3
       ·intro a9;have:=d.gho.one _ hg _ bk a9;simp only at this;simp only at ay;rw[this,af]at ay;simp at ay
      have bo:VRel (σ.put id ⟨w.heap.size,0,mV r⟩) e.v v':=by rw[cm];exact b5 _ _ (by unfold Sg.put;rw[if_pos rfl])
      have a5:=d.list (gS:=fun j=>(E.setIfInBounds e.idx true).getD j false) he ae an af ai hle aq ar al a8 (a:=a) rfl bo;exact ih _ _ _ _ _ _ _ _ _ _ _ av ad a5 dN (by rw[Act.put_defers',ag])
   ·
    rcases dN with rfl | ⟨j,ao,oj,rfl,bp,ba⟩
    ·simp at hd
    ·have b6:=d.unl j (by simp);obtain⟨o2,f,hs,bb,c5⟩:=d.ord.step;have cr:i=j:=by
      simp at hd;rcases hd with hd | hd
      ·exact hd
      ·exfalso
       obtain⟨bq,o3,f3,az,bf⟩:=bb.at i hd;have hj:=bf j (by simp);have hb:=az.effs j hj oj bp ba;have ct:o3=o:=by have:=az.op;rw[ho]at this;simpa using this.symm
       subst ct;have:=d.closed.am (P:=P) az.op az.inf an hb;rw[b6]at this;simp at this
     subst cr;have cu:o2=o:=by have:=hs.op;rw[ho]at this;simpa using this.symm
     subst cu;have b7:oj=o2:=by rw[ho]at bp;simpa using bp.symm
     subst b7;have W:=d.maskNext hs an;have G:=d.form;simp only[xDraw,ho,hs.inf]at G
     cases hw:wants ops.toList (tmOf eC cM) oj with
     | none=>simp[hw,alP]at G
     | some b =>
      simp only[hw]at G;have ac:pre.getD i none=none:=by
       cases hp:pre.getD i none with
       | none=>rfl
       | some v =>
        exfalso
        obtain⟨o',ty,z,id,h1,h2,_⟩:=d.pres i v hp ae;rw[ho]at h1;have:oj=o':=by simpa using h1
        subst this;simp[isEff,h2,isAlloc]at ba
      simp only[ac]at G;have ap:wants ops.toList (mD (Oper.looksAt ops.toList.toArray oj) (tmOf eC cM)) oj=some b:=by rw[tN];exact hw
      refine mU (k:=fun v h'=>eY P alP f.am h' bF (xDraw P alP (SCalls P) ops.toList (infos P ops.toList) pre ao (put (tmOf eC cM) oj.dst v) bF h' K)) d.hr W ?_ ?_ ro
      ·unfold nT;rw[ap];simp only;rw[<-vJ iA,<-lJ iA,<-BZ iA]
       split
       ·rename_i hk;simp[isEff,hk]at ba
       ·rename_i hk;simp[isEff,hk]at ba
       ·rename_i hk;simp only[hk]at G;exact G
       ·rename_i hk
        simp only[hk]at G;exact G
       ·rename_i hk
        simp only[hk]at G;exact G
       ·rename_i hk;simp[isEff,hk]at ba
      ·rintro cE v v' h' w' aa aq hv hk;obtain⟨hf,b9⟩:=Dz hk;have d':DI P ops.toList pre base wY h0 w0 eC K (fun j=>(E.setIfInBounds i true).getD j false) cE h' w' (a.put oj.dst v').tmps (⟨i,oj,v⟩::cM) ao (doneM ||| 2 ^ i) (if f.eff then effs ||| 2 ^ i else effs) bF gh:=by
        have sub:∀x,E.getD x false=true->(E.setIfInBounds i true).getD x false=true:=by
         intro x hx;by_cases au:x=i
         ·rw[au];exact af
         ·rw[ai x au];exact hx
        refine⟨?_,aq,d.ext.trans aa,bb,⟨⟨f,hs⟩,d.chain⟩,?_,?_,⟨fun hh=>?_,?_⟩,d.ghs.mono aa O,?_,FI.mono d.pres aa O,d.inj,d.all,?_,?_,hf⟩
        ·intro x ox br hx y hy;simp only at hx ⊢;by_cases au:x=i
         ·subst au;rw[ho]at br;have:oj=ox:=by simpa using br
          subst this;exact sub y (an y hy)
         ·rw[ai x au]at hx;exact sub y (d.closed x ox br hx y hy)
        ·intro x hx cv;simp at hx;rcases hx with rfl | hx
         ·exact af
         ·exact sub _ (d.effl x hx cv)
        ·intro x hx;have:x≠i:=by
          rintro rfl;obtain⟨bq,o3,f3,az,bf⟩:=bb.at x hx;exact az.new (bf x (by simp))
         show(E.setIfInBounds i true).getD x false=false;rw[ai x this];exact d.unl x (by simp[hx])
        ·have ca:(E.setIfInBounds i true).getD i false=false:=hh;rw[af]at ca;simp at ca
        ·refine d.ents.imp fun x hx tm cd=>⟨O _ cd,fun a4=>⟨a4.noEff,?_⟩⟩;obtain⟨b2,k1,k2,k3⟩:=a4.want;refine⟨b2,k1,k2,fun cy=>?_⟩;rcases k3 cy with k4 | k4 | ⟨k4,k5,k6,k7⟩ | k4
         ·exact .inl k4
         ·exact .inr (.inl k4)
         rotate_left
         ·exact .inr (.inr (.inr k4))
         ·refine .inr (.inr (.inl ⟨k4,k5,?_,k7⟩));rcases b9 _ k7 with k8 | k8
          ·exfalso
           have:=d.closed.am (P:=P) hs.op hs.inf an k8;simp only at this;rw[O _ cd]at this;simp at this
          ·exact k8
        ·have hn:=aa.next;refine⟨d.gho.one,fun a ha=>Vj (d.gho.lt a ha) hn,d.gho.prn,fun i v hv=>?_,fun a ha=>?_⟩
         ·obtain⟨id,q1,q2⟩:=d.gho.plt i v hv;exact⟨id,q1,Vj q2 hn⟩
         ·obtain⟨x,q1,q2⟩:=d.gho.mem a ha;exact⟨x,by simp[q1],q2⟩
        ·rw[d.len];cases oj.dst <;> simp[Act.put]
        ·intro t;have bt:lookD eC (fun j=>(E.setIfInBounds i true).getD j false) t cM=lookD eC (fun j=>E.getD j false) t cM:=by
          refine mW fun x hx=>ai _ fun au=>?_;exact hs.new (by rw[<-au];exact Uu.2 ⟨x,hx,rfl⟩)
         simp only[lookD,af,true_and,bt];have U:=(d.rel t).mono aa.le
         cases c6:oj.dst with
         | none=>simp only[Act.put];rw[if_neg (by simp)];exact U
         | some dd =>
          simp only[Act.put,Um];by_cases ht:dd=t
          ·subst ht;by_cases bj:dd < eC.length
           ·rw[if_pos ⟨rfl,bj⟩,VW,We (by rw[<-d.len];exact bj)];exact hv
           ·rw[if_neg (fun hh=>bj hh.2)];have cz:¬dd < a.tmps.size:=by rw[<-d.len];exact bj
            rw[VW]at U ⊢;simpa[Array.getElem?_setIfInBounds,cz]using U
          ·rw[if_neg (fun hh=>ht hh.1)];rw[VW]at U ⊢;rw[Wg ht];exact U
       obtain⟨c0,c4,dM,ef,ow,c7,h2,d2,cf⟩:=d'.advance;exact ih _ _ _ _ _ _ _ _ _ _ _ av ad d2 cf (by rw[Act.put_defers',ag])
end
end Go.Cn
