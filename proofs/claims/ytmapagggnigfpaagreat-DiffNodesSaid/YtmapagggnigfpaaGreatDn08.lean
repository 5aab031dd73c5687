/- Joined: CnT, CnU. -/
import Derived.Test.YtmapagggnigfpaaGreatDn07
import Derived.Laws.Sem
set_option linter.unusedVariables false
set_option linter.unusedSimpArgs false
namespace Go.Cn
section
variable {P:Program}
theorem NZ{σ:Sg}{base:Nat}{h:Hp}{w:World}(hr:HR base σ h w){t:TI}{x x' v:Value}(hl:nB P t x h=some v)(E:VRel σ x x'):
  ∃v',(do loadVar t (<-asAddr x'):Sem Value).run P w = .ok v' w/\VRel σ v v':=by
 obtain⟨v',G,O⟩:=BV hr hl E;refine⟨v',?_,O⟩;unfold nB at hl
 split at hl
 ·obtain⟨_,e,he,rfl⟩:=E.ptr_inv;exact G
 ·simp at hl
def Js(P:Program)(tm:LV)(h:Hp):ResultVar->OV
 | .tmp t=>some (tm.getD t undef)
 | .cell a t=>nB P t (tm.getD a undef) h
def RX(tmps:AV):ResultVar->Sem Value
 | .tmp t=>pure (tmps.getD t undef)
 | .cell a t=>do loadVar t (<-asAddr (tmps.getD a undef))
theorem oO{σ:Sg}{base:Nat}{h:Hp}{w:World}(hr:HR base σ h w){tm:LV}{tmps:AV}(O:eM σ tm tmps):
  ∀(rs:List ResultVar) (vs:LV),rs.mapM (Js P tm h)=some vs->∃G,(rs.mapM (RX tmps)).run P w = .ok G w/\bK σ vs G
 | [],vs,E=>by simp at E;subst E;exact⟨[],rfl,bK.nil σ⟩
 | r::rs,vs,E=>by
  rw[List.mapM_cons]at E;rw[Option.bind_eq_bind,WT]at E;obtain⟨v,U,E⟩:=E;rw[Option.bind_eq_bind,WT]at E;obtain⟨V,h2,E⟩:=E;simp at E;subst E;obtain⟨G,h3,h4⟩:=oO hr O rs V h2;have W:∃v',(RX tmps r).run P w = .ok v' w/\VRel σ v v':=by
   cases r with
   | tmp t=>simp[Js]at U;subst U;exact⟨_,rfl,O.2 t⟩
   | cell a t=>exact NZ hr U (O.2 a)
  obtain⟨v',W,h6⟩:=W;refine⟨v'::G,?_,bK.cons h6 h4⟩;rw[List.mapM_cons];simp only[Sem.run_bind];rw[W,Result.andThen_ok,h3]
  rfl
theorem GZ(fn:Func)(tmps:AV):results fn tmps=(do let vs <-List.toArray <$> fn.results.toList.mapM (RX tmps);pure (if h:vs.size=1 then vs[0] else .tuple vs)):=by
 rw[<-Array.mapM_eq_mapM_toList];unfold results;congr 2
theorem tF(fn:Func)(tm:LV)(h:Hp):jP P fn tm h=match fn.results.toList.mapM (Js P tm h) with
  | some [v]=>some v
  | some vs=>some (.tuple vs.toArray)
  | none=>none:=by
 unfold jP;congr 2
theorem Dv{σ:Sg}{base:Nat}{h:Hp}{w:World}(hr:HR base σ h w){tm:LV}{tmps:AV}(ht:eM σ tm tmps){fn:Func}{v:Value}(O:jP P fn tm h=some v):
  ∃v',(results fn tmps).run P w = .ok v' w/\VRel σ v v':=by
 rw[tF]at O;rw[GZ]
 split at O
 ·rename_i v0 hm
  simp at O;subst O;obtain⟨E,U,V⟩:=oO hr ht _ _ hm;simp only[Sem.run_bind,Sem.run_map];rw[U];simp only[Result.andThen_ok];obtain⟨hl,W⟩:=V
  match E,hl with
  | [v'],_=>exact⟨v',rfl,W 0 _ _ rfl rfl⟩
 ·rename_i vs aa hm
  simp at O;subst O;obtain⟨E,U,V⟩:=oO hr ht _ _ hm;simp only[Sem.run_bind,Sem.run_map];rw[U];simp only[Result.andThen_ok];obtain⟨hl,W⟩:=V;have G:vs.length≠1:=by
   intro U
   match vs,U with
   | [v],_=>exact aa v rfl
  have hs:¬E.toArray.size=1:=by simpa[<-hl]using G
  refine⟨.tuple E.toArray,by simp only[dif_neg hs];rfl,.tuple _ _ (by simpa using hl) (by simpa using G) ?_⟩;intro i x y hx hy;exact W i x y (by simpa using hx) (by simpa using hy)
 ·simp at O
theorem tR{fn:Func}{tmps:AV}{R:Ending->World->Prop}{F:Fence}{n:Nat}(base:Nat)(σ:Sg)(h:Hp)(w0:World)(wY:Sg)(h0:Hp):
  ∀(ms:LN) (w:World),ms.Nodup->(∀r∈ms,w0.heap.size<=r/\w.heap[r]? = some (.deferred (some []))/\∀b e,σ b=some e->e.rb≠r)->HR base σ h w->Ext base wY h0 w0 σ h w->base<=w0.heap.size->
  (∀w',HR base σ h w'->Ext base wY h0 w0 σ h w'->∃v,(results fn tmps).run P w' = .ok v w'/\R (.returned v) w')->LeavesInM F n P fn tmps R (ms.map mk) .returning w
 | [],w,_,_,hr,he,_,G=>G w hr he
 | r::ms,w,aa,V,hr,he,hb,G=>by
  obtain⟨q1,q2,q3⟩:=V r (by simp);refine⟨by simp,.inl ⟨r,_,rfl,run_takeDeferred q2,?_⟩⟩;have E:∀k,k≠r->(w.putObj r (.deferred none)).heap[k]? = w.heap[k]?:=fun k G=>World.putObj_heap_other G;have ac:HR base σ h (w.putObj r (.deferred none)):=by
   refine⟨by simpa using hr.base_le,fun b e hb=>by simpa using hr.dom b e hb,hr.fresh,?_,hr.grp,hr.gdom,hr.stack,hr.nest,hr.apart,?_⟩
   ·intro b e cs t g W h2 h3;exact(hr.cell b e cs t g W h2 h3).grown (E _ (q3 b e W))
   ·intro b e o W h2 h3;obtain⟨p1,p2,⟨x,p3,p4⟩,p5⟩:=hr.oth b e o W h2 h3;exact⟨p1,p2,⟨x,by rw[E _ (q3 b e W)];exact p3,p4⟩,p5⟩
  have ad:Ext base wY h0 w0 σ h (w.putObj r (.deferred none)):=by
   refine⟨he.le,he.os,he.tape,he.output,by simpa using he.size,fun k G=>by rw[E k (by omega)];exact he.below k G,fun k G ae=>by rw[E k (by omega)];exact he.other k G ae,he.img,he.next,he.untouched⟩
  have O:=List.nodup_cons.1 aa;refine tR base σ h w0 wY h0 ms _ O.2 ?_ ac ad hb G;intro r' U;obtain⟨k1,k2,k3⟩:=V r' (by simp[U]);exact⟨k1,by rw[E r' (by rintro rfl;exact O.1 U)];exact k2,k3⟩
theorem Ba(hm:P.follows .mixedOrders=true){f:FuncId}{fn:Func}{c:Code}{gX:Nat->List Tmp}{args:LV}{h:Hp}{K:KT}
  (hf:P.funcs[f]? = some fn) (hb:fn.body=some c) (hc:jG fn=true) (hx:IY P alP (SCalls P) f gX fn c args h K):SCalls P f args h K:=by
 refine .inl ⟨⟨fn,hf,by rw[hb];rfl,hc⟩,fun base σ w E hr hl=>?_⟩;refine Aa (ro:=none) (callsIn_of_wp_marks hf hb trivial ?_);have ht:eM σ (args++List.replicate (fn.ntmps - args.length) undef) (E++Array.replicate (fn.ntmps - E.size) undef):=by
  have hlen:args.length=E.size:=by simpa using hl.1
  refine⟨by simp[hlen],fun i=>?_⟩;rw[VW,Uz,List.getElem?_append,Array.getElem?_append];by_cases hi:i < args.length
  ·rw[if_pos hi,if_pos (by rw[<-hlen];exact hi)];have U:E.toList[i]? = some (E[i]'(by rw[<-hlen];exact hi)):=by simp[hlen ▸hi]
   have V:args[i]? = some args[i]:=by simp[hi]
   have:=hl.2 i _ _ V U;simpa[hi,hlen ▸hi]using this
  ·rw[if_neg hi,if_neg (by rw[<-hlen];exact hi),Wm,Array.getElem?_replicate,hlen]
   split <;> exact VRel.undef σ
 refine gM hm c hx (show uK ⟨f,none⟩ σ none from rfl) hr ht ?_;intro e cE dE h' a' w' he W aa ac _ G;have fin:opt False (jP P fn dE h') (fun v=>K v h')->LeavesInM (gU none) 0 P fn a'.tmps (sU base σ h w K) a'.defers .returning w':=by
  intro G
  cases hv:jP P fn dE h' with
  | none=>simp[hv,opt]at G
  | some v =>
   simp only[hv,opt]at G;obtain⟨ms,hd,ad,ae⟩:=ac;have af:a'.defers=ms.map mk:=by simpa using hd
   rw[af];refine tR base cE h' w σ h ms w' ad ae W he hr.base_le ?_;intro w2 O ag;obtain⟨v',U,V⟩:=Dv O aa hv;exact⟨v',U,v,v',h',cE,rfl,G,V,O,ag⟩
 cases e with
 | normal=>exact fin G
 | ret=>exact fin G
 | exit id=>exact G.elim
 | goto l=>exact G.elim
 | panic x=>exact G.elim
 | outgrown=>exact G.elim
theorem vY{σ:Sg}:∀(ps:List Tmp) (args E:LV) (tm:LV) (tmps:AV),bK σ args E->eM σ tm tmps->
  eM σ (setArgs ps args tm) ((ps.zip E).foldl (fun tmps (t,a)=>tmps.setIfInBounds t a) tmps)
 | [],args,E,tm,tmps,_,G=>by simpa[setArgs]using G
 | t::ps,[],E,tm,tmps,hl,G=>by
  have:E=[]:=VS hl.1.symm;subst this;simpa[setArgs]using G
 | t::ps,v::args,E,tm,tmps,hl,G=>by
  match E,hl with
  | u::E,hl =>
   have U:VRel σ v u:=hl.2 0 v u rfl rfl;have O:bK σ args E:=⟨by simpa using hl.1,fun i x y V W=>hl.2 (i+1) x y (by simpa using V) (by simpa using W)⟩;simp only[setArgs,List.zip_cons_cons,Vx];refine vY ps args E _ _ O ?_;have:=eM.put (a:={tmps:=tmps,defers:=[]}) G (some t) U;exact this
  | [],hl=>simp[bK]at hl
theorem pO(hm:P.follows .mixedOrders=true){gX:FuncId->Nat->List Tmp}{l:Nat}{args:LV}{h:Hp}{K:KT}
  (hx:sH P alP (SCalls P) gX l args h K):SCalls P (P.funcs.size+l) args h K:=by
 refine .inr ⟨l,rfl,fun base σ w G e hr hl he=>?_⟩;unfold sH at hx
 split at hx
 rotate_left;· exact hx.elim
 rename_i r ai
 split at hx
 rotate_left;· exact hx.elim
 rename_i hlen
 obtain⟨r',q1,q2,q3,q4,q5,q6,q7,q8⟩:=hr.loopAt he (gD ai);have ap:r'.params.size=r.params.length:=by rw[<-q6];simp
 have aq:G.size=args.length:=by have:=hl.1;simp at this;omega
 refine⟨r',q1,by omega,?_⟩;rw[q7,q8];refine roundIn_of_wpIn trivial ?_;have ht:eM σ (setArgs r.params args r.tm) (lP r' G):=by
  have:=vY r.params args G.toList r.tm r'.tmps hl q5;unfold lP;rw[<-Array.foldl_toList,Array.toList_zip,q6];exact this
 refine gM (cx:=⟨r.fn,some l⟩) (ro:=some e.rb) (a:={tmps:=lP r' G,defers:=[]}) hm r.assign hx ⟨e,he,rfl⟩ hr ht ?_;intro e1 ar au h1 a1 w1 ac ad aj _ _ U
 cases e1 with
 | normal =>
  simp only at U
  split at U
  rotate_left;· exact U.elim
  rename_i r2 ae
  split at U
  rotate_left;· exact U.elim
  rename_i V
  have W:=ac.le _ _ he;obtain⟨ak,p1,p2,p3,p4,p5,p6,p7,p8⟩:=ad.loopAt W (gD ae);obtain⟨k1,k2⟩:=ad.setOth (o':=.loop {r2 with state:=.busy}) (r':=.loop {ak with state:=.busy}) W (gD ae) rfl rfl ⟨rfl,p4,p5,p6,p7,p8⟩
  refine⟨_,run_beginRound p1 (by rw[p3];exact V),?_⟩;refine gM (cx:=⟨r.fn,some l⟩) (ro:=some e.rb) hm r.body U ⟨e,W,rfl⟩ k1 aj ?_;intro e3 al av h3 a3 w3 af ag ax _ _ O;have aa:=af.le _ _ W;unfold KS at O
  split at O
  rotate_left;· exact O.elim
  rename_i r3 ah
  obtain⟨an,s1,s2,s3,s4,s5,s6,s7,s8⟩:=ag.loopAt aa (gD ah);have fin:∀(E:Option Code) (b:Bool),E.isNone=b->K (.bool b) (h3.setOb l (.loop {r3 with state:=if E.isNone then .ready else .done,pending:=E}))->
    ∃v w4,(Instr.endRound e.rb E).run P w3 = .ok v w4/\sU base σ h w K (.returned v) w4:=by
   intro E b hb ao;obtain⟨t1,t2⟩:=ag.setOth (o':=.loop {r3 with state:=if E.isNone then .ready else .done,pending:=E}) (r':=.loop {an with state:=if E.isNone then .ready else .done,pending:=E}) aa (gD ah) rfl rfl ⟨rfl,rfl,s5,s6,s7,s8⟩
   exact⟨_,_,run_endRound E s1,.bool b,_,_,al,rfl,ao,by rw[hb];exact .bool b,t1,(ac.trans k2).trans (af.trans t2)⟩
  cases e3 with
  | normal=>exact fin none true rfl O
  | ret=>exact fin (some .ret) false rfl O
  | exit id=>exact fin (some (.exit id)) false rfl O
  | goto t=>exact O.elim
  | panic x=>exact O.elim
  | outgrown=>exact O.elim
 | ret=>exact U.elim
 | exit id=>exact U.elim
 | goto t=>exact U.elim
 | panic x=>exact U.elim
 | outgrown=>exact U.elim
end
section
variable {P:Program}
theorem FC{a b:BA}(h:a.data.toList=b.data.toList):a=b:=by
 cases a;cases b;simp at h;simp[h]
theorem Dr{n:Nat}(G:∀(x y:Value),rT n x y=true->x=y){a b:AV}(O:a.size=b.size)(E:((a.toList.zip b.toList).all fun(x,y)=>rT n x y)=true):a=b:=by
 rw[VK]at E;refine Array.ext O fun i g1 g2=>?_;refine G _ _ (E (a[i],b[i]) ?_);rw[Wl];exact⟨i,by simp[Wu,g1,g2]⟩
theorem Lz:∀(n:Nat) (x y:Value),rT n x y=true->x=y:=by
 intro n
 induction n with
 | zero =>
  intro x y h
  cases x <;> cases y <;> simp[rT]at h <;> first | exact congrArg _ (FC (by simp[h])) | simp_all
 | succ n E =>
  intro x y h
  cases x <;> cases y <;> simp only[rT,VA]at h
  case string.string=>exact congrArg _ (FC (by simpa using h))
  case agg.agg a b =>
   simp only[Uw,beq_iff_eq,VK]at h;congr 1;refine Array.ext h.1 fun i G O=>?_;refine E _ _ (h.2 (a[i],b[i]) ?_);rw[Wl];exact⟨i,by simp[Wu,G,O]⟩
  case func.func =>
   simp only[Uw,beq_iff_eq,decide_eq_true_eq]at h;obtain⟨⟨G,O,U⟩,V,W⟩:=h;rw[G,Dr E O U,Dr E V W]
  case iface.iface =>
   simp only[Uw,beq_iff_eq]at h;rw[h.1,E _ _ h.2]
  all_goals first | rfl | (simp at h;simp_all)
def qU(P:Program)(cB:FuncId->LV->Hp->(Value->Hp->Bool)->Bool):Prop:=∀f args h k,cB f args h k=true->SCalls P f args h fun v h'=>k v h'=true
theorem iP{α:Type}{m:Nat}{x:Option α}{f:α->Bool}{g:α->Prop}(h:opt (iY m).bot x f=true)(E:∀a,f a=true->g a):opt alP.bot x g:=by
 cases x with
 | none=>simp[opt,iY]at h
 | some a=>exact E a h
variable {m:Nat} {cB:FuncId->LV->Hp->(Value->Hp->Bool)->Bool}
theorem Lq(O:qU P cB){ops:List Oper}{o:Oper}{tm:LV}{h:Hp}{k:Value->Hp->Bool}{K:KT}(E:nT P (iY m) cB ops o tm h k=true)(G:∀v h,k v h=true->K v h):
  nT P alP (SCalls P) ops o tm h K:=by
 unfold nT at E ⊢
 split at E
 ·simp[iY]at E
 ·split at E
  ·exact iP E fun v=>G v _
  ·exact iP E fun v=>G v _
  ·exact iP E fun r=>G _ _
  ·split at E
   ·rename_i hw;try rw[if_pos hw]
    exact iP E fun V U=>(O _ _ _ _ U).mono G
   ·rename_i hw;try rw[if_neg hw]
    exact G _ _ E
  ·split at E
   ·rename_i hw;try rw[if_pos hw]
    refine iP E fun l hl=>?_;intro r hr;obtain⟨x,E,rfl⟩:=Uu.1 hr;refine G _ _ ?_;have:=VK.1 (show(l.map fun r=>k r.1 r.2).all id=true from hl) _ (Uu.2 ⟨x,E,rfl⟩);exact this
   ·rename_i hw;try rw[if_neg hw]
    exact G _ _ E
  ·exact iP E fun r=>G _ _
theorem Hc(G:qU P cB){ops:List Oper}{k:LV->Hp->Bool}{K:LV->Hp->Prop}(O:∀tm h,k tm h=true->K tm h):∀{rest:List Oper} {tm:LV} {h:Hp},pP P (iY m) cB ops rest tm h k=true->pP P alP (SCalls P) ops rest tm h K
 | [],tm,h,E=>O _ _ E
 | o::rest,tm,h,E=>by
  simp only[pP]at E ⊢;exact Lq G E fun v h'=>Hc G O
theorem jR{am:Nat}{h:Hp}{r:Bool}{R:Prop}(hr:r=true->R):∀{bF:List Owed},eY P (iY m) am h bF r=true->eY P alP am h bF R
 | [],E=>hr E
 | d::bF,E=>by
  unfold eY at E ⊢;simp only[Vv]at E ⊢
  split
  ·rename_i hb;rw[if_pos hb]at E;exact jR hr E
  ·rename_i hb
   rw[if_neg hb]at E;simp only[iY,Uw,Option.any_eq_true]at E;obtain⟨⟨y,G,hs⟩,O⟩:=E;exact⟨by rw[G,Lz _ _ _ hs],jR hr O⟩
theorem DB(O:qU P cB){L:List Oper}{fs:List Inf}{pre:List OV}{k:LV->Hp->Bool}{K:LV->Hp->Prop}(U:∀tm h,k tm h=true->K tm h):
  ∀{rest:LN} {tm:LV} {bF:List Owed} {h:Hp},xDraw P (iY m) cB L fs pre rest tm bF h k=true->xDraw P alP (SCalls P) L fs pre rest tm bF h K
 | [],tm,bF,h,E=>U _ _ E
 | i::rest,tm,bF,h,E=>by
  have G:=fun {tm} {bF} {h}=>DB O (L:=L) (fs:=fs) (pre:=pre) U (rest:=rest) (tm:=tm) (bF:=bF) (h:=h);simp only[xDraw]at E ⊢
  split at E
  ·rename_i o f e1 e2
   split at E
   ·simp[iY]at E
   ·split at E
    ·exact G E
    ·split at E
     ·exact iP E fun v=>G
     ·exact iP E fun v=>G
     ·exact iP E fun r=>jR G
     ·split at E
      ·rename_i hw;try rw[if_pos hw]
       exact iP E fun W V=>(O _ _ _ _ V).mono fun v h'=>jR G
      ·rename_i hw;try rw[if_neg hw]
       exact jR G E
     ·split at E
      ·rename_i hw;try rw[if_pos hw]
       refine iP E fun l hl r hr=>?_;obtain⟨x,E,rfl⟩:=Uu.1 hr;have:=VK.1 (show(l.map fun r=>eY P (iY m) f.am r.2 bF (xDraw P (iY m) cB L fs pre rest (put tm o.dst r.1) bF r.2 k)).all id=true from hl) _ (Uu.2 ⟨x,E,rfl⟩);exact jR G this
      ·rename_i hw;try rw[if_neg hw]
       exact jR G E
     ·exact iP E fun r=>G
  ·simp[iY]at E
theorem FP(G:qU P cB){ops:List Oper}{tm:LV}{h:Hp}{k:LV->Hp->Bool}{K:LV->Hp->Prop}(O:∀tm h,k tm h=true->K tm h)(E:jZ P (iY m) cB ops tm h k=true):jZ P alP (SCalls P) ops tm h K:=by
 unfold jZ at E ⊢
 split at E
 ·rename_i U;rw[if_pos U];exact iP E fun r=>DB G O
 ·simp[iY]at E
theorem EJ{kp:List Tmp}{body:(Exit->LV->Hp->Bool)->LV->Hp->Bool}{zV:(Exit->LV->Hp->Prop)->LV->Hp->Prop}
  (hb:∀(k:Exit->LV->Hp->Bool) (K:Exit->LV->Hp->Prop),(∀e tm h,k e tm h=true->K e tm h)->∀vals h,body k vals h=true->zV K vals h)
  {k:Exit->LV->Hp->Bool} {K:Exit->LV->Hp->Prop} (E:∀e tm h,k e tm h=true->K e tm h):∀(n:Nat) (vals:LV) (h:Hp),pY (iY m).bot body kp k n vals h=true->pY alP.bot zV kp K n vals h
 | 0,vals,h,G=>by simp[pY,iY]at G
 | n+1,vals,h,G=>by
  unfold pY at G ⊢;refine hb _ _ ?_ vals h G;intro e tm h' he
  cases e with
  | normal=>exact EJ hb E n _ h' he
  | exit id=>exact E _ _ _ he
  | goto l=>exact E _ _ _ he
  | ret=>exact E _ _ _ he
  | panic c=>exact E _ _ _ he
  | outgrown=>exact E _ _ _ he
theorem EK{body:(Exit->LV->Hp->Bool)->LV->Hp->Bool}{zV:(Exit->LV->Hp->Prop)->LV->Hp->Prop}
  (hb:∀(k:Exit->LV->Hp->Bool) (K:Exit->LV->Hp->Prop),(∀e tm h,k e tm h=true->K e tm h)->∀vals h,body k vals h=true->zV K vals h)
  {k:Exit->LV->Hp->Bool} {K:Exit->LV->Hp->Prop} (E:∀e tm h,k e tm h=true->K e tm h):∀(n:Nat) (vals:LV) (h:Hp),wD (iY m).bot body k n vals h=true->wD alP.bot zV K n vals h
 | 0,vals,h,G=>by simp[wD,iY]at G
 | n+1,vals,h,G=>by
  unfold wD at G ⊢;refine hb _ _ ?_ vals h G;intro e tm h' he
  cases e with
  | normal=>exact EK hb E n _ h' he
  | exit id=>exact E _ _ _ he
  | goto l=>exact E _ _ _ he
  | ret=>exact E _ _ _ he
  | panic c=>exact E _ _ _ he
  | outgrown=>exact E _ _ _ he
theorem pQ(O:qU P cB){cx:Cx}{gX:Nat->List Tmp}:∀(c:Code) {k:Exit->LV->Hp->Bool} {K:Exit->LV->Hp->Prop} {tm:LV} {h:Hp},(∀e tm h,k e tm h=true->K e tm h)->xC P (iY m) cB cx gX c k tm h=true->xC P alP (SCalls P) cx gX c K tm h
 | .skip,k,K,tm,h,E,G=>E _ _ _ G
 | .exit id,k,K,tm,h,E,G=>E _ _ _ G
 | .ret,k,K,tm,h,E,G=>E _ _ _ G
 | .label l,k,K,tm,h,E,G=>E _ _ _ G
 | .region id ops false,k,K,tm,h,E,G=>Hc O (fun tm h=>E _ _ _) G
 | .region id ops true,k,K,tm,h,E,G=>FP O (fun tm h=>E _ _ _) G
 | .seq x y,k,K,tm,h,E,G=>by
  refine pQ O x ?_ G;intro e tm h he
  cases e with
  | normal=>exact pQ O y E he
  | exit id=>exact E _ _ _ he
  | goto l=>exact E _ _ _ he
  | ret=>exact E _ _ _ he
  | panic c=>exact E _ _ _ he
  | outgrown=>exact E _ _ _ he
 | .cond c x y,k,K,tm,h,E,G=>by
  simp only[xC]at G ⊢
  split at G
  ·rename_i t he
   cases t with
   | true=>simp only[if_true]at G ⊢;exact pQ O x E G
   | false=>simp only[VA,if_false]at G ⊢;exact pQ O y E G
  ·simp[iY]at G
 | .block id c,k,K,tm,h,E,G=>by
  refine pQ O c ?_ G;intro e tm h he
  cases e with
  | exit i =>
   simp only at he ⊢
   split at he
   ·rename_i hi;rw[if_pos hi];exact E _ _ _ he
   ·rename_i hi;rw[if_neg hi];exact E _ _ _ he
  | normal=>exact E _ _ _ he
  | goto l=>exact E _ _ _ he
  | ret=>exact E _ _ _ he
  | panic c=>exact E _ _ _ he
  | outgrown=>exact E _ _ _ he
 | .loop c,k,K,tm,h,E,G=>by
  simp only[xC]at G ⊢
  split at G
  ·rename_i U
   rw[if_pos U];exact⟨m,EK (m:=m) (body:=fun k tm h=>xC P (iY m) cB cx gX c k tm h) (zV:=fun k tm h=>xC P alP (SCalls P) cx gX c k tm h) (fun k K E vals h=>pQ O c E) E m _ h G⟩
  rename_i U
  rw[if_neg U];refine⟨m,?_⟩;have V:pY (iY m).bot (fun k vals h=>xC P (iY m) cB cx gX c k (eK (gX ((aX c).getD 0)) vals 0 (forget (wr c) (gX ((aX c).getD 0)) tm)) h) (gX ((aX c).getD 0)) k m ((gX ((aX c).getD 0)).map fun t=>tm.getD t undef) h=true:=G;exact EJ (m:=m) (body:=fun k vals h=>xC P (iY m) cB cx gX c k (eK (gX ((aX c).getD 0)) vals 0 (forget (wr c) (gX ((aX c).getD 0)) tm)) h)
   (zV:=fun k vals h=>xC P alP (SCalls P) cx gX c k (eK (gX ((aX c).getD 0)) vals 0 (forget (wr c) (gX ((aX c).getD 0)) tm)) h)
   (fun k K E vals h=>pQ O c E) E m _ h V
 | .rangeFunc g ps x y,k,K,tm,h,E,G=>by
  unfold xC at G ⊢
  split at G
  ·rename_i W
   rw[if_pos W]
   split at G
   ·split at G
    ·rename_i aa
     rw[if_pos aa];refine(O _ _ _ _ G).mono fun v h' he=>?_;unfold vA at he ⊢
     split at he
     ·split at he
      ·simp[iY]at he
      ·rename_i hb
       rw[if_neg hb]
       split at he
       ·exact E _ _ _ he
       ·exact E _ _ _ he
       ·exact E _ _ _ he
       ·simp[iY]at he
     ·simp[iY]at he
    ·simp[iY]at G
   ·simp[iY]at G
  ·simp[iY]at G
 | .scope c,k,K,tm,h,E,G=>by
  refine pQ O c ?_ G;intro e tm h he
  cases e with
  | goto l=>simp[iY]at he
  | normal=>exact E _ _ _ he
  | exit id=>exact E _ _ _ he
  | ret=>exact E _ _ _ he
  | panic c=>exact E _ _ _ he
  | outgrown=>exact E _ _ _ he
 | .goto l,k,K,tm,h,E,G=>by simp[xC,iY]at G
 | .refuse s,k,K,tm,h,E,G=>by simp[xC,iY]at G
theorem Nt(G:qU P cB){f:FuncId}{gX:Nat->List Tmp}{fn:Func}{c:Code}{args:LV}{h:Hp}{k:Value->Hp->Bool}{K:KT}(E:∀v h,k v h=true->K v h)(O:IY P (iY m) cB f gX fn c args h k=true):IY P alP (SCalls P) f gX fn c args h K:=by
 refine pQ G c ?_ O;intro e tm h he
 cases e with
 | normal=>exact iP he fun v=>E v _
 | ret=>exact iP he fun v=>E v _
 | exit id=>simp[iY]at he
 | goto l=>simp[iY]at he
 | panic x=>simp[iY]at he
 | outgrown=>simp[iY]at he
theorem PW{l:Nat}{k:Value->Hp->Bool}{K:KT}(E:∀v h,k v h=true->K v h){e:Exit}{h:Hp}(he:KS (iY m).bot l k e h=true):KS alP.bot l K e h:=by
 unfold KS at he ⊢
 split at he
 ·cases e with
  | normal=>exact E _ _ he
  | ret=>exact E _ _ he
  | exit id=>exact E _ _ he
  | goto t=>simp[iY]at he
  | panic x=>simp[iY]at he
  | outgrown=>simp[iY]at he
 ·simp[iY]at he
theorem Jp(O:qU P cB){gX:FuncId->Nat->List Tmp}{l:Nat}{args:LV}{h:Hp}{k:Value->Hp->Bool}{K:KT}(U:∀v h,k v h=true->K v h)
  (G:sH P (iY m) cB gX l args h k=true):sH P alP (SCalls P) gX l args h K:=by
 unfold sH at G ⊢
 split at G
 ·rename_i r hl
  split at G
  ·rename_i hlen
   rw[if_pos hlen];refine pQ O r.assign ?_ G;intro e tm W he
   cases e with
   | normal =>
    simp only at he ⊢
    split at he
    ·rename_i r' V
     split at he
     ·rename_i E
      rw[if_pos E];exact pQ O r.body (fun e tm h2 he=>PW U he) he
     ·simp[iY]at he
    ·simp[iY]at he
   | ret=>simp[iY]at he
   | exit id=>simp[iY]at he
   | goto t=>simp[iY]at he
   | panic x=>simp[iY]at he
   | outgrown=>simp[iY]at he
  ·simp[iY]at G
 ·simp[iY]at G
theorem Hd(hm:P.follows .mixedOrders=true){gX:FuncId->Nat->List Tmp}:∀(n:Nat),qU P (xF P (iY m) gX n)
 | 0=>fun f args h k E=>by simp[xF,iY]at E
 | n+1=>fun f args h k E=>by
  unfold xF at E
  split at E
  ·rename_i fn G
   split at E
   ·rename_i c hb
    split at E
    ·rename_i O
     exact Ba hm G hb O (Nt (Hd hm n) (fun v h U=>U) E)
    ·simp[iY]at E
   ·simp[iY]at E
  ·rename_i G
   have V:P.funcs.size<=f:=Array.getElem?_eq_none_iff.1 G;have:=pO hm (Jp (Hd hm n) (fun v h U=>U) E)
   rwa [show P.funcs.size+(f - P.funcs.size)=f by omega]at this
end
theorem AH(base:Nat)(w:World)(h:base<=w.heap.size):HR base (fun _=>none) Hp.empty w:=by
 have G:∀b,Hp.empty.ob b=none:=fun b=>rfl;have E:∀b,Hp.empty.gs.get b=none:=fun b=>rfl;exact⟨h,by simp,fun b _=>⟨rfl,rfl⟩,by simp,by simp[G],by simp,by simp[E],by simp[E],by simp,by intro b e o h;simp at h⟩
end Go.Cn
