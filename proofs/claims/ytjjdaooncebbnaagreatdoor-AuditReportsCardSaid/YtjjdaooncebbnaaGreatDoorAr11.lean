/- Joined: CpD, CoD. -/
import Derived.Test.YtjjdaooncebbnaaGreatDoorAr10
/- Evaluation that the kernel does fast (3): code and functions. -/
set_option linter.unusedVariables false
set_option linter.unusedSimpArgs false
namespace Go.Cn

section
variable (P : Program)

theorem kregion_eq {n : Nat} (m : Nat) (cF : CF) (ops : List Oper) {k' : Tv → Hp → Bool} {k : List Value → Hp → Bool} (hk : ∀ t tm h, RT n t tm → k' t h = k tm h) {t : Tv} {tm : List Value} (hR : RT n t tm) (h : Hp) :
    (kregion P n m ops).run cF t h k' = xRegion P (alB m) cF ops tm h k := by
  have hp := pairs_mem (infos P ops) (infos P ops) 0 rfl
  have hlen : ∀ (ops1 : List Oper) (acc : List Inf), (infosFrom P ops ops1 acc).length = acc.length + ops1.length := by
    intro ops1
    induction ops1 with
    | nil => intro acc; rfl
    | cons o l ih => intro acc; simp only [infosFrom, ih, List.length_append, List.length_cons, List.length_nil]; omega
  have hlen0 : (infos P ops).length = ops.length := by unfold infos; rw [hlen]; simp
  obtain ⟨g1, g2⟩ := greedyK_eq (fs := infos P ops) ops.length (pairs (infos P ops) 0) 0 hp
  have g3 : (greedyK ops.length (pairs (infos P ops) 0) 0).map (·.1) = greedy (infos P ops) ops.length (List.range ops.length) 0 := by
    rw [g1, pairs_fst, hlen0, List.range_eq_range']
  have g4 := orderK_eq (fs := infos P ops) (greedyK ops.length (pairs (infos P ops) 0) 0) [] 0 0 g2 (fun p hp => by simp at hp)
  rw [g3] at g4
  simp only [List.map_nil] at g4
  unfold kregion xRegion
  simp only [g4]
  cases ho : orderOk (infos P ops) (greedy (infos P ops) ops.length (List.range ops.length) 0) [] 0 0 with
  | false => rfl
  | true =>
    simp only [if_true]
    cases ha : (ops.any fun o => isAlloc o.op) with
    | true =>
      simp only
      cases hpa : preAlloc P ops h with
      | none => rfl
      | some r =>
        simp only [opt]
        rw [← g3]
        exact kdraw_eq P m cF ops (infos P ops) r.1 r.1 (preAlloc_none P ops h r.2 r.1 (by rw [hpa])) (fun _ _ _ _ => rfl) hk _ g2 hR .nil r.2
    | false =>
      obtain ⟨pre, hpa⟩ := preAlloc_free P ops h ha
      simp only [hpa, opt]
      rw [← g3]
      refine kdraw_eq P m cF ops (infos P ops) pre [] (preAlloc_none P ops h h pre hpa) (fun i o hi hal => ?_) hk _ g2 hR .nil h
      exfalso
      have : (ops.any fun o => isAlloc o.op) = true := List.any_eq_true.2 ⟨o, List.mem_of_getElem? hi, hal⟩
      rw [ha] at this
      simp at this

/-! ### Code -/
/-- All slots go on. -/
def annE : Nat → List Tmp := fun i => if i ≥ 1000000 then [] else [999999999]
theorem annE_join (b : Code) : annE (joinId b) = [] := by unfold annE joinId; rw [if_pos (by omega)]

def loopT (body : (Exit → Tv → Hp → Bool) → Tv → Hp → Bool) (k : Exit → Tv → Hp → Bool) : Nat → Tv → Hp → Bool
  | 0, _, _ => false
  | n + 1, t, h => body (fun e t h' => match e with
      | .normal => loopT body k n t h'
      | e => k e t h') t h

theorem loopT_eq {n : Nat} {b' : (Exit → Tv → Hp → Bool) → Tv → Hp → Bool} {b : (Exit → List Value → Hp → Bool) → List Value → Hp → Bool} {k' : Exit → Tv → Hp → Bool} {k : Exit → List Value → Hp → Bool}
    (hb : ∀ {k' : Exit → Tv → Hp → Bool} {k : Exit → List Value → Hp → Bool}, (∀ e t tm h, RT n t tm → k' e t h = k e tm h) → ∀ {t tm} (h : Hp), RT n t tm → b' k' t h = b k tm h)
    (hk : ∀ e t tm h, RT n t tm → k' e t h = k e tm h) : ∀ (m : Nat) {t tm} (h : Hp), RT n t tm → loopT b' k' m t h = loopW false b k m tm h
  | 0, t, tm, h, hR => rfl
  | m + 1, t, tm, h, hR => by
    unfold loopT loopW
    refine hb (fun e t tm h' hR' => ?_) h hR
    cases e <;> first | exact loopT_eq hb hk m h' hR' | exact hk _ _ _ _ hR'

/-- Do all loops have a number below the joints'? -/
def small : Code → Bool
  | .seq a b => small a && small b
  | .cond _ a b => small a && small b
  | .block _ c => small c
  | .scope c => small c
  | .loop c => decide ((firstRegion c).getD 0 < 1000000) && small c
  | _ => true

structure KX where
  run : Cx → CF → (Exit → Tv → Hp → Bool) → Tv → Hp → Bool

def kcode (n m : Nat) : Code → KX
  | .skip => ⟨fun _ _ k t h => k .normal t h⟩
  | .region _ ops false => let r := kops P n ops.toList ops.toList; ⟨fun _ cF k t h => r.run cF t h fun t h => k .normal t h⟩
  | .region _ ops true => let r := kregion P n m ops.toList; ⟨fun _ cF k t h => r.run cF t h fun t h => k .normal t h⟩
  | .seq a b =>
    let x := kcode n m a
    let y := kcode n m b
    ⟨fun cx cF k t h => x.run cx cF (fun e t h => match e with
        | .normal => y.run cx cF k t h
        | e => k e t h) t h⟩
  | .cond c a b =>
    let q := kev c
    let x := kcode n m a
    let y := kcode n m b
    ⟨fun cx cF k t h => match q.run t with
      | .bool true => x.run cx cF k t h
      | .bool false => y.run cx cF k t h
      | _ => false⟩
  | .block id c =>
    let x := kcode n m c
    ⟨fun cx cF k t h => x.run cx cF (fun e t h => match e with
      | .exit i => if i = id then k .normal t h else k (.exit i) t h
      | e => k e t h) t h⟩
  | .loop c =>
    let x := kcode n m c
    ⟨fun cx cF k t h => loopT (fun k t h => x.run cx cF k t h) k m t h⟩
  | .exit id => ⟨fun _ _ k t h => k (.exit id) t h⟩
  | .ret => ⟨fun _ _ k t h => k .ret t h⟩
  | .label _ => ⟨fun _ _ k t h => k .normal t h⟩
  | .scope c =>
    let x := kcode n m c
    ⟨fun cx cF k t h => x.run cx cF (fun e t h => match e with
      | .goto _ => false
      | e => k e t h) t h⟩
  | .rangeFunc g ps asg body =>
    let q := kev g
    ⟨fun cx cF k t h => if cx.ok h then
      match q.run t with
      | .func (.func f) first captured =>
        if f < P.funcs.size then
          cF f (first.toList ++ [.func (.yield h.next) #[] #[]] ++ captured.toList) (h.newOb (.loop ⟨.ready, none, cx.me, toL t n 0, ps.toList, asg, body⟩)) fun _ h' => leaveX false h.next [] (fun e _ h => k e t h) h'
        else false
      | _ => false
    else false⟩
  | _ => ⟨fun _ _ _ _ _ => false⟩

theorem leaveX_tm (l : Nat) (tm : List Value) {k' k : Exit → List Value → Hp → Bool} (hk : ∀ e h, k' e [] h = k e tm h) (h : Hp) : leaveX false l [] k' h = leaveX false l tm k h := by
  unfold leaveX
  cases loopAt h l with
  | none => rfl
  | some r =>
    simp only [hk]

theorem kcode_eq (m : Nat) (cF : CF) (cx : Cx) {n : Nat} : ∀ (c : Code) (hs : small c = true) {k' : Exit → Tv → Hp → Bool} {k : Exit → List Value → Hp → Bool}, (∀ e t tm h, RT n t tm → k' e t h = k e tm h) → ∀ {t tm} (h : Hp), RT n t tm →
    (kcode P n m c).run cx cF k' t h = xC P (alB m) cF cx annE c k tm h
  | .skip, _, k', k, hk, t, tm, h, hR => hk _ _ _ _ hR
  | .exit id, _, k', k, hk, t, tm, h, hR => hk _ _ _ _ hR
  | .ret, _, k', k, hk, t, tm, h, hR => hk _ _ _ _ hR
  | .label l, _, k', k, hk, t, tm, h, hR => hk _ _ _ _ hR
  | .region id ops false, _, k', k, hk, t, tm, h, hR => by
    simp only [kcode, xC]
    exact kops_eq P m cF _ (k' := fun t h => k' .normal t h) (k := fun tm h => k .normal tm h) (fun t tm h hR => hk .normal t tm h hR) _ hR h
  | .region id ops true, _, k', k, hk, t, tm, h, hR => by
    simp only [kcode, xC]
    exact kregion_eq P m cF _ (k' := fun t h => k' .normal t h) (k := fun tm h => k .normal tm h) (fun t tm h hR => hk .normal t tm h hR) hR h
  | .seq a b, hs, k', k, hk, t, tm, h, hR => by
    simp only [small, Bool.and_eq_true] at hs
    simp only [kcode, xC, annE_join, joinT]
    refine kcode_eq m cF cx a hs.1 (fun e t tm h hR => ?_) h hR
    cases e <;> first | exact kcode_eq m cF cx b hs.2 hk h hR | exact hk _ _ _ _ hR
  | .cond c a b, hs, k', k, hk, t, tm, h, hR => by
    simp only [small, Bool.and_eq_true] at hs
    have iha := kcode_eq m cF cx a hs.1 hk h hR
    have ihb := kcode_eq m cF cx b hs.2 hk h hR
    simp only [kcode, xC, kev_eq hR]
    generalize ev tm c = x
    cases x with
    | bool u => cases u with
      | true => exact iha
      | false => exact ihb
    | _ => rfl
  | .block id c, hs, k', k, hk, t, tm, h, hR => by
    simp only [small] at hs
    simp only [kcode, xC]
    refine kcode_eq m cF cx c hs (fun e t tm h hR => ?_) h hR
    cases e <;> simp only [hk _ _ _ _ hR]
  | .loop c, hs, k', k, hk, t, tm, h, hR => by
    simp only [small, Bool.and_eq_true, decide_eq_true_eq] at hs
    simp only [kcode, xC]
    have hka : keepAll (annE ((firstRegion c).getD 0)) = true := by unfold annE; rw [if_neg (by omega)]; rfl
    rw [if_pos hka]
    exact loopT_eq (n := n) (fun {k' k} hk {t tm} h hR => kcode_eq m cF cx c hs.2 hk h hR) hk m h hR
  | .scope c, hs, k', k, hk, t, tm, h, hR => by
    simp only [small] at hs
    simp only [kcode, xC]
    refine kcode_eq m cF cx c hs (fun e t tm h hR => ?_) h hR
    cases e <;> first | rfl | exact hk _ _ _ _ hR
  | .rangeFunc g ps x y, _, k', k, hk, t, tm, h, hR => by
    simp only [kcode, xC, kev_eq hR, hR.toL]
    split
    · generalize ev tm g = z
      cases z with
      | func f first captured => cases f with
        | func f =>
          simp only
          split
          · congr 1
            funext v h'
            exact leaveX_tm _ _ (fun e h => hk _ _ _ _ hR) _
          · rfl
        | _ => rfl
      | _ => rfl
    · rfl
  | .goto l, _, k', k, hk, t, tm, h, hR => rfl
  | .refuse s, _, k', k, hk, t, tm, h, hR => rfl

/-! ### Functions -/
def krv (r : ResultVar) : KR :=
  match r with
  | .tmp i => let g := gt i; ⟨fun t _ => some (g.run t)⟩
  | .cell a ty => let g := gt a; ⟨fun t h => cload P ty (g.run t) h⟩

structure KM where
  run : Tv → Hp → Option (List Value)
def krvs : List ResultVar → KM
  | [] => ⟨fun _ _ => some []⟩
  | r :: rs =>
    let q := krv P r
    let qs := krvs rs
    ⟨fun t h => match q.run t h with
      | some v => match qs.run t h with
        | some l => some (v :: l)
        | none => none
      | none => none⟩

def kres (rs : List ResultVar) : KR :=
  match rs with
  | [] => ⟨fun _ _ => some (.tuple #[])⟩
  | [r] => krv P r
  | rs => let q := krvs P rs; ⟨fun t h => match q.run t h with
    | some [v] => some v
    | some vs => some (.tuple vs.toArray)
    | none => none⟩

theorem krv_eq {n : Nat} {t : Tv} {tm : List Value} (hR : RT n t tm) (r : ResultVar) (h : Hp) : (krv P r).run t h = (match r with
    | .tmp t => some (tm.getD t undef)
    | .cell a t => cload P t (tm.getD a undef) h) := by
  cases r <;> simp only [krv, hR.get]

theorem krvs_eq {n : Nat} {t : Tv} {tm : List Value} (hR : RT n t tm) (h : Hp) : ∀ rs, (krvs P rs).run t h = rs.mapM fun r => match r with
    | .tmp t => some (tm.getD t undef)
    | .cell a t => cload P t (tm.getD a undef) h
  | [] => rfl
  | r :: rs => by
    simp only [krvs, List.mapM_cons, krv_eq P hR, krvs_eq hR h rs]
    cases r with
    | tmp i =>
      simp only
      cases hq : List.mapM (fun r => match r with
        | ResultVar.tmp t => some (tm.getD t undef)
        | ResultVar.cell a t => cload P t (tm.getD a undef) h) rs <;> simp [bind, pure, hq]
    | cell a ty =>
      simp only
      cases cload P ty (tm.getD a undef) h with
      | none => rfl
      | some v =>
        cases hq : List.mapM (fun r => match r with
          | ResultVar.tmp t => some (tm.getD t undef)
          | ResultVar.cell a t => cload P t (tm.getD a undef) h) rs <;> simp [bind, pure, hq]

theorem kres_eq {n : Nat} {t : Tv} {tm : List Value} (hR : RT n t tm) (fn : Func) (h : Hp) : (kres P fn.results.toList).run t h = resultsOf P fn tm h := by
  unfold resultsOf
  have hq := krvs_eq P hR h fn.results.toList
  generalize fn.results.toList = rs at hq ⊢
  match rs with
  | [] => rfl
  | [r] =>
    simp only [kres]
    rw [krv_eq P hR]
    cases r with
    | tmp i => rfl
    | cell a ty =>
      simp only [List.mapM_cons, List.mapM_nil]
      cases cload P ty (tm.getD a undef) h <;> rfl
  | a :: b :: l =>
    simp only [kres, hq]
    rfl

structure KF where
  run : CF → List Value → Hp → (Value → Hp → Bool) → Bool

def kfunc (m : Nat) (f : FuncId) (fn : Func) (c : Code) : KF :=
  match small c with
  | true =>
    let n := fn.ntmps
    let x := kcode P n m c
    let q := kres P fn.results.toList
    let cx : Cx := ⟨f, none⟩
    ⟨fun cF args h k => match decide (args.length ≤ n) with
      | true => x.run cx cF (fun e t h' => match e with
        | .normal | .ret => opt false (q.run t h') fun v => k v h'
        | _ => false) (ofL args 0 .leaf) h
      | false => bodyX P (alB m) cF f annE fn c args h k⟩
  | false => ⟨fun cF args h k => bodyX P (alB m) cF f annE fn c args h k⟩

theorem kfunc_eq (m : Nat) (cF : CF) (f : FuncId) (fn : Func) (c : Code) (args : List Value) (h : Hp) (k : Value → Hp → Bool) : (kfunc P m f fn c).run cF args h k = bodyX P (alB m) cF f annE fn c args h k := by
  unfold kfunc
  cases hs : small c with
  | false => rfl
  | true =>
    simp only
    cases hd : decide (args.length ≤ fn.ntmps) with
    | false => rfl
    | true =>
      simp only
      unfold bodyX
      refine kcode_eq P m cF _ c hs (fun e t tm h' hR => ?_) h (RT.args (by simpa using hd))
      cases e <;> simp only [kres_eq P hR] <;> rfl

theorem setArgs_length : ∀ (ps : List Tmp) (args tm : List Value), (setArgs ps args tm).length = tm.length
  | [], _, _ => by simp [setArgs]
  | p :: ps, [], _ => by simp [setArgs]
  | p :: ps, a :: args, tm => by simp [setArgs, setArgs_length ps args]

/-- A round. -/
def kround (m : Nat) (cF : CF) (l : Nat) (args : List Value) (h : Hp) (k : Value → Hp → Bool) : Bool :=
  match loopAt h l with
  | some r =>
    match (P.funcs[r.fn]?).map (·.ntmps) with
    | some n =>
      match decide (r.tm.length = n) && small r.assign && small r.body with
      | true =>
        if r.params.length = args.length then
          (kcode P n m r.assign).run ⟨r.fn, some l⟩ cF (fun e t h => match e with
            | .normal => match loopAt h l with
              | some r' => if r'.state = .ready then (kcode P n m r.body).run ⟨r.fn, some l⟩ cF (fun e _ h => endX false l k e h) t (h.setOb l (.loop { r' with state := .busy })) else false
              | none => false
            | _ => false) (ofL (setArgs r.params args r.tm) 0 .leaf) h
        else false
      | false => roundX P (alB m) cF (fun _ => annE) l args h k
    | none => roundX P (alB m) cF (fun _ => annE) l args h k
  | none => false

theorem kround_eq (m : Nat) (cF : CF) (l : Nat) (args : List Value) (h : Hp) (k : Value → Hp → Bool) : kround P m cF l args h k = roundX P (alB m) cF (fun _ => annE) l args h k := by
  unfold kround
  cases hl : loopAt h l with
  | none => unfold roundX; rw [hl]; rfl
  | some r =>
    simp only
    cases hn : (P.funcs[r.fn]?).map (·.ntmps) with
    | none => rfl
    | some n =>
      simp only
      cases hc : decide (r.tm.length = n) && small r.assign && small r.body with
      | false => rfl
      | true =>
        simp only [Bool.and_eq_true, decide_eq_true_eq] at hc
        obtain ⟨⟨h1, h2⟩, h3⟩ := hc
        subst h1
        simp only
        unfold roundX
        simp only [hl]
        split
        · have hR := RT.of (setArgs r.params args r.tm)
          rw [setArgs_length] at hR
          refine kcode_eq P m cF _ r.assign h2 (fun e t tm h hR => ?_) h hR
          cases e <;> try rfl
          simp only
          cases loopAt h l with
          | none => rfl
          | some r' =>
            simp only
            split
            · exact kcode_eq P m cF _ r.body h3 (k' := fun e _ h => endX false l k e h) (k := fun e _ h => endX false l k e h) (fun e t tm h hR => rfl) _ hR
            · rfl
        · rfl

/-! ### All functions in a tree -/
def trOf : List Func → Nat → Tr Func → Tr Func
  | [], _, t => t
  | x :: xs, i, t => trOf xs (i + 1) (Tr.set x (i + 1) i t)

theorem trOf_get : ∀ (l : List Func) (i : Nat) (t : Tr Func) (j : Nat), (trOf l i t).get j = if i ≤ j ∧ j < i + l.length then l[j - i]? else t.get j
  | [], i, t, j => by rw [if_neg (by simp only [List.length_nil]; omega)]; rfl
  | v :: vs, i, t, j => by
    simp only [trOf, trOf_get vs, List.length_cons]
    rw [Tr.get_set _ _ _ _ _ (by omega)]
    by_cases h1 : j = i
    · subst h1
      rw [if_neg (by omega), if_pos rfl, if_pos (by omega)]
      simp
    · by_cases h2 : i + 1 ≤ j ∧ j < i + 1 + vs.length
      · rw [if_pos h2, if_pos (by omega)]
        rw [show j - i = (j - (i + 1)) + 1 by omega]
        simp
      · rw [if_neg h2, if_neg h1, if_neg (by omega)]

def funsT : Tr Func := trOf P.funcs.toList 0 .leaf

theorem funsT_get (f : Nat) : (funsT P).get f = P.funcs[f]? := by
  unfold funsT
  rw [trOf_get]
  by_cases h : f < P.funcs.size
  · rw [if_pos (by simp; exact h)]; simp
  · rw [if_neg (by simp; omega), Array.getElem?_eq_none (by omega)]; rfl

structure KB where
  run : Option KF
/-- A function's closure. -/
def kfun (m : Nat) (f : FuncId) : Option (Option KF) :=
  match (funsT P).get f with
  | some fn => match fn.body with
    | some c => match mayCall fn with
      | true => some (some (kfunc P m f fn c))
      | false => some none
    | none => some none
  | none => none

/-- xG, fast. -/
def xK (m : Nat) (nat : FuncId → List Value → Hp → Option (Option Value)) : Nat → FuncId → List Value → Hp → (Value → Hp → Bool) → Bool
  | 0, _, _, _, _ => false
  | n + 1, f, args, h, k =>
    match nat f args h with
    | some (some v) => k v h
    | some none => false
    | none =>
      match kfun P m f with
      | some (some q) => q.run (xK m nat n) args h k
      | some none => false
      | none => kround P m (xK m nat n) (f - P.funcs.size) args h k

theorem xK_eq (m : Nat) (nat : FuncId → List Value → Hp → Option (Option Value)) : ∀ (n : Nat), xK P m nat n = xG P (alB m) nat (fun _ => annE) n
  | 0 => rfl
  | n + 1 => by
    funext f args h k
    simp only [xK, xG, xK_eq m nat n, kfun, funsT_get]
    cases hn : nat f args h with
    | some r => cases r <;> rfl
    | none =>
      simp only
      cases hf : P.funcs[f]? with
      | none => exact kround_eq P m _ _ _ _ _
      | some fn =>
        simp only
        cases hb : fn.body with
        | none => rfl
        | some c =>
          simp only
          cases hm : mayCall fn with
          | true => simp only [kfunc_eq]; rfl
          | false => rfl
end

section
variable {P : Program}
/-- A call without arguments, evaluated fast. -/
theorem closedK_bool (hm : P.follows .mixedOrders = true) {m n : Nat} {nat : FuncId → List Value → Hp → Option (Option Value)} (hn : NatOk P nat) {f : FuncId}
    (hx : xK P m nat n f [] Hp.empty (fun v _ => match v with | .bool b => b | _ => false) = true) : SCalls P f [] Hp.empty fun v _ => v = .bool true := by
  rw [xK_eq] at hx
  refine (xG_ok hm hn n f [] Hp.empty _ hx).mono fun v h' hv => ?_
  cases v with
  | bool b => simp at hv; rw [hv]
  | _ => simp at hv
end
end Go.Cn

/- A call that reads no memory of the caller's: its contract over the empty heap serves over every heap. -/
set_option linter.unusedVariables false
set_option linter.unusedSimpArgs false
namespace Go.Cn

section
variable {P : Program}
theorem SCalls.closed {f : FuncId} {h : Hp} {K : Value → Prop} (hlt : f < P.funcs.size) (hc : SCalls P f [] Hp.empty fun v _ => K v) (hk : ∀ v, K v → ∃ b, v = .bool b) : SCalls P f [] h fun v h' => K v ∧ h' = h := by
  have hc := hc.func hlt
  refine .inl ⟨hc.1, fun base σ w rargs hr hl => ?_⟩
  have hl' : LRel (fun _ => none) [] rargs.toList := ⟨hl.1, by simp⟩
  refine (hc.2 w.heap.size (fun _ => none) w rargs (HR_empty _ w (Nat.le_refl _)) hl').mono ?_
  rintro e w' ⟨v, v', h', σ', rfl, hv, hvr, _, he⟩
  obtain ⟨b, rfl⟩ := hk v hv
  have : v' = .bool b := hvr.bool_inv
  subst this
  refine ⟨_, _, h, σ, rfl, ⟨hv, rfl⟩, .bool b, hr.grown he.size he.below, ?_⟩
  exact ⟨Sg.le_refl σ, he.os, he.tape, he.output, he.size, fun k hk => he.below k (Nat.lt_of_lt_of_le hk hr.base_le), fun k hk _ => he.below k hk,
    fun b e h1 h2 => by rw [h1] at h2; simp at h2, Nat.le_refl _, fun b _ hb => ⟨rfl, rfl, hb⟩⟩

theorem closed_bool (hm : P.follows .mixedOrders = true) {m n : Nat} {ann : FuncId → Nat → List Tmp} {f : FuncId} (hlt : f < P.funcs.size)
    (hx : xF P (alB m) ann n f [] Hp.empty (fun v _ => match v with | .bool b => b | _ => false) = true) (h : Hp) : SCalls P f [] h fun v h' => v = .bool true ∧ h' = h := by
  refine SCalls.closed (K := fun v => v = .bool true) hlt ((xF_ok hm n f [] Hp.empty _ hx).mono ?_) ?_
  · intro v _ hv
    cases v with
    | bool b => simp at hv; rw [hv]
    | _ => simp at hv
  · rintro v rfl; exact ⟨_, rfl⟩
end
end Go.Cn
