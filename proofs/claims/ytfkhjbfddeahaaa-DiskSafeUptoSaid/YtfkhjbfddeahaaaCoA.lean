/- The symbolic run of code: definition, and that it is sound. -/
import Derived.Test.YtfkhjbfddeahaaaCnZ
set_option linter.unusedVariables false
set_option linter.unusedSimpArgs false
namespace Go.Cn
section
variable (P : Program)

/-- Infos of a region in the text's order: all that is ahead is surely ahead. -/
def freeInf (n : Nat) : List Inf := List.replicate n ⟨0, 2 ^ n - 1, 0, 0, false⟩

def hasV : Option Value → Bool
  | some _ => true
  | none => false

def lessN (a b : Nat) : Prop := a < b

def shapedB (t : TypeId) (v : Value) : Bool :=
  match P.underlying t, v with
  | some .bool, .bool _ => true
  | some (.int k), .int k' _ => k == k'
  | some .string, .string _ => true
  | some (.slice _), .slice _ _ _ => true
  | some (.pointer _), .pointer _ => true
  | _, _ => false

/-- A closed test. -/
def guardB (b : Bool) (X : Prop) : Prop :=
  match b with
  | true => X
  | false => False

def shapedAll : List TypeId → List Value → Bool
  | [], [] => true
  | t :: ts, v :: vs => shapedB P t v && shapedAll ts vs
  | _, _ => false

variable (C : FuncId → List Value → Hp → (Value → Hp → Prop) → Prop) (pf : FuncId → Bool)

/-- shp: of each loop, the slots that it carries on from round to round, and their types. -/
def vC (shp : Nat → List (Tmp × TypeId)) : Code → (Exit → List Value → Hp → Prop) → List Value → Hp → Prop
  | .skip, k, tm, h => k .normal tm h
  | .region _ ops false, k, tm, h => vOps P C pf ops.toList (freeInf ops.size) [] (List.range ops.size) [] [] (tm.map fun v => ([], v)) h fun tm h => k .normal tm h
  | .region _ ops true, k, tm, h =>
    match orderOk (infos P ops.toList) (greedy (infos P ops.toList) ops.toList.length (List.range ops.toList.length) 0) [] 0 0, preAlloc P ops.toList h with
    | true, some r =>
      match r.1.any hasV with
      | false => vOps P C pf ops.toList (infos P ops.toList) r.1 (greedy (infos P ops.toList) ops.toList.length (List.range ops.toList.length) 0) [] [] (tm.map fun v => ([], v)) r.2 fun tm h => k .normal tm h
      | true => ∀ h' : Hp, h' = r.2 → vOps P C pf ops.toList (infos P ops.toList) r.1 (greedy (infos P ops.toList) ops.toList.length (List.range ops.toList.length) 0) [] [] (tm.map fun v => ([], v)) h' fun tm h => k .normal tm h
    | _, _ => False
  | .seq a b, k, tm, h =>
    match shp (joinId b) with
    | [] => vC shp a (fun e tm h => match e with
      | .normal => vC shp b k tm h
      | e => k e tm h) tm h
    | s :: ss =>
      let kp := (s :: ss).map (·.1)
      let ts := (s :: ss).map (·.2)
      let tm0 := forget (wr a) kp tm
      ∃ J : List Value → Hp → Prop, vC shp a (fun e tm' h' => match e with
          | .normal => guardB (shapedAll P ts (kp.map fun t => tm'.getD t undef)) (J (kp.map fun t => tm'.getD t undef) h')
          | e => k e tm' h') tm h ∧
        allCells P ts fun vals => ∀ h : Hp, J vals h → vC shp b k (setKeep kp vals 0 tm0) h
  | .cond c a b, k, tm, h =>
    match ev tm c with
    | .bool t => if t = true then vC shp a k tm h else vC shp b k tm h
    | _ => False
  | .block id c, k, tm, h => vC shp c (fun e tm h => match e with
      | .exit i => if i = id then k .normal tm h else k (.exit i) tm h
      | e => k e tm h) tm h
  | .loop c, k, tm, h =>
    let kp := (shp ((firstRegion c).getD 0)).map (·.1)
    let ts := (shp ((firstRegion c).getD 0)).map (·.2)
    let tm0 := forget (wr c) kp tm
    ∃ I : List Value → Nat → Hp → Prop, (guardB (shapedAll P ts (kp.map fun t => tm.getD t undef)) (∃ m, I (kp.map fun t => tm.getD t undef) m h)) ∧
      allCells P ts fun vals => ∀ (m : Nat) (h : Hp), I vals m h → vC shp c (fun e tm' h' => match e with
        | .normal => guardB (shapedAll P ts (kp.map fun t => tm'.getD t undef)) (∃ m', lessN m' m ∧ I (kp.map fun t => tm'.getD t undef) m' h')
        | e => k e tm' h') (setKeep kp vals 0 tm0) h
  | .exit id, k, tm, h => k (.exit id) tm h
  | .ret, k, tm, h => k .ret tm h
  | .label _, k, tm, h => k .normal tm h
  | _, _, _, _ => False

/-- A function's results. -/
def vRes (tm : List Value) (h : Hp) : List ResultVar → (List Value → Prop) → Prop
  | [], k => k []
  | .tmp t :: rs, k => vRes tm h rs fun vs => k (tm.getD t undef :: vs)
  | .cell a t :: rs, k =>
    match tm.getD a undef, size? P t with
    | .pointer p, some n => exVal P t fun v cs => if cs.length = n then (plainA p = true ∧ h.cellsAt (blk p) (off p) n = some cs) ∧ vRes tm h rs fun vs => k (v :: vs) else False
    | _, _ => False

def oneOf : List Value → Value
  | [v] => v
  | vs => .tuple vs.toArray

def vBody (shp : Nat → List (Tmp × TypeId)) (fn : Func) (c : Code) (args : List Value) (h : Hp) (K : Value → Hp → Prop) : Prop :=
  vC P C pf shp c (fun e tm' h' => match e with
    | .normal | .ret => vRes P tm' h' fn.results.toList fun vs => K (oneOf vs) h'
    | _ => False) (args ++ List.replicate (fn.ntmps - args.length) undef) h
end

section
variable {P : Program}

theorem guardB_inv {b : Bool} {X : Prop} (h : guardB b X) : b = true ∧ X := by
  cases b with
  | true => exact ⟨rfl, h⟩
  | false => exact h.elim

theorem allCell_of {t : TypeId} {f : Value → Prop} (h : allCell P t f) {v : Value} (hs : shapedB P t v = true) : f v := by
  unfold allCell at h
  unfold shapedB at hs
  cases hu : P.underlying t with
  | none => simp [hu] at hs
  | some d =>
    simp only [hu] at h hs
    cases d <;> cases v <;> simp at hs
    case int.int => subst hs; exact h _
    all_goals first | exact h _ | exact h _ _ _

theorem allCells_of : ∀ {ts : List TypeId} {f : List Value → Prop}, allCells P ts f → ∀ {vs : List Value}, shapedAll P ts vs = true → f vs
  | [], f, h, vs, hs => by
    cases vs with
    | nil => exact h
    | cons v vs => simp [shapedAll] at hs
  | t :: ts, f, h, vs, hs => by
    cases vs with
    | nil => simp [shapedAll] at hs
    | cons v vs =>
      simp only [shapedAll, Bool.and_eq_true] at hs
      exact allCells_of (allCell_of h hs.1) hs.2

theorem payAll_drop {am : Nat} {h : Hp} {r : Prop} : ∀ {owed : List Owed}, payAll P alP am h owed r → r
  | [], hx => hx
  | d :: owed, hx => by
    unfold payAll at hx
    simp only [List.foldr_cons] at hx
    split at hx
    · exact payAll_drop hx
    · exact payAll_drop hx.2

theorem xOps_of_xDraw {L : List Oper} {fs : List Inf} {K : List Value → Hp → Prop} : ∀ (n i : Nat) {tm : List Value} {owed : List Owed} {h : Hp}, i + n = L.length →
    xDraw P alP (SCalls P) L fs [] (List.range' i n) tm owed h K → xOps P alP (SCalls P) L (L.drop i) tm h K
  | 0, i, tm, owed, h, hn, hx => by
    rw [List.drop_eq_nil_of_le (by omega)]
    exact hx
  | n + 1, i, tm, owed, h, hn, hx => by
    have hlt : i < L.length := by omega
    rw [List.drop_eq_getElem_cons hlt]
    rw [List.range'_succ] at hx
    simp only [xDraw] at hx
    simp only [xOps, stepX]
    have ih := fun {tm} {owed} {h} => xOps_of_xDraw (L := L) (fs := fs) (K := K) n (i + 1) (tm := tm) (owed := owed) (h := h) (by omega)
    have e1 : L[i]? = some L[i] := List.getElem?_eq_getElem hlt
    rw [e1] at hx
    have ho : ∀ {α : Type} {x : Option α} {f g : α → Prop}, opt alP.bot x f → (∀ a, f a → g a) → opt alP.bot x g := by
      intro α x f g hx hfg
      cases x with
      | none => exact hx
      | some a => exact hfg a hx
    cases hf : fs[i]? with
    | none => simp [hf, alP] at hx
    | some f =>
      simp only [hf] at hx
      split at hx
      · exact hx.elim
      · rename_i w hw
        simp only [hw, List.getD_nil] at hx ⊢
        split at hx
        · exact ho hx fun v hv => ih hv
        · exact ho hx fun v hv => ih hv
        · exact ho hx fun r hr => ih (payAll_drop hr)
        · cases w with
          | true => simp only [if_true] at hx ⊢; exact ho hx fun fa hc => hc.mono fun v h' hr => ih (payAll_drop hr)
          | false => simp only [Bool.false_eq_true, if_false] at hx ⊢; exact ih (payAll_drop hx)

theorem real_plain {L : List Oper} (tm : List Value) : real L (tm.map fun v => (([], v) : Ch × Value)) = tm := by
  unfold real
  rw [List.map_map]
  conv => rhs; rw [← List.map_id tm]
  apply List.map_congr_left
  intro v _
  rfl

theorem invS_plain {L : List Oper} (tm : List Value) : InvS L (tm.map fun v => (([], v) : Ch × Value)) [] := by
  intro t
  unfold SS.at
  rw [List.getD_eq_getElem?_getD, List.getElem?_map]
  cases tm[t]? with
  | none => trivial
  | some v => trivial

theorem loop_rule {body : (Exit → List Value → Hp → Prop) → List Value → Hp → Prop} {kp : List Tmp} {K : Exit → List Value → Hp → Prop} {J : List Value → Nat → Hp → Prop}
    (hb : ∀ (vals : List Value) (m : Nat) (h : Hp) (k : Exit → List Value → Hp → Prop), J vals m h → (∀ m' tm' h', m' < m → J (kp.map fun t => tm'.getD t undef) m' h' → k .normal tm' h') → (∀ e tm' h', e ≠ .normal → K e tm' h' → k e tm' h') → body k vals h) :
    ∀ (n : Nat) (vals : List Value) (m : Nat) (h : Hp), m < n → J vals m h → loopX False body kp K n vals h
  | 0, vals, m, h, hm, hj => absurd hm (Nat.not_lt_zero _)
  | n + 1, vals, m, h, hm, hj => by
    unfold loopX
    refine hb vals m h _ hj ?_ ?_
    · intro m' tm' h' hlt hj'
      exact loop_rule hb n _ m' h' (by omega) hj'
    · intro e tm' h' hne hk
      cases e with
      | normal => exact absurd rfl hne
      | _ => exact hk

theorem vC_sound {pf : FuncId → Bool} {shp : Nat → List (Tmp × TypeId)} : ∀ (c : Code) {k K : Exit → List Value → Hp → Prop} {tm : List Value} {h : Hp}, (∀ e tm h, k e tm h → K e tm h) → vC P (SCalls P) pf shp c k tm h →
    xC P alP (SCalls P) (fun i => (shp i).map (·.1)) c K tm h
  | .skip, k, K, tm, h, hk, hx => hk _ _ _ hx
  | .exit id, k, K, tm, h, hk, hx => hk _ _ _ hx
  | .ret, k, K, tm, h, hk, hx => hk _ _ _ hx
  | .label l, k, K, tm, h, hk, hx => hk _ _ _ hx
  | .region id ops false, k, K, tm, h, hk, hx => by
    have := vOps_sound _ (invS_plain tm) (owed := []) (by simp) hx
    rw [real_plain, List.range_eq_range'] at this
    have h2 := xOps_of_xDraw ops.size 0 (by simp) this
    have mono : ∀ {rest : List Oper} {tm : List Value} {h : Hp} {K K' : List Value → Hp → Prop}, (∀ tm h, K tm h → K' tm h) → xOps P alP (SCalls P) ops.toList rest tm h K → xOps P alP (SCalls P) ops.toList rest tm h K' := by
      intro rest
      induction rest with
      | nil => intro tm h K K' hk hx; exact hk _ _ hx
      | cons o rest ih => intro tm h K K' hk hx; simp only [xOps] at hx ⊢; exact stepX_mono hx fun v h' => ih hk
    exact mono (fun tm h => hk _ _ _) (by simpa using h2)
  | .region id ops true, k, K, tm, h, hk, hx => by
    simp only [vC] at hx
    split at hx
    · rename_i r ho hp
      have hx : vOps P (SCalls P) pf ops.toList (infos P ops.toList) r.1 (greedy (infos P ops.toList) ops.toList.length (List.range ops.toList.length) 0) [] [] (tm.map fun v => ([], v)) r.2 fun tm h => k .normal tm h := by
        split at hx
        · exact hx
        · exact hx _ rfl
      have := vOps_sound _ (invS_plain tm) (owed := []) (by simp) hx
      rw [real_plain] at this
      simp only [xC, xRegion]
      rw [if_pos ho, hp]
      exact xDraw_mono (fun tm h => hk _ _ _) this
    · exact hx.elim
  | .seq x y, k, K, tm, h, hk, hx => by
    simp only [vC] at hx
    split at hx
    · rename_i hs
      refine vC_sound x ?_ hx
      intro e tm h he
      cases e with
      | normal =>
        simp only [hs, List.map_nil, joinT]
        exact vC_sound y hk he
      | _ => exact hk _ _ _ he
    · rename_i s ss hs
      obtain ⟨J, hx, hj⟩ := hx
      refine vC_sound x ?_ hx
      intro e tm' h' he
      cases e with
      | normal =>
        obtain ⟨hsh, hJ⟩ := guardB_inv he
        simp only [hs, List.map_cons, joinT]
        exact vC_sound y hk (allCells_of hj hsh _ hJ)
      | exit i => exact hk _ _ _ he
      | goto l => exact hk _ _ _ he
      | ret => exact hk _ _ _ he
      | panic x => exact hk _ _ _ he
      | outgrown => exact hk _ _ _ he
  | .cond c x y, k, K, tm, h, hk, hx => by
    simp only [vC] at hx
    simp only [xC]
    split at hx
    · rename_i t he
      rw [he]
      simp only
      split at hx
      · rename_i ht; rw [if_pos ht]; exact vC_sound x hk hx
      · rename_i ht; rw [if_neg ht]; exact vC_sound y hk hx
    · exact hx.elim
  | .block id c, k, K, tm, h, hk, hx => by
    refine vC_sound c ?_ hx
    intro e tm h he
    cases e with
    | exit i =>
      simp only at he ⊢
      split at he
      · rename_i hi; rw [if_pos hi]; exact hk _ _ _ he
      · rename_i hi; rw [if_neg hi]; exact hk _ _ _ he
    | _ => exact hk _ _ _ he
  | .loop c, k, K, tm, h, hk, hx => by
    obtain ⟨I, h0, hb⟩ := hx
    obtain ⟨h0, m, hi⟩ := guardB_inv h0
    refine ⟨m + 1, ?_⟩
    refine loop_rule (J := fun vals m h => shapedAll P ((shp ((firstRegion c).getD 0)).map (·.2)) vals = true ∧ I vals m h) ?_ (m + 1) _ m h (Nat.lt_succ_self m) ⟨h0, hi⟩
    intro vals m h k' ⟨hs, hj⟩ hn hother
    refine vC_sound c ?_ (allCells_of hb hs m h hj)
    intro e tm' h' he
    cases e with
    | normal =>
      obtain ⟨hs', m', hlt, hj'⟩ := guardB_inv he
      exact hn m' tm' h' hlt ⟨hs', hj'⟩
    | exit i => exact hother _ _ _ (by simp) (hk _ _ _ he)
    | goto l => exact hother _ _ _ (by simp) (hk _ _ _ he)
    | ret => exact hother _ _ _ (by simp) (hk _ _ _ he)
    | panic x => exact hother _ _ _ (by simp) (hk _ _ _ he)
    | outgrown => exact hother _ _ _ (by simp) (hk _ _ _ he)
  | .rangeFunc f ps x y, k, K, tm, h, hk, hx => hx.elim
  | .scope c, k, K, tm, h, hk, hx => hx.elim
  | .goto l, k, K, tm, h, hk, hx => hx.elim
  | .refuse s, k, K, tm, h, hk, hx => hx.elim

theorem vRes_inv {tm : List Value} {h : Hp} : ∀ (rs : List ResultVar) {k : List Value → Prop}, vRes P tm h rs k → ∃ vs, rs.mapM (resG P tm h) = some vs ∧ k vs
  | [], k, hx => ⟨[], rfl, hx⟩
  | .tmp t :: rs, k, hx => by
    obtain ⟨vs, h1, h2⟩ := vRes_inv rs hx
    exact ⟨_ :: vs, by simp [List.mapM_cons, resG, h1], h2⟩
  | .cell a t :: rs, k, hx => by
    unfold vRes at hx
    split at hx
    · rename_i p n he hs
      obtain ⟨v, cs, hx, h3⟩ := exVal_inv hx
      split at hx
      · rename_i hl
        obtain ⟨⟨hp, hc⟩, hx⟩ := hx
        obtain ⟨vs, h1, h2⟩ := vRes_inv rs hx
        refine ⟨v :: vs, ?_, h2⟩
        have : cload P t (tm.getD a undef) h = some v := by
          unfold cload
          rw [he, plainA_inv hp]
          rcases h3 with ⟨ha, rfl⟩ | ⟨ha, rfl⟩
          · simp [ha, hs, hc]
          · simp at hl; subst hl; simp [ha, hs, hc]
        rw [List.mapM_cons]
        simp only [resG]
        rw [this, h1]
        rfl
      · exact hx.elim
    · exact hx.elim

/-- A function whose symbolic run comes to K. -/
theorem SCalls_of_v (hm : P.follows .mixedOrders = true) {pf : FuncId → Bool} {f : FuncId} {fn : Func} {c : Code} {shp : Nat → List (Tmp × TypeId)} {args : List Value} {h : Hp} {K : Value → Hp → Prop}
    (hf : P.funcs[f]? = some fn) (hb : fn.body = some c) (hc : mayCall fn = true) (hx : vBody P (SCalls P) pf shp fn c args h K) : SCalls P f args h K := by
  refine SCalls_of hm (ann := fun i => (shp i).map (·.1)) hf hb hc ?_
  refine vC_sound c ?_ hx
  intro e tm h he
  have fin : vRes P tm h fn.results.toList (fun vs => K (oneOf vs) h) → opt False (resultsOf P fn tm h) fun v => K v h := by
    intro hv
    obtain ⟨vs, h1, h2⟩ := vRes_inv _ hv
    rw [resultsOf_eq, h1]
    match vs, h2 with
    | [], h2 => exact h2
    | [v], h2 => exact h2
    | v :: w :: vs, h2 => exact h2
  cases e <;> first | exact fin he | exact he
end
end Go.Cn
