/- The canonical semantics: what an operation answers hangs on its operands alone. -/
import Derived.Test.YtfkhjbfddeahaaaCnK
set_option linter.unusedVariables false
set_option linter.unusedSimpArgs false
namespace Go.Cn
section
variable {P : Program} {tm tm' : List Value}

theorem map_opt_congr {lo : Option Operand} (h : ∀ x ∈ lo.toList, ev tm x = ev tm' x) : lo.map (ev tm) = lo.map (ev tm') := by
  cases lo with
  | none => rfl
  | some x => simp at h; simp [h]

theorem map_arr_congr {xs : Array Operand} (h : ∀ x ∈ xs.toList, ev tm x = ev tm' x) : xs.map (ev tm) = xs.map (ev tm') :=
  Array.map_congr_left fun x hx => h x (by simpa using hx)

theorem map_parts_congr {ps : List (Nat × Operand)} (h : ∀ x ∈ ps.map (·.2), ev tm x = ev tm' x) : (ps.map fun (i, x) => (i, ev tm x)) = ps.map fun (i, x) => (i, ev tm' x) := by
  apply List.map_congr_left
  rintro ⟨i, x⟩ hp
  simp only
  rw [h x (List.mem_map.2 ⟨(i, x), hp, rfl⟩)]

/-- The operands of two states agree. -/
def Agree (tm tm' : List Value) (op : Op) : Prop := ∀ x ∈ op.operands.toList, ev tm x = ev tm' x

theorem list_two {l : List Operand} {x y : Operand} (e : l = [x, y]) (h : ∀ x ∈ l, ev tm x = ev tm' x) : ev tm x = ev tm' x ∧ ev tm y = ev tm' y := by
  subst e; exact ⟨h x (by simp), h y (by simp)⟩

theorem pop_congr {op : Op} (h : Agree tm tm' op) : pop P tm op = pop P tm' op := by
  unfold Agree at h
  unfold pop
  split
  case h_17 args ats =>
    simp only [Op.operands, Call.operands] at h
    simp at h
    split
    · rename_i t ts x xs e1 e2
      have hx : x ∈ args := by rw [← Array.mem_toList_iff, e2]; simp
      rw [h x hx]
    · rfl
  case h_18 args ats =>
    simp only [Op.operands, Call.operands] at h
    simp at h
    split
    · rename_i x y e2
      have hx : x ∈ args := by rw [← Array.mem_toList_iff, e2]; simp
      have hy : y ∈ args := by rw [← Array.mem_toList_iff, e2]; simp
      rw [h x hx, h y hy]
    · rfl
  case h_19 args ats =>
    simp only [Op.operands, Call.operands] at h
    simp at h
    split
    · rename_i x y e2
      have hx : x ∈ args := by rw [← Array.mem_toList_iff, e2]; simp
      have hy : y ∈ args := by rw [← Array.mem_toList_iff, e2]; simp
      rw [h x hx, h y hy]
    · rfl
  case h_9 fn first captured =>
    simp only [Op.operands] at h
    simp at h
    rw [map_arr_congr (xs := first) (fun x hx => h x (.inl (by simpa using hx))), map_arr_congr (xs := captured) (fun x hx => h x (.inr (by simpa using hx)))]
  case h_10 t x lo hi mx =>
    simp only [Op.operands] at h
    simp at h
    rw [h.1, map_opt_congr (lo := lo) (fun x hx => h.2 x (by simp_all)), map_opt_congr (lo := hi) (fun x hx => h.2 x (by simp_all)), map_opt_congr (lo := mx) (fun x hx => h.2 x (by simp_all))]
  case h_15 t parts => 
    simp only [Op.operands] at h
    rw [map_parts_congr (ps := parts.toList) h]
  all_goals first
    | rfl
    | (simp only [Op.operands] at h; simp at h; simp [h]; done)
    | (simp only [Op.operands] at h; simp at h; simp only [h]; done)

theorem rop_congr {op : Op} (h : Agree tm tm' op) (hp : Hp) : rop P tm op hp = rop P tm' op hp := by
  unfold Agree at h
  unfold rop
  split
  all_goals first
    | rfl
    | (simp only [Op.operands] at h; simp at h; simp only [h]; done)

theorem eop_congr {op : Op} (h : Agree tm tm' op) (hp : Hp) : eop P tm op hp = eop P tm' op hp := by
  unfold Agree at h
  unfold eop
  split
  case h_4 t len parts =>
    simp only [Op.operands] at h
    rw [map_parts_congr (ps := parts.toList) h]
  case h_7 args ats =>
    simp only [Op.operands, Call.operands] at h
    simp at h
    split
    · rename_i t xt x y e1 e2
      have hx : x ∈ args := by rw [← Array.mem_toList_iff, e2]; simp
      have hy : y ∈ args := by rw [← Array.mem_toList_iff, e2]; simp
      rw [h x hx, h y hy]
    · rfl
  case h_8 args ats =>
    simp only [Op.operands, Call.operands] at h
    simp at h
    split
    · rename_i t ts x y e1 e2
      have hx : x ∈ args := by rw [← Array.mem_toList_iff, e2]; simp
      have hy : y ∈ args := by rw [← Array.mem_toList_iff, e2]; simp
      rw [h x hx, h y hy]
    · rfl
  case h_9 args ats =>
    simp only [Op.operands, Call.operands] at h
    simp at h
    split
    · rename_i t ts x e1 e2
      have hx : x ∈ args := by rw [← Array.mem_toList_iff, e2]; simp
      rw [h x hx]
    · rfl
  all_goals first
    | rfl
    | (simp only [Op.operands] at h; simp at h; simp only [h]; done)

theorem callee_congr {op : Op} (h : Agree tm tm' op) : callee tm op = callee tm' op := by
  unfold Agree at h
  unfold callee
  split
  · rename_i f args ats
    simp only [Op.operands, Call.operands] at h
    simp at h
    have hm : args.toList.map (ev tm) = args.toList.map (ev tm') := List.map_congr_left fun x hx => h.2 x (by simpa using hx)
    rw [h.1, hm]
  · rfl
end
end Go.Cn
