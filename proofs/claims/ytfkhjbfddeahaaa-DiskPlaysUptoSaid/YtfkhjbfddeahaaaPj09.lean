/- Joined: UpB. -/
import Derived.Test.YtfkhjbfddeahaaaPj08
import Derived.Test.YtfkhjbfddeahaaaRows
/- The bound of the rows' second form as a measure of data. -/
namespace Go.Proofs.Ytfkhjbfddeahaaa.upb
open Go Go.Cn

theorem one_le {H : Type} (d : DataW H) : 1 ≤ Rows.uptoBulk d := by
  cases d with
  | lit l => cases l <;> simp [Rows.uptoBulk]
  | nil => simp [Rows.uptoBulk]
  | ptr d => simp [Rows.uptoBulk]
  | slice elems spare => simp [Rows.uptoBulk]
  | agg parts => simp [Rows.uptoBulk]
  | iface t d => simp [Rows.uptoBulk]
  | map entries => simp [Rows.uptoBulk]
  | held h => simp [Rows.uptoBulk]

theorem part_le {H : Type} {d : DataW H} {l : List (DataW H)} (h : d ∈ l) : Rows.uptoBulk d ≤ Rows.uptoBulkAll l := by
  induction l with
  | nil => cases h
  | cons x r ih =>
    simp only [Rows.uptoBulkAll]
    cases List.mem_cons.1 h with
    | inl e => subst e; omega
    | inr e => have := ih e; omega

theorem length_le {H : Type} (l : List (DataW H)) : l.length ≤ Rows.uptoBulkAll l := by
  induction l with
  | nil => simp [Rows.uptoBulkAll]
  | cons x r ih => have := one_le x; simp only [Rows.uptoBulkAll, List.length_cons]; omega

theorem meas {H : Type} : Meas (H := H) Rows.uptoBulk := by
  refine ⟨fun elems spare => ⟨?_, fun d hd => ?_⟩, fun parts d hd => ?_, fun bytes => ?_⟩
  · have h1 := length_le elems
    have h2 := length_le spare
    simp only [Rows.uptoBulk]; omega
  · have := part_le hd
    simp only [Rows.uptoBulk]; omega
  · have := part_le hd
    simp only [Rows.uptoBulk]; omega
  · simp [Rows.uptoBulk]

theorem bound {H : Type} {l : List (DataW H)} (hk : Rows.uptoSmall H l = true) : ∀ d ∈ l, Rows.uptoBulk d ≤ 1048576 := by
  intro d hd
  have h1 := part_le hd
  have h2 : Rows.uptoBulkAll l ≤ 1048576 := of_decide_eq_true hk
  omega
end Go.Proofs.Ytfkhjbfddeahaaa.upb
