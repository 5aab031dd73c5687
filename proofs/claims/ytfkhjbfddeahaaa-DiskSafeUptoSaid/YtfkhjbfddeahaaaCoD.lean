/- A call that reads no memory of the caller's: its contract over the empty heap serves over every heap. -/
import Derived.Test.YtfkhjbfddeahaaaCoC
import Derived.Test.YtfkhjbfddeahaaaCnU
set_option linter.unusedVariables false
set_option linter.unusedSimpArgs false
namespace Go.Cn

theorem Lies.grown {base : Nat} {σ : Sg} {w w' : World} {e : En} {cs : List Value} {g : Option Nat} (h : Lies base σ w e cs g) (hh : w'.heap[e.rb]? = w.heap[e.rb]?) : Lies base σ w' e cs g := by
  obtain ⟨⟨c, el, fr, h1, h2⟩, h3⟩ := h
  exact ⟨⟨c, el, fr, by rw [hh]; exact h1, h2⟩, h3⟩

theorem HR.grown {base : Nat} {σ : Sg} {h : Hp} {w w' : World} (hr : HR base σ h w) (hs : w.heap.size ≤ w'.heap.size) (hh : ∀ k, k < w.heap.size → w'.heap[k]? = w.heap[k]?) : HR base σ h w' :=
  ⟨Nat.le_trans hr.base_le hs, fun b e hb => ⟨(hr.dom b e hb).1, Nat.lt_of_lt_of_le (hr.dom b e hb).2 hs⟩, hr.fresh,
    fun b e cs t g h1 h2 h3 => (hr.cell b e cs t g h1 h2 h3).grown (hh _ (hr.dom b e h1).2), hr.grp, hr.gdom, hr.stack, hr.nest, hr.apart⟩

section
variable {P : Program}
theorem SCalls.closed {f : FuncId} {h : Hp} {K : Value → Prop} (hc : SCalls P f [] Hp.empty fun v _ => K v) (hk : ∀ v, K v → ∃ b, v = .bool b) : SCalls P f [] h fun v h' => K v ∧ h' = h := by
  refine ⟨hc.1, fun base σ w rargs hr hl => ?_⟩
  have hl' : LRel (fun _ => none) [] rargs.toList := ⟨hl.1, by simp⟩
  refine (hc.2 w.heap.size (fun _ => none) w rargs (HR_empty _ w (Nat.le_refl _)) hl').mono ?_
  rintro e w' ⟨v, v', h', σ', rfl, hv, hvr, _, he⟩
  obtain ⟨b, rfl⟩ := hk v hv
  have : v' = .bool b := hvr.bool_inv
  subst this
  refine ⟨_, _, h, σ, rfl, ⟨hv, rfl⟩, .bool b, hr.grown he.size he.below, ?_⟩
  exact ⟨Sg.le_refl σ, he.os, he.tape, he.output, he.size, fun k hk => he.below k (Nat.lt_of_lt_of_le hk hr.base_le), fun k hk _ => he.below k hk,
    fun b e h1 h2 => by rw [h1] at h2; simp at h2, Nat.le_refl _, fun b _ hb => ⟨rfl, rfl, hb⟩⟩

theorem closed_bool (hm : P.follows .mixedOrders = true) {m n : Nat} {ann : FuncId → Nat → List Tmp} {f : FuncId}
    (hx : xF P (alB m) ann n f [] Hp.empty (fun v _ => match v with | .bool b => b | _ => false) = true) (h : Hp) : SCalls P f [] h fun v h' => v = .bool true ∧ h' = h := by
  refine SCalls.closed (K := fun v => v = .bool true) ((xF_ok hm n f [] Hp.empty _ hx).mono ?_) ?_
  · intro v _ hv
    cases v with
    | bool b => simp at hv; rw [hv]
    | _ => simp at hv
  · rintro v rfl; exact ⟨_, rfl⟩
end
end Go.Cn
