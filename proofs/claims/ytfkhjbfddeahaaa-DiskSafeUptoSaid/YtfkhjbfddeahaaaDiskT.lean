/- The laws' arguments: steps of a script, fates, pages. -/
import Derived.Test.YtfkhjbfddeahaaaDiskN
import Derived.Test.YtfkhjbfddeahaaaCoF
set_option linter.unusedVariables false
set_option linter.unusedSimpArgs false
namespace Go.Proofs.Ytfkhjbfddeahaaa.kc
open Go Go.Cn Go.Proofs Go.Proofs.Ytfkhjbfddeahaaa.vc

theorem cells47 : Try.prog.cellsOf 47 = 9 := by kernel_rfl
theorem cells57 : Try.prog.cellsOf 57 = 1 := by kernel_rfl
theorem cells9 : Try.prog.cellsOf 9 = 1 := by kernel_rfl

def Stp.encS (x : {s : Stp // s.ok}) : List Value := x.1.enc

theorem fine_step {h : Hp} {N n : Nat} {cs : List Value} (hg : Fine Try.prog h N n 47 cs) : ∃ x : {s : Stp // s.ok}, cs = Stp.encS x := by
  obtain ⟨m, rfl, c0, r0, rfl, g0, c1, r1, rfl, g1, c2, r2, rfl, g2, c3, r3, rfl, g3, c4, r4, rfl, g4, c5, r5, rfl, g5, c6, r6, rfl, g6, rfl⟩ := hg.struct Try.underlying47
  obtain ⟨dO, rfl, _⟩ := g0.int Try.underlying3
  obtain ⟨wh, rfl, _⟩ := g1.int Try.underlying3
  obtain ⟨no, rfl, hno⟩ := g2.int Try.underlying42
  obtain ⟨n, rfl, hn⟩ := g3.int Try.underlying3
  obtain ⟨m', rfl, d0, q0, rfl, f0, d1, q1, rfl, f1, d2, q2, rfl, f2, rfl⟩ := g4.struct Try.underlying44
  obtain ⟨len, rfl, _⟩ := f0.int Try.underlying3
  obtain ⟨b, rfl, _⟩ := f1.int Try.underlying5
  obtain ⟨st, rfl, _⟩ := f2.int Try.underlying5
  obtain ⟨aa, al, ac, _, rfl, _⟩ := g5.slice (enc := fun x : List Value => x) Try.underlying45 (rfl : Try.prog.cellsOf 77 = Try.prog.cellsOf 77) fun _ cs _ => ⟨cs, rfl⟩
  obtain ⟨fa, fl, fc, _, rfl, _⟩ := g6.slice (enc := fun x : List Value => x) Try.underlying36 (rfl : Try.prog.cellsOf 57 = Try.prog.cellsOf 57) fun _ cs _ => ⟨cs, rfl⟩
  simp only [Lit.wf, Bool.and_eq_true, decide_eq_true_eq] at hno hn
  have e1 : IntKind.u32.min = 0 := rfl
  have e2 : IntKind.u32.max = 4294967295 := rfl
  have e3 : IntKind.i64.min = -9223372036854775808 := rfl
  have e4 : IntKind.i64.max = 9223372036854775807 := rfl
  rw [e1, e2] at hno
  rw [e3, e4] at hn
  exact ⟨⟨⟨dO, wh, no, n, len, b, st, aa, al, ac, fa, fl, fc⟩, ⟨hno.1, by simp only; omega, hn.1, by simp only; omega⟩⟩, rfl⟩

theorem SlT.map {α β : Type} {enc : β → List Value} {f : α → β} {w : Nat} {h : Hp} {g : Option Nat} {a : Option Addr} {l c : Nat} {L : List α} (s : SlT (fun x => enc (f x)) w h g a l c L) : SlT enc w h g a l c (L.map f) :=
  ⟨by rw [List.flatMap_map]; exact s.sl, by rw [List.length_map]; exact s.len⟩

theorem fine_steps {h : Hp} {N n : Nat} {cs : List Value} (hg : Fine Try.prog h N n 35 cs) : ∃ a l c L, cs = [.slice a l c] ∧ c ≤ N ∧ SlT Stp.enc 9 h none a l c L ∧ ∀ s ∈ L, s.ok := by
  obtain ⟨a, l, c, L, rfl, hc, s⟩ := hg.slice (enc := Stp.encS) Try.underlying35 cells47 fun _ _ => fine_step
  refine ⟨a, l, c, L.map Subtype.val, rfl, hc, SlT.map s, fun x hx => ?_⟩
  obtain ⟨y, _, rfl⟩ := List.mem_map.mp hx
  exact y.2

theorem fine_pages {h : Hp} {N n : Nat} {cs : List Value} (hg : Fine Try.prog h N n 40 cs) : ∃ a l c L, cs = [.slice a l c] ∧ c ≤ N ∧ SlT encS 1 h none a l c L :=
  hg.slice (enc := encS) Try.underlying40 cells9 fun _ _ g => by
    obtain ⟨s, rfl, _⟩ := g.string Try.underlying9
    exact ⟨s, rfl⟩

theorem fine_fates {h : Hp} {N n : Nat} {cs : List Value} (hg : Fine Try.prog h N n 36 cs) : ∃ a l c L, cs = [.slice a l c] ∧ c ≤ N ∧ SlT encF 1 h none a l c L ∧ ∀ f ∈ L, 0 ≤ f ∧ f ≤ 255 := by
  obtain ⟨a, l, c, L, rfl, hc, s⟩ := hg.slice (enc := fun x : {f : Int // 0 ≤ f ∧ f ≤ 255} => encF x.1) Try.underlying36 cells57 fun _ _ g => by
    obtain ⟨f, rfl, hf⟩ := g.int Try.underlying57
    simp only [Lit.wf, Bool.and_eq_true, decide_eq_true_eq] at hf
    exact ⟨⟨f, hf⟩, rfl⟩
  refine ⟨a, l, c, L.map Subtype.val, rfl, hc, SlT.map s, fun x hx => ?_⟩
  obtain ⟨y, _, rfl⟩ := List.mem_map.mp hx
  exact y.2
end Go.Proofs.Ytfkhjbfddeahaaa.kc
