/- Many things in memory, each of its own; DiskForks. -/
import Derived.Test.YtfkhjbfddeahaaaDiskO
set_option linter.unusedVariables false
set_option linter.unusedSimpArgs false
namespace Go.Proofs.Ytfkhjbfddeahaaa.kc
open Go Go.Cn Go.Proofs Go.Proofs.Ytfkhjbfddeahaaa.vc

/-- A thing in memory: what is said of it, the groups that its changes write to, those that it leans on. -/
structure Th where
  P : Hp → Prop
  W : Nat → Prop
  F : Nat → Prop
def Th.stable (t : Th) : Prop := ∀ {S : Nat → Prop} {h h' : Hp}, Keep S h h' → (∀ y, t.F y → ¬ S y) → t.P h → t.P h'
structure Many (h : Hp) (L : List Th) : Prop where
  at_ : ∀ t ∈ L, t.P h ∧ t.stable ∧ (∀ y, t.W y → t.F y) ∧ ∀ y, t.F y → y < h.next
  sep : L.Pairwise fun x y => Out x.W y.F ∧ Out y.W x.F

theorem Many.kept {h h' : Hp} {L : List Th} (m : Many h L) (k : Kept h h') : Many h' L :=
  ⟨fun t ht => by
    obtain ⟨a, b, c, d⟩ := m.at_ t ht
    exact ⟨b k (fun _ _ hf => hf) a, b, c, fun y hy => Nat.lt_of_lt_of_le (d y hy) k.next⟩, m.sep⟩

/-- One thing was changed. -/
theorem Many.op {h h' : Hp} {A B : List Th} {t t' : Th} (m : Many h (A ++ t :: B)) (k : Keep t.W h h') (hP : t'.P h') (hs : t'.stable) (hWF : ∀ y, t'.W y → t'.F y) (hW : ∀ y, t'.W y → t.W y ∨ h.next ≤ y) (hF : ∀ y, t'.F y → t.F y ∨ h.next ≤ y) (hlt : ∀ y, t'.F y → y < h'.next) :
    Many h' (A ++ t' :: B) := by
  have hsep := m.sep
  rw [List.pairwise_append, List.pairwise_cons] at hsep
  obtain ⟨pA, ⟨pt, pB⟩, pAB⟩ := hsep
  have oA : ∀ x ∈ A, Out x.W t.F ∧ Out t.W x.F := fun x hx => pAB x hx t (by simp)
  have one : ∀ x, x ∈ A ∨ x ∈ B → Out x.W t.F ∧ Out t.W x.F := fun x hx => by
    rcases hx with hx | hx
    · exact oA x hx
    · exact ⟨(pt x hx).2, (pt x hx).1⟩
  have all : ∀ x, x ∈ A ∨ x ∈ B → x ∈ A ++ t :: B := fun x hx => by
    rcases hx with hx | hx <;> simp [hx]
  have old : ∀ x, x ∈ A ∨ x ∈ B → x.P h' ∧ x.stable ∧ (∀ y, x.W y → x.F y) ∧ ∀ y, x.F y → y < h'.next := fun x hx => by
    obtain ⟨a, b, c, d⟩ := m.at_ x (all x hx)
    exact ⟨b k (fun y hy hw => (one x hx).2 y hw hy) a, b, c, fun y hy => Nat.lt_of_lt_of_le (d y hy) k.next⟩
  have new : ∀ x, x ∈ A ∨ x ∈ B → Out x.W t'.F ∧ Out t'.W x.F := fun x hx => by
    obtain ⟨_, _, c, d⟩ := m.at_ x (all x hx)
    exact ⟨(one x hx).1.op2 (fun y hy => d y (c y hy)) hF, (one x hx).2.op d hW⟩
  refine ⟨fun x hx => ?_, ?_⟩
  · rcases List.mem_append.mp hx with hx | hx
    · exact old x (.inl hx)
    · rcases List.mem_cons.mp hx with rfl | hx
      · exact ⟨hP, hs, hWF, hlt⟩
      · exact old x (.inr hx)
  · rw [List.pairwise_append, List.pairwise_cons]
    refine ⟨pA, ⟨fun x hx => ⟨(new x (.inr hx)).2, (new x (.inr hx)).1⟩, pB⟩, fun x hx y hy => ?_⟩
    rcases List.mem_cons.mp hy with rfl | hy
    · exact new x (.inl hx)
    · exact pAB x hx y (by simp [hy])

/-- A new thing. -/
theorem Many.add {h h' : Hp} {L : List Th} {t : Th} (m : Many h L) (k : Kept h h') (hP : t.P h') (hs : t.stable) (hWF : ∀ y, t.W y → t.F y) (hW : ∀ y, t.W y → h.next ≤ y) (hF : ∀ y, t.F y → h.next ≤ y ∨ ∀ x ∈ L, ¬ x.W y) (hlt : ∀ y, t.F y → y < h'.next) :
    Many h' (t :: L) := by
  have m' := m.kept k
  refine ⟨fun x hx => ?_, List.pairwise_cons.mpr ⟨fun x hx => ⟨?_, ?_⟩, m'.sep⟩⟩
  · rcases List.mem_cons.mp hx with rfl | hx
    · exact ⟨hP, hs, hWF, hlt⟩
    · exact m'.at_ x hx
  · intro y hy hf
    have := (m.at_ x hx).2.2.2 y hf
    have := hW y hy
    omega
  · intro y hy hf
    rcases hF y hf with h1 | h1
    · have := (m.at_ x hx).2.2.2 y ((m.at_ x hx).2.2.1 y hy); omega
    · exact h1 x hx hy

def Th.disk (d : Nat) (W R : Nat → Prop) (D : Dk) : Th := ⟨fun h => DAt h d W R D, W, fun y => W y ∨ R y⟩
theorem Th.disk_stable (d : Nat) (W R : Nat → Prop) (D : Dk) : (Th.disk d W R D).stable := fun k hn x => DAt.keep k x hn
def Th.sl {α : Type} (enc : α → List Value) (w : Nat) (g : Option Nat) (s : Sv) (L : List α) : Th := ⟨fun h => OwT enc w h g s L, fun _ => False, fun y => g = some y⟩
theorem Th.sl_stable {α : Type} (enc : α → List Value) (w : Nat) (g : Option Nat) (s : Sv) (L : List α) : (Th.sl enc w g s L).stable := fun k hn o => o.keep k hn

theorem DAt.wr {h : Hp} {d : Nat} {W R : Nat → Prop} {D : Dk} (x : DAt h d W R D) : ∀ y, R y → ¬ W y := by
  obtain ⟨g0, gs, gd, gw, ga, s, dd, w, a, x, hW⟩ := x
  intro y hy hw
  obtain ⟨r0, r1, r2, r3, r4⟩ := x.ro y hy
  rcases (hW y).mp hw with hw | hw | hw | hw | hw
  · exact r0 hw
  · exact r1 hw
  · exact r2 hw
  · exact r3 hw
  · exact r4 hw

section
variable {h h' : Hp} {A B L : List Th} {d : Nat} {W R : Nat → Prop} {D D' : Dk}
theorem Many.disk (m : Many h (A ++ Th.disk d W R D :: B)) : DAt h d W R D := (m.at_ (Th.disk d W R D) (by simp)).1
theorem Many.opD (wf' : Wf h') (m : Many h (A ++ Th.disk d W R D :: B)) (o : Op h d W R D' h') : ∃ W' R', Many h' (A ++ Th.disk d W' R' D' :: B) := by
  obtain ⟨W', R', x, a, b, k⟩ := o
  refine ⟨W', R', m.op k x (Th.disk_stable _ _ _ _) (fun _ hy => .inl hy) a (fun y hy => ?_) (x.flt wf')⟩
  rcases hy with hy | hy
  · exact (a y hy).imp .inl id
  · exact (b y hy).imp .inr id
/-- A call that changes a disk, among many things. -/
theorem Many.run {f : FuncId} {args : List Value} {r : Value} (m : Many h (A ++ Th.disk d W R D :: B)) (hc : DAt h d W R D → C f args h fun v h' => v = r ∧ Op h d W R D' h') : C f args h fun v h' => v = r ∧ ∃ W' R', Many h' (A ++ Th.disk d W' R' D' :: B) :=
  (hc m.disk).wf fun v h' wf' _ ⟨e, o⟩ => ⟨e, m.opD wf' o⟩
theorem Many.addD (wf' : Wf h') (m : Many h L) (k : Kept h h') {q : Nat} {W' R' : Nat → Prop} (x : DAt h' q W' R' D) (hW : ∀ y, W' y → h.next ≤ y) (hR : ∀ y, R' y → ∀ x ∈ L, ¬ x.W y) : Many h' (Th.disk q W' R' D :: L) :=
  m.add k x (Th.disk_stable _ _ _ _) (fun _ hy => .inl hy) hW (fun y hy => by
    rcases hy with hy | hy
    · exact .inl (hW y hy)
    · exact .inr (hR y hy)) (x.flt wf')
/-- A fork, among many things. -/
theorem Many.fork {k M N : Nat} (m : Many h (A ++ Th.disk d W R D :: B)) (fit : D.fit k M N) (hN : N ≤ 8589934592) :
    C 31 [.pointer (some ⟨d, 0, none⟩)] h fun v h' => ∃ q W', v = .pointer (some ⟨q, 0, none⟩) ∧ Many h' (Th.disk q W' R D :: (A ++ Th.disk d W R D :: B)) := by
  refine (m.disk.fork fit hN).wf fun v h' wf' _ ⟨q, W', e, x, hW, k⟩ => ⟨q, W', e, m.addD wf' k x hW fun y hy t ht => ?_⟩
  have hsep := m.sep
  rw [List.pairwise_append, List.pairwise_cons] at hsep
  obtain ⟨pA, ⟨pt, pB⟩, pAB⟩ := hsep
  rcases List.mem_append.mp ht with ht | ht
  · exact fun hw => (pAB t ht (Th.disk d W R D) (by simp)).1 y hw (.inr hy)
  · rcases List.mem_cons.mp ht with rfl | ht
    · exact m.disk.wr y hy
    · exact fun hw => (pt t ht).2 y hw (.inr hy)
end

/-! ### a disk that nobody armed -/
structure Calm (D : Dk) : Prop where
  arms : D.arms = []
  on : D.off = false
  taken : D.taken = 0

theorem actD_calm {D : Dk} (c : D.arms = []) (kind refused : Int) (adds : List Wt) : actD D kind refused adds = ({ D with waits := D.waits ++ adds }, 0) := by
  unfold actD; rw [c]; simp [c]

theorem playD_calm {D : Dk} (c : Calm D) (s : Stp) : Calm (playD D s).1 := by
  have hw : ∀ no data, Calm (writeD D no data).1 := by
    intro no data
    unfold writeD
    rw [actD_calm c.arms]
    split
    · exact c
    · split
      · exact c
      · split
        · exact c
        · split
          · rename_i h; exact absurd rfl h
          · exact ⟨by simp [c.arms], c.on, c.taken⟩
  have hg : ∀ n, Calm (growD D n).1 := by
    intro n
    unfold growD
    rw [actD_calm c.arms]
    split
    · exact c
    · split
      · exact c
      · split
        · exact c
        · split
          · rename_i h; exact absurd rfl h
          · exact ⟨by simp [c.arms], c.on, c.taken⟩
  have hs : Calm (syncD D).1 := by
    unfold syncD
    rw [actD_calm c.arms]
    split
    · exact c
    · split
      · rename_i h; exact absurd rfl h
      · exact ⟨by simp [c.arms], c.on, c.taken⟩
  unfold playD
  split
  · exact hw _ _
  · split
    · exact hg _
    · split
      · exact hs
      · exact c

/-- A step of a script is read. -/
theorem step_at {h : Hp} {G : Option Nat} {a : Option Addr} {l c : Nat} {L : List Stp} (s : SlT Stp.enc 9 h G a l c L) {i : Nat} (hi : i < l) : ∃ x, L[i]? = some x ∧ (a.isSome = true ∧ inR (i : Int) l) ∧ h.cellsAt (blk a) (plusI (off a) (i : Int) 9) 9 = some x.enc := by
  have hL := s.len
  refine ⟨L[i]'(by omega), List.getElem?_eq_getElem _, ?_⟩
  obtain ⟨i1, i2⟩ := s.get Stp.w (List.getElem?_eq_getElem (l := L) (i := i) (by omega)) (j := 0) (m := 9) (by omega)
  exact ⟨⟨i1, by simp only [inR]; omega⟩, i2.trans rfl⟩

/-- A list that was handed in. -/
def Th.arg {α : Type} (enc : α → List Value) (w : Nat) (a : Option Addr) (l c : Nat) (L : List α) : Th := ⟨fun h => SlT enc w h none a l c L, fun _ => False, fun _ => False⟩
theorem Th.arg_stable {α : Type} (enc : α → List Value) (w : Nat) (a : Option Addr) (l c : Nat) (L : List α) : (Th.arg enc w a l c L).stable := fun k hn o => o.keep k (by simp)
theorem Many.nil (h : Hp) : Many h [] := ⟨by simp, List.Pairwise.nil⟩
theorem Many.arg {h : Hp} {L : List Th} (m : Many h L) {α : Type} {enc : α → List Value} {w : Nat} {a : Option Addr} {l c : Nat} {M : List α} (s : SlT enc w h none a l c M) : Many h (Th.arg enc w a l c M :: L) :=
  m.add (Keep.refl _ _) s (Th.arg_stable _ _ _ _ _ _) (fun _ hy => hy) (fun _ hy => hy.elim) (fun _ hy => hy.elim) (fun _ hy => hy.elim)

theorem goesD_taken (D : Dk) (F : List Int) : (goesD D F).taken = addW .i64 D.taken 1 := rfl

/-- A variable of our own. -/
def Th.loc (b : Nat) (cs : List Value) : Th := ⟨fun h => Blk h b (some b) cs, fun _ => False, fun y => y = b⟩
theorem Th.loc_stable (b : Nat) (cs : List Value) : (Th.loc b cs).stable := fun k hn o => k.blk o fun y hy => hn y (by simp at hy; exact hy.symm)
theorem Many.loc {h h' : Hp} {L : List Th} (m : Many h L) (k : Kept h h') {b : Nat} {cs : List Value} (hb : Blk h' b (some b) cs) (hn : h.next ≤ b) (wf' : Wf h') : Many h' (Th.loc b cs :: L) :=
  m.add k hb (Th.loc_stable _ _) (fun _ hy => hy.elim) (fun _ hy => hy.elim) (fun y hy => .inl (by have : y = b := hy; omega)) (fun y hy => by have : y = b := hy; have := hb.glt wf'; omega)
theorem Many.sub {h : Hp} {L L' : List Th} (m : Many h L) (s : L'.Sublist L) : Many h L' := ⟨fun t ht => m.at_ t (s.subset ht), m.sep.sublist s⟩

theorem Many.perm {h : Hp} {L L' : List Th} (m : Many h L) (p : L.Perm L') : Many h L' :=
  ⟨fun t ht => m.at_ t (p.mem_iff.mpr ht), (p.pairwise_iff (fun h => ⟨h.2, h.1⟩)).mp m.sep⟩
theorem Many.rot3 {h : Hp} {a b c : Th} {L : List Th} (m : Many h (a :: b :: c :: L)) : Many h (b :: c :: a :: L) := m.perm ((List.Perm.swap b a (c :: L)).trans (List.Perm.cons b (List.Perm.swap c a L)))
theorem Many.told {α : Type} {enc : α → List Value} {w : Nat} {h h' : Hp} {L : List Th} (m : Many h L) (k : Kept h h') (wf' : Wf h') {g : Option Nat} {s : Sv} {M : List α} (o : OwT enc w h' g s M) (hg : g = none ∨ ∃ y, g = some y ∧ h.next ≤ y) : Many h' (Th.sl enc w g s M :: L) :=
  m.add k o (Th.sl_stable _ _ _ _ _) (fun _ hy => hy.elim) (fun _ hy => hy.elim) (fun y hy => .inl (by
    rcases hg with rfl | ⟨z, rfl, hz⟩
    · have hy : none = some y := hy
      simp at hy
    · have hy : some z = some y := hy
      simp at hy; omega)) (fun y hy => o.1.glt wf' y hy)
end Go.Proofs.Ytfkhjbfddeahaaa.kc
