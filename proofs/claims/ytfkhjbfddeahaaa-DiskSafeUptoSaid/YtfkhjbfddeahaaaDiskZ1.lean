/- What a loss of power leaves: the plain law. -/
import Derived.Test.YtfkhjbfddeahaaaDiskP
import Derived.Test.YtfkhjbfddeahaaaDiskO
set_option linter.unusedVariables false
set_option linter.unusedSimpArgs false
namespace Go.Proofs.Ytfkhjbfddeahaaa.kc
open Go Go.Cn Go.Proofs Go.Proofs.Ytfkhjbfddeahaaa.vc

theorem cut8_get {B V : List UInt8} {o : Nat} (h : o + V.length ≤ B.length) (j : Nat) : (cut8 B o V)[j]? = if o ≤ j ∧ j < o + V.length then V[j - o]? else B[j]? := by
  unfold cut8
  have h1 : (B.take o).length = o := by rw [List.length_take]; omega
  rw [List.append_assoc, List.getElem?_append, h1]
  split
  · rename_i hj
    rw [if_neg (by omega), List.getElem?_take, if_pos hj]
  · rename_i hj
    rw [List.getElem?_append]
    split
    · rename_i hj2
      rw [if_pos (by omega)]
    · rename_i hj2
      rw [if_neg (by omega), List.getElem?_drop]
      congr 1; omega

theorem layN_get {k : Nat} (hk : 0 < k) {f : Int} {data B : List UInt8} (hd : data.length = 8 * k) (hB : B.length = 8 * k) : ∀ (n : Nat), n ≤ 8 → ∀ j, (layN k f data n B)[j]? = if j < n * k ∧ bit f (j / k) = true then data[j]? else B[j]?
  | 0, _, j => by simp [layN]
  | n + 1, hn, j => by
    have hnk : n * k ≤ 8 * k := Nat.mul_le_mul_right k (by omega)
    have hnk1 : n * k + k ≤ 8 * k := by rw [← Nat.succ_mul]; exact Nat.mul_le_mul_right k hn
    have hl : (layN k f data n B).length = 8 * k := by rw [layN_len (by omega), hB]
    have ih := layN_get hk hd hB n (by omega) (f := f)
    have hs : (n + 1) * k = n * k + k := Nat.succ_mul n k
    have hdiv : n * k ≤ j → j < n * k + k → j / k = n := fun h1 h2 => by
      rw [Nat.div_eq_of_lt_le h1 (by rw [Nat.succ_mul]; exact h2)]
    have hV : ((data.drop (n * k)).take k).length = k := by rw [List.length_take, List.length_drop]; omega
    rw [layN, lay1, hs]
    by_cases hb : bit f n = true
    · rw [if_pos hb, cut8_get (by rw [hV, hl]; exact hnk1), hV, ih j]
      by_cases h1 : n * k ≤ j ∧ j < n * k + k
      · rw [if_pos h1, if_pos ⟨h1.2, by rw [hdiv h1.1 h1.2]; exact hb⟩, List.getElem?_take, if_pos (by omega), List.getElem?_drop]
        congr 1; omega
      · rw [if_neg h1]
        by_cases h2 : j < n * k
        · have : (j < n * k + k) ↔ (j < n * k) := by omega
          simp only [this]
        · rw [if_neg (by omega), if_neg (by omega)]
    · rw [if_neg hb, ih j]
      by_cases h1 : n * k ≤ j ∧ j < n * k + k
      · rw [if_neg (by omega), if_neg (by rw [hdiv h1.1 h1.2]; exact fun h => hb h.2)]
      · by_cases h2 : j < n * k
        · have : (j < n * k + k) ↔ (j < n * k) := by omega
          simp only [this]
        · rw [if_neg (by omega), if_neg (by omega)]

/-- A sector of a page. -/
def secAt (x : ByteArray) (s : Nat) : List UInt8 := (x.data.toList.drop (s * 128)).take 128
theorem list_len {x : ByteArray} {n : Nat} (h : x.size = n) : x.data.toList.length = n := by
  have : x.data.toList.length = x.size := Array.length_toList
  omega
theorem laySec_get {f : Int} {data old : ByteArray} (hd : data.size = 1024) (ho : old.size = 1024) (j : Nat) : (laySec 1024 f data old).data.toList[j]? = if bit f (j / 128) = true then data.data.toList[j]? else old.data.toList[j]? := by
  have e : (laySec 1024 f data old).data.toList = layN 128 f data.data.toList 8 old.data.toList := rfl
  rw [e, layN_get (by omega) (list_len hd) (list_len ho) 8 (by omega)]
  by_cases hj : j < 8 * 128
  · simp [hj]
  · rw [if_neg (by omega)]
    have h1 : data.data.toList[j]? = none := List.getElem?_eq_none (by rw [list_len hd]; omega)
    have h2 : old.data.toList[j]? = none := List.getElem?_eq_none (by rw [list_len ho]; omega)
    rw [h1, h2]; simp
theorem laySec_sec {f : Int} {data old : ByteArray} (hd : data.size = 1024) (ho : old.size = 1024) (s : Nat) : secAt (laySec 1024 f data old) s = if bit f s = true then secAt data s else secAt old s := by
  have key : ∀ x : ByteArray, (∀ i, i < 128 → (laySec 1024 f data old).data.toList[s * 128 + i]? = x.data.toList[s * 128 + i]?) → secAt (laySec 1024 f data old) s = secAt x s := by
    intro x hx
    apply List.ext_getElem?
    intro i
    unfold secAt
    rw [List.getElem?_take, List.getElem?_take]
    split
    · rename_i hi; rw [List.getElem?_drop, List.getElem?_drop]; exact hx i hi
    · rfl
  have hdiv : ∀ i, i < 128 → (s * 128 + i) / 128 = s := fun i hi => by omega
  split
  · rename_i hb
    exact key _ fun i hi => by rw [laySec_get hd ho, hdiv i hi, if_pos hb]
  · rename_i hb
    exact key _ fun i hi => by rw [laySec_get hd ho, hdiv i hi, if_neg hb]
theorem lay255 {data old : ByteArray} (hd : data.size = 1024) (ho : old.size = 1024) : laySec 1024 255 data old = data := by
  have : (laySec 1024 255 data old).data.toList = data.data.toList := by
    apply List.ext_getElem?
    intro j
    rw [laySec_get hd ho]
    by_cases hj : j < 1024
    · have h8 : j / 128 = 0 ∨ j / 128 = 1 ∨ j / 128 = 2 ∨ j / 128 = 3 ∨ j / 128 = 4 ∨ j / 128 = 5 ∨ j / 128 = 6 ∨ j / 128 = 7 := by omega
      rw [if_pos]
      rcases h8 with h | h | h | h | h | h | h | h <;> rw [h] <;> decide
    · have h1 : data.data.toList[j]? = none := List.getElem?_eq_none (by rw [list_len hd]; omega)
      have h2 : old.data.toList[j]? = none := List.getElem?_eq_none (by rw [list_len ho]; omega)
      rw [h1, h2]; simp
  cases h1 : laySec 1024 255 data old with | mk u =>
  cases data with | mk v =>
  rw [h1] at this
  simp at this
  rw [this]

theorem goN_app (b : Int) (F : List Int) (W V : List Wt) (dur : List ByteArray) : ∀ n, n ≤ W.length → goN b F (W ++ V) dur n = goN b F W dur n
  | 0, _ => rfl
  | n + 1, h => by
    have e : (W ++ V)[n]? = W[n]? := List.getElem?_append_left (by omega)
    unfold goN
    rw [e, goN_app b F W V dur n (by omega)]

theorem goN_snoc (b : Int) (F : List Int) (W : List Wt) (x : Wt) (dur : List ByteArray) : goN b F (W ++ [x]) dur (W ++ [x]).length = goStep b F W.length x (goN b F W dur W.length) := by
  have e : (W ++ [x])[W.length]? = some x := by simp
  have hl : (W ++ [x]).length = W.length + 1 := by simp
  rw [hl, goN, e]
  simp only
  rw [goN_app b F W [x] dur W.length (Nat.le_refl _)]

/-- What was on a page at the last sync. -/
def oldAt (S : List ByteArray) (no : Nat) : ByteArray := (S[no]?).getD z1024

structure Safe (D : Dk) (S : List ByteArray) (Wr : Nat → List ByteArray) : Prop where
  calm : Calm D
  bytes : D.bytes = 1024
  dur : D.dur = S
  szS : ∀ x ∈ S, x.size = 1024
  szD : ∀ x ∈ D.seen, x.size = 1024
  len : S.length ≤ D.seen.length
  waits : ∀ x ∈ D.waits, (x.act = 1 ∧ 0 ≤ x.page ∧ x.page < 8 ∧ x.page < D.seen.length ∧ x.data ∈ Wr x.page.toNat) ∨ (x.act = 2 ∧ 0 ≤ x.pages ∧ x.pages ≤ D.seen.length)
  all : ∀ F : List Int, (∀ i, i < D.waits.length → F[i]? = some 255) → goN 1024 F D.waits S D.waits.length = D.seen
  szW : ∀ no, ∀ w ∈ Wr no, w.size = 1024

theorem stretch_none {b : Int} {L : List ByteArray} {n : Int} (h : n ≤ L.length) : stretchL b L n = L := by
  unfold stretchL
  have : n.toNat - L.length = 0 := by omega
  rw [this]; simp
theorem stretch_len (b : Int) (L : List ByteArray) (n : Int) : ((stretchL b L n).length : Int) = max (L.length : Int) n := by
  unfold stretchL
  rw [List.length_append, List.length_replicate]
  omega

/-- A write that was answered OK. -/
theorem Safe.write {D : Dk} {S : List ByteArray} {Wr : Nat → List ByteArray} (sf : Safe D S Wr) {no : Int} (hno : 0 ≤ no ∧ no < 8) {data : ByteArray} (h1 : no < D.seen.length) (h2 : data.size = 1024) {Wr' : Nat → List ByteArray} (hw : ∀ i, Wr' i = if (i : Int) = no then Wr i ++ [data] else Wr i) (a : List Ar) (ha : a = []) (wr : Int) :
    Safe { D with arms := a, waits := D.waits ++ [⟨1, no, 0, data⟩], seen := D.seen.set no.toNat data, wr := wr } S Wr' := by
  subst ha
  have hmem : ∀ i w, w ∈ Wr i → w ∈ Wr' i := fun i w h => by rw [hw]; split <;> simp [h]
  refine ⟨⟨rfl, sf.calm.on, sf.calm.taken⟩, sf.bytes, sf.dur, sf.szS, fun x hx => ?_, by simpa using sf.len, fun x hx => ?_, fun F hF => ?_, fun i w hwi => ?_⟩
  · rcases List.mem_or_eq_of_mem_set hx with hx | hx
    · exact sf.szD x hx
    · rw [hx]; exact h2
  · simp only [List.length_set]
    rcases List.mem_append.mp hx with hx | hx
    · rcases sf.waits x hx with ⟨q1, q2, q3, q4, q5⟩ | q
      · exact .inl ⟨q1, q2, q3, q4, hmem _ _ q5⟩
      · exact .inr q
    · simp at hx; subst hx
      refine .inl ⟨rfl, hno.1, hno.2, h1, ?_⟩
      rw [hw, if_pos (by simp only; omega)]; simp
  · simp only [List.length_append, List.length_cons, List.length_nil] at hF
    show goN 1024 F (D.waits ++ [Wt.mk 1 no 0 data]) S (D.waits ++ [Wt.mk 1 no 0 data]).length = _
    rw [goN_snoc, sf.all F fun i hi => hF i (by omega)]
    unfold goStep
    rw [hF D.waits.length (by omega)]
    simp only
    rw [if_neg (by omega), if_neg (by omega)]
    unfold layL
    rw [if_neg (by omega), stretch_none (by omega)]
    simp only
    have hlt : no.toNat < D.seen.length := by omega
    rw [List.getElem?_eq_getElem hlt, Option.getD_some, lay255 h2 (sf.szD _ (List.getElem_mem hlt))]
  · rw [hw] at hwi
    split at hwi
    · rcases List.mem_append.mp hwi with hwi | hwi
      · exact sf.szW i w hwi
      · simp at hwi; rw [hwi]; exact h2
    · exact sf.szW i w hwi

/-- A growth that was answered OK. -/
theorem Safe.grow {D : Dk} {S : List ByteArray} {Wr : Nat → List ByteArray} (sf : Safe D S Wr) {n : Int} (hn : 1 ≤ n) (a : List Ar) (ha : a = []) (gr : Int) (data : ByteArray) :
    Safe { D with arms := a, waits := D.waits ++ [⟨2, 0, D.seen.length + n, data⟩], seen := stretchL D.bytes D.seen (D.seen.length + n), gr := gr } S Wr := by
  subst ha
  have hsl := stretch_len D.bytes D.seen (D.seen.length + n)
  have h1 : ((stretchL D.bytes D.seen (D.seen.length + n)).length : Int) = D.seen.length + n := by omega
  refine ⟨⟨rfl, sf.calm.on, sf.calm.taken⟩, sf.bytes, sf.dur, sf.szS, fun x hx => ?_, ?_, fun x hx => ?_, fun F hF => ?_, sf.szW⟩
  · have hx : x ∈ stretchL D.bytes D.seen (D.seen.length + n) := hx
    unfold stretchL at hx
    rcases List.mem_append.mp hx with hx | hx
    · exact sf.szD x hx
    · rw [(List.mem_replicate.mp hx).2, zeros_size, sf.bytes]; rfl
  · have := sf.len; simp only; omega
  · simp only
    rcases List.mem_append.mp hx with hx | hx
    · rcases sf.waits x hx with ⟨q1, q2, q3, q4, q5⟩ | ⟨q1, q2, q3⟩
      · exact .inl ⟨q1, q2, q3, by omega, q5⟩
      · exact .inr ⟨q1, q2, by omega⟩
    · simp at hx; subst hx
      exact .inr ⟨rfl, by simp only; omega, by simp only; omega⟩
  · simp only [List.length_append, List.length_cons, List.length_nil] at hF
    show goN 1024 F (D.waits ++ [Wt.mk 2 0 (D.seen.length + n) data]) S (D.waits ++ [Wt.mk 2 0 (D.seen.length + n) data]).length = _
    rw [goN_snoc, sf.all F fun i hi => hF i (by omega)]
    unfold goStep
    rw [hF D.waits.length (by omega)]
    simp only
    rw [if_neg (by omega), if_pos trivial, sf.bytes]

/-- A sync. -/
theorem Safe.sync {D : Dk} {S : List ByteArray} {Wr : Nat → List ByteArray} (sf : Safe D S Wr) (a : List Ar) (ha : a = []) (sy : Int) :
    Safe { D with arms := a, waits := [], dur := D.seen, sy := sy } D.seen fun _ => [] := by
  subst ha
  exact ⟨⟨rfl, sf.calm.on, sf.calm.taken⟩, sf.bytes, rfl, sf.szD, sf.szD, Nat.le_refl _, by simp, fun F hF => rfl, by simp⟩

/-- How long the image gets. -/
def longN (F : List Int) (W : List Wt) (l0 : Int) : Nat → Int
  | 0 => l0
  | n + 1 => match F[n]?, W[n]? with
    | some f, some x =>
      let m := if f ≠ 0 ∧ x.act = 2 then max (longN F W l0 n) x.pages else longN F W l0 n
      if f ≠ 0 ∧ x.act = 1 then max m (x.page + 1) else m
    | _, _ => longN F W l0 n

theorem longN_stop {F : List Int} {W : List Wt} {l0 : Int} {i : Nat} (h : F.length ≤ i) : ∀ n, i ≤ n → longN F W l0 n = longN F W l0 i
  | 0, hn => by have : i = 0 := by omega
                subst this; rfl
  | n + 1, hn => by
    by_cases hi : i = n + 1
    · rw [hi]
    · rw [longN, List.getElem?_eq_none (by omega)]
      simp only
      exact longN_stop h n (by omega)

/-- THE LAW: each sector is that of the last sync, or that of a write that waited. -/
structure Left (S : List ByteArray) (Wr : Nat → List ByteArray) (top : Nat) (l : Int) (L : List ByteArray) : Prop where
  len : (L.length : Int) = l
  lo : S.length ≤ L.length
  hi : L.length ≤ top
  size : ∀ (no : Nat) x, L[no]? = some x → x.size = 1024
  none : ∀ (no : Nat) x, L[no]? = some x → Wr no = [] → x = oldAt S no
  secs : ∀ (no : Nat) x, L[no]? = some x → ∀ s, s < 8 → secAt x s = secAt (oldAt S no) s ∨ ∃ w ∈ Wr no, secAt x s = secAt w s

theorem Left.stretch {S : List ByteArray} {Wr : Nat → List ByteArray} {top : Nat} {l : Int} {L : List ByteArray} (lf : Left S Wr top l L) {n : Int} (hn : n ≤ top) : Left S Wr top (max l n) (stretchL 1024 L n) := by
  have hsl := stretch_len 1024 L n
  have hlen := lf.len
  have hlo := lf.lo
  have hhi := lf.hi
  have get : ∀ (no : Nat) x, (stretchL 1024 L n)[no]? = some x → L[no]? = some x ∨ (S.length ≤ no ∧ x = z1024) := by
    intro no x hx
    unfold stretchL at hx
    rw [List.getElem?_append] at hx
    split at hx
    · exact .inl hx
    · rename_i hge
      right
      rw [List.getElem?_replicate] at hx
      split at hx
      · simp at hx; exact ⟨by omega, hx.symm⟩
      · simp at hx
  have zold : ∀ no, S.length ≤ no → z1024 = oldAt S no := fun no h => by unfold oldAt; rw [List.getElem?_eq_none h]; rfl
  refine ⟨by omega, by omega, by omega, fun no x hx => ?_, fun no x hx hw => ?_, fun no x hx s hs => ?_⟩
  · rcases get no x hx with h | ⟨h, rfl⟩
    · exact lf.size no x h
    · exact zeros_size 1024
  · rcases get no x hx with h | ⟨h, rfl⟩
    · exact lf.none no x h hw
    · exact zold no h
  · rcases get no x hx with h | ⟨h, rfl⟩
    · exact lf.secs no x h s hs
    · left; rw [zold no h]

theorem Left.lay {S : List ByteArray} {Wr : Nat → List ByteArray} {top : Nat} {l : Int} {L : List ByteArray} (lf : Left S Wr top l L) {no f : Int} (h0 : 0 ≤ no) (hn : no < top) {data : ByteArray} (hd : data.size = 1024) (hw : data ∈ Wr no.toNat) (hf : f ≠ 0) : Left S Wr top (max l (no + 1)) (layL 1024 L no data f) := by
  have ls := lf.stretch (n := no + 1) (by omega)
  unfold layL
  rw [if_neg hf]
  simp only
  generalize stretchL 1024 L (no + 1) = L1 at ls
  have hlen := ls.len
  have hlt : no.toNat < L1.length := by omega
  have hold : L1[no.toNat]? = some (L1[no.toNat]) := List.getElem?_eq_getElem hlt
  generalize L1[no.toNat] = old at hold
  rw [hold, Option.getD_some]
  have hosz := ls.size _ _ hold
  have get : ∀ (i : Nat) x, (L1.set no.toNat (laySec 1024 f data old))[i]? = some x → (i ≠ no.toNat ∧ L1[i]? = some x) ∨ (i = no.toNat ∧ x = laySec 1024 f data old) := by
    intro i x hx
    by_cases hi : no.toNat = i
    · subst hi
      rw [List.getElem?_set_self hlt] at hx
      simp at hx
      exact .inr ⟨rfl, hx.symm⟩
    · rw [List.getElem?_set_ne hi] at hx
      exact .inl ⟨fun h => hi h.symm, hx⟩
  refine ⟨by rw [List.length_set]; exact hlen, by rw [List.length_set]; exact ls.lo, by rw [List.length_set]; exact ls.hi, fun i x hx => ?_, fun i x hx hw' => ?_, fun i x hx s hs => ?_⟩
  · rcases get i x hx with ⟨_, h⟩ | ⟨_, rfl⟩
    · exact ls.size i x h
    · exact laySec_size (k := 128) (by omega) hosz
  · rcases get i x hx with ⟨_, h⟩ | ⟨rfl, _⟩
    · exact ls.none i x h hw'
    · rw [hw'] at hw; simp at hw
  · rcases get i x hx with ⟨_, h⟩ | ⟨rfl, rfl⟩
    · exact ls.secs i x h s hs
    · rw [laySec_sec hd hosz]
      split
      · exact .inr ⟨data, hw, rfl⟩
      · exact ls.secs _ _ hold s hs

theorem Safe.left {D : Dk} {S : List ByteArray} {Wr : Nat → List ByteArray} (sf : Safe D S Wr) (F : List Int) : ∀ n, n ≤ D.waits.length → Left S Wr D.seen.length (longN F D.waits S.length n) (goN 1024 F D.waits S n)
  | 0, _ => by
    refine ⟨rfl, Nat.le_refl _, sf.len, fun no x hx => sf.szS x (List.mem_of_getElem? hx), fun no x hx _ => ?_, fun no x hx s _ => .inl ?_⟩
    · have hx : S[no]? = some x := hx
      unfold oldAt; rw [hx]; rfl
    · have hx : S[no]? = some x := hx
      unfold oldAt; rw [hx]; rfl
  | n + 1, hn => by
    have ih := sf.left F n (by omega)
    have hz : D.waits[n]? = some (D.waits[n]'(by omega)) := List.getElem?_eq_getElem _
    generalize D.waits[n]'(by omega) = z at hz
    have hw := sf.waits z (List.mem_of_getElem? hz)
    rw [longN, goN, hz]
    simp only
    unfold goStep
    cases hf : F[n]? with
    | none => exact ih
    | some f =>
      simp only
      by_cases h0 : f = 0
      · subst h0; simpa using ih
      · rw [if_neg h0]
        rcases hw with ⟨q1, q2, q3, q4, q5⟩ | ⟨q1, q2, q3⟩
        · rw [if_neg (show ¬ z.act = 2 by omega), if_neg (show ¬ (f ≠ 0 ∧ z.act = 2) by omega), if_pos ⟨h0, q1⟩]
          exact ih.lay q2 (by omega) (sf.szW _ _ q5) q5 h0
        · rw [if_pos q1, if_neg (show ¬ (f ≠ 0 ∧ z.act = 1) by omega), if_pos ⟨h0, q1⟩]
          exact ih.stretch (by omega)
end Go.Proofs.Ytfkhjbfddeahaaa.kc
