/-
  Walk of package limbs: Form, which tells texts of numbers.
  Conditions: texts take fewer than 2^40 bytes.
-/
import Derived.Test.YtnohojjjfconfaaDoorPar
set_option linter.unusedSimpArgs false
set_option linter.unusedVariables false
set_option maxHeartbeats 1000000
namespace Go.Proofs.YtnohojjjfconfaaDoor
open Go Go.Proofs Go.RowKit Go.Lib

/-- A text of a number. -/
def Form (l : List UInt8) : Prop := l ≠ [] ∧ (l = [48] ∨ l.head? ≠ some 48) ∧ Dgs l

theorem form_iff {l : List UInt8} : Form l ↔ ∃ n, l = decDigits n :=
  ⟨fun ⟨h1, h2, h3⟩ => ⟨_, dec_of h3 h1 h2⟩, by
    rintro ⟨n, rfl⟩
    exact ⟨fun e => by have := decDigits_length n; rw [e] at this; have := nDigits_pos n; simp at *; omega, dec_head, (dec_dval n).1⟩⟩

theorem dropW_nil {p : UInt8 → Bool} : ∀ (l : List UInt8), l.dropWhile p = [] ↔ ∀ c ∈ l, p c = true
  | [] => by simp
  | c :: l => by
    rw [List.dropWhile_cons]
    split
    · rename_i h
      rw [dropW_nil l]; simp [h]
    · rename_i h
      simp only [List.cons_ne_nil, List.mem_cons, forall_eq_or_imp, false_iff]
      exact fun ⟨h1, _⟩ => h h1

theorem trim_nil (l cs : List UInt8) : trimS l cs = [] ↔ ∀ c ∈ l, cs.contains c = true := by
  unfold trimS trimLeftS trimRightS
  rw [dropW_nil]
  constructor
  · intro h
    have h1 : l.reverse.dropWhile (cs.contains ·) = [] := by
      cases hd : l.reverse.dropWhile (cs.contains ·) with
      | nil => rfl
      | cons x t =>
        exfalso
        have h2 := h x (by rw [hd]; simp)
        have h3 := List.head?_dropWhile_not (cs.contains ·) l.reverse
        rw [hd] at h3
        simp at h3
        simp at h2
        exact h3 h2
    rw [dropW_nil] at h1
    intro c hc
    exact h1 c (by simpa using hc)
  · intro h c hc
    have h1 : l.reverse.dropWhile (cs.contains ·) = [] := (dropW_nil _).2 (fun c hc => h c (by simpa using hc))
    rw [h1] at hc
    cases hc

theorem digs_cut (c : UInt8) : ([48, 49, 50, 51, 52, 53, 54, 55, 56, 57] : List UInt8).contains c = true ↔ isD c := by
  have key : ∀ n : Fin 256, ([48, 49, 50, 51, 52, 53, 54, 55, 56, 57] : List UInt8).contains (UInt8.ofNat n.val) = decide (48 ≤ n.val ∧ n.val ≤ 57) := by decide +kernel
  have h := key ⟨c.toNat, c.toNat_lt⟩
  simp only [UInt8.ofNat_toNat] at h
  rw [h]
  simp [isD]

theorem trimstr_calls (l : List UInt8) (hl : l.length ≤ 1099511627776) (w : World) :
    Calls Tryd.prog 54 #[.string ⟨⟨l⟩⟩, .string ⟨⟨[48, 49, 50, 51, 52, 53, 54, 55, 56, 57]⟩⟩] w (Ret fun v w' => (∃ t, v = .string ⟨⟨t⟩⟩ ∧ (t = [] ↔ Dgs l)) ∧ Below w.heap.size w w') :=
  (Any.strings_Trim_laid Tryd.lays160 (by kernel_rfl) ⟨⟨l⟩⟩ ⟨⟨[48, 49, 50, 51, 52, 53, 54, 55, 56, 57]⟩⟩ w (show l.length ≤ _ by omega) (by decide) (ascii_of_all (by decide))).mono (by
    rintro e w' ⟨rfl, hB⟩
    refine ⟨_, rfl, ⟨_, rfl, ?_⟩, hB⟩
    rw [trim_nil]
    exact ⟨fun h c hc => (digs_cut c).1 (h c hc), fun h c hc => (digs_cut c).2 (h c hc)⟩)


theorem form_calls (l : List UInt8) (hl : l.length ≤ 1099511627776) (w : World) :
    Calls Tryd.prog 33 #[.string ⟨⟨l⟩⟩] w (Ret fun v w' => (∃ b, v = .bool b ∧ (b = true ↔ Form l)) ∧ Below w.heap.size w w') := by
  refine enter Tryd.func33 rfl Tryd.ntmps33 (Nat.le_of_ble_eq_true rfl) ?_
  refine dr U 600 rfl trivial ?_
  refine cS rfl rfl rfl rfl (fun hq => ?_) (fun hq => ?_)
  · have hne : l ≠ [] := hq
    have hpos := List.length_pos_iff.2 hne
    refine dr U 600 rfl trivial ?_
    refine cS rfl rfl rfl rfl (fun hq => ?_) (fun hq => ?_)
    · have hhd : l = [48] ∨ l.head? ≠ some 48 := .inl hq
      refine dr U 600 rfl trivial ?_
      refine call (f := 54) rfl rfl cb54 (trimstr_calls l hl w) ?_
      rintro v w1 ⟨⟨t, rfl, ht⟩, hB⟩
      refine ⟨_, rfl, ?_⟩
      refine cS rfl rfl rfl rfl (fun hq => ?_) (fun hq => ?_)
      · refine dr U 600 rfl trivial ?_
        exact ret Tryd.results33 rfl ⟨_, rfl, ⟨true, rfl, fun _ => ⟨hne, hhd, ht.1 hq⟩, fun _ => rfl⟩, hB⟩
      · refine dr U 600 rfl trivial ?_
        exact ret Tryd.results33 rfl ⟨_, rfl, ⟨false, rfl, fun h => (by cases h), fun h => absurd (ht.2 h.2.2) hq⟩, hB⟩
    · have hn48 := hq
      refine dr U 600 rfl (by first | exact True.intro | (simp only [AllP, InR, List.nil_append, List.cons_append, and_true]; omega)) ?_
      refine cS rfl rfl rfl rfl (fun hq => ?_) (fun hq => ?_)
      · have hhd : l = [48] ∨ l.head? ≠ some 48 := .inr (fun e => by
          cases l with
          | nil => cases e
          | cons c r =>
            simp at e; subst e
            exact hq rfl)
        refine dr U 600 rfl trivial ?_
        refine call (f := 54) rfl rfl cb54 (trimstr_calls l hl w) ?_
        rintro v w1 ⟨⟨t, rfl, ht⟩, hB⟩
        refine ⟨_, rfl, ?_⟩
        refine cS rfl rfl rfl rfl (fun hq => ?_) (fun hq => ?_)
        · refine dr U 600 rfl trivial ?_
          exact ret Tryd.results33 rfl ⟨_, rfl, ⟨true, rfl, fun _ => ⟨hne, hhd, ht.1 hq⟩, fun _ => rfl⟩, hB⟩
        · refine dr U 600 rfl trivial ?_
          exact ret Tryd.results33 rfl ⟨_, rfl, ⟨false, rfl, fun h => (by cases h), fun h => absurd (ht.2 h.2.2) hq⟩, hB⟩
      · have hno : ¬ (l = [48] ∨ l.head? ≠ some 48) := by
          rintro (h | h)
          · exact hn48 h
          · cases l with
            | nil => exact hne rfl
            | cons c r =>
              refine h ?_
              have h8 : c.toNat = 48 := by
                have h9 := Classical.not_not.1 hq
                simp at h9; omega
              show some c = some 48
              rw [show c = 48 from UInt8.toNat_inj.1 h8]
        refine dr U 600 rfl trivial ?_
        exact ret Tryd.results33 rfl ⟨_, rfl, ⟨false, rfl, fun h => (by cases h), fun h => absurd h.2.1 hno⟩, Below.refl _ _⟩
  · have h0 : l = [] := Classical.not_not.1 hq
    refine dr U 600 rfl trivial ?_
    exact ret Tryd.results33 rfl ⟨_, rfl, ⟨false, rfl, fun h => (by cases h), fun h => absurd h0 h.1⟩, Below.refl _ _⟩
end Go.Proofs.YtnohojjjfconfaaDoor
