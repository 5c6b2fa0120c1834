/-
  How a text is read as a rational number, in plain arithmetic.
  No conditions: each theorem names its own premises.
-/
import Derived.Test.YtfdekppnilffeaaGreatDoorYPar
import Derived.Test.YtfdekppnilffeaaGreatDoorYQ
set_option linter.unusedSimpArgs false
set_option linter.unusedVariables false
namespace Go.Proofs.YtfdekppnilffeaaGreatDoor
open Go.Lib

def qpre (s : List UInt8) : List UInt8 := s.takeWhile fun c => c != 47
def qneg (s : List UInt8) : Bool := (qpre s).head? == some 45
def qn (s : List UInt8) : List UInt8 := if qneg s = true then (qpre s).tail else qpre s
def qslash (s : List UInt8) : Bool := decide ((qpre s).length < s.length)
def qd (s : List UInt8) : List UInt8 := if qslash s = true then s.drop ((qpre s).length + 1) else [49]
def QIs (s : List UInt8) : Prop := Form (qn s) ∧ ¬(qneg s = true ∧ qn s = [48]) ∧ (qslash s = true → qn s ≠ [48] ∧ Form (qd s) ∧ qd s ≠ [48] ∧ qd s ≠ [49])
/-- The error that a text has as a number. -/
def QErr (s : List UInt8) (e : Int) : Prop :=
  (¬ QIs s ∧ e = 3) ∨ (QIs s ∧ (4000 < (qn s).length ∨ 4000 < (qd s).length) ∧ e = 5) ∨
  (QIs s ∧ (qn s).length ≤ 4000 ∧ (qd s).length ≤ 4000 ∧ Nat.gcd (dval (qn s)) (dval (qd s)) ≠ 1 ∧ e = 3) ∨
  (QIs s ∧ (qn s).length ≤ 4000 ∧ (qd s).length ≤ 4000 ∧ Nat.gcd (dval (qn s)) (dval (qd s)) = 1 ∧ e = 0)
theorem QErr.uniq {s : List UInt8} {e e' : Int} (h : QErr s e) (h' : QErr s e') : e = e' := by
  rcases h with ⟨h1, rfl⟩ | ⟨h1, h2, rfl⟩ | ⟨h1, h2, h3, h4, rfl⟩ | ⟨h1, h2, h3, h4, rfl⟩ <;>
    rcases h' with ⟨g1, rfl⟩ | ⟨g1, g2, rfl⟩ | ⟨g1, g2, g3, g4, rfl⟩ | ⟨g1, g2, g3, g4, rfl⟩ <;> first
    | rfl
    | exact absurd h1 g1
    | exact absurd g1 h1
    | (exfalso; omega)
    | exact absurd h4 g4
    | exact absurd g4 h4
/-- The number of a text. -/
def qval (s : List UInt8) : Rat := mkq (qneg s) (dval (qn s)) (dval (qd s))

theorem form_digit {l : List UInt8} (h : Form l) : ∀ c ∈ l, c ≠ 47 ∧ c ≠ 45 := fun c hc => by
  have := h.2.2 c hc
  unfold isD at this
  constructor <;> (rintro rfl; revert this; decide)
theorem form_dec (n : Nat) : Form (decDigits n) := form_iff.2 ⟨n, rfl⟩
theorem qd_pos {s : List UInt8} (h : QIs s) : dval (qd s) ≠ 0 := by
  unfold qd
  split
  · rename_i hs
    obtain ⟨_, h1, h2, _⟩ := h.2.2 hs
    unfold qd at h1 h2
    rw [if_pos hs] at h1 h2
    intro h0
    apply h2
    have := dec_of h1.2.2 h1.1 h1.2.1
    rw [this, h0, decDigits, dif_pos (by omega)]; rfl
  · decide
theorem dval_zero_iff {l : List UInt8} (h : Form l) : l = [48] ↔ dval l = 0 := by
  constructor
  · rintro rfl; rfl
  · intro h0
    rw [dec_of h.2.2 h.1 h.2.1, h0, decDigits, dif_pos (by omega)]; rfl
theorem dval_one_iff {l : List UInt8} (h : Form l) : l = [49] ↔ dval l = 1 := by
  constructor
  · rintro rfl; rfl
  · intro h0
    rw [dec_of h.2.2 h.1 h.2.1, h0, decDigits, dif_pos (by omega)]; rfl

theorem takeW_all {p : UInt8 → Bool} : ∀ (l : List UInt8), (∀ c ∈ l, p c = true) → l.takeWhile p = l
  | [], _ => rfl
  | c :: r, h => by
    rw [List.takeWhile_cons, h c (by simp), takeW_all r (fun x hx => h x (by simp [hx]))]; simp
theorem takeW_stop {p : UInt8 → Bool} (c : UInt8) (t : List UInt8) (hc : p c = false) : ∀ (l : List UInt8), (∀ c ∈ l, p c = true) → (l ++ c :: t).takeWhile p = l
  | [], _ => by simp [List.takeWhile_cons, hc]
  | a :: r, h => by
    rw [List.cons_append, List.takeWhile_cons, h a (by simp), takeW_stop c t hc r (fun x hx => h x (by simp [hx]))]; simp
/-- A number's text is read as the number. -/
theorem q_text (r : Rat) : qneg (qtext r) = decide (r.num < 0) ∧ qn (qtext r) = decDigits r.num.natAbs ∧ qd (qtext r) = decDigits r.den ∧ QIs (qtext r) := by
  have hfn := form_dec r.num.natAbs
  have hfd := form_dec r.den
  have hd1 : decDigits 1 = [49] := by rw [decDigits, dif_pos (by omega)]; rfl
  have hA : ∀ c ∈ (if r.num < 0 then [45] else []) ++ decDigits r.num.natAbs, (c != 47) = true := by
    intro c hc
    rcases List.mem_append.1 hc with h | h
    · split at h
      · rw [List.mem_singleton.1 h]; decide
      · cases h
    · simpa using (form_digit hfn c h).1
  have hpre : qpre (qtext r) = (if r.num < 0 then [45] else []) ++ decDigits r.num.natAbs := by
    unfold qpre qtext
    by_cases hd : r.den = 1
    · rw [if_pos hd, List.append_nil]; exact takeW_all _ hA
    · rw [if_neg hd]; exact takeW_stop 47 _ (by decide) _ hA
  have hneg : qneg (qtext r) = decide (r.num < 0) := by
    unfold qneg
    rw [hpre]
    by_cases h : r.num < 0
    · rw [if_pos h]; simp [h]
    · rw [if_neg h]
      rw [decide_eq_false h, List.nil_append]
      cases hl : decDigits r.num.natAbs with
      | nil => exact absurd hl hfn.1
      | cons c t =>
        have := (form_digit hfn c (by rw [hl]; simp)).2
        simpa using this
  have hn : qn (qtext r) = decDigits r.num.natAbs := by
    unfold qn
    rw [hneg, hpre]
    by_cases h : r.num < 0
    · simp [h]
    · simp [h]
  have hsl : qslash (qtext r) = decide (r.den ≠ 1) := by
    unfold qslash
    rw [hpre]
    unfold qtext
    by_cases h : r.den = 1
    · simp [h]
    · simp [h]
  have hqd : qd (qtext r) = decDigits r.den := by
    unfold qd
    rw [hsl]
    by_cases h : r.den = 1
    · simp [h, hd1]
    · rw [if_pos (by simpa using h), hpre]
      have hdrop : ∀ (A D : List UInt8), (A ++ 47 :: D).drop (A.length + 1) = D := fun A D => by
        rw [show A ++ 47 :: D = (A ++ [47]) ++ D by simp, List.drop_left' (by simp)]
      unfold qtext
      rw [if_neg h]
      exact hdrop _ _
  refine ⟨hneg, hn, hqd, ?_⟩
  unfold QIs
  rw [hn, hneg, hsl, hqd]
  refine ⟨hfn, fun h => ?_, fun h => ?_⟩
  · have h1 : r.num < 0 := by simpa using h.1
    have h2 := (dval_zero_iff hfn).1 h.2
    rw [(dec_dval _).2] at h2
    omega
  · have h1 : r.den ≠ 1 := by simpa using h
    refine ⟨fun h2 => ?_, hfd, fun h2 => ?_, fun h2 => ?_⟩
    · have h2 := (dval_zero_iff hfn).1 h2
      rw [(dec_dval _).2] at h2
      have := r.reduced
      rw [h2, Nat.coprime_zero_left] at this
      exact h1 this
    · have h2 := (dval_zero_iff hfd).1 h2
      rw [(dec_dval _).2] at h2
      exact r.den_nz h2
    · have h2 := (dval_one_iff hfd).1 h2
      rw [(dec_dval _).2] at h2
      exact h1 h2
theorem q_text_ok (r : Rat) (h : Small 4000 r) : QErr (qtext r) 0 ∧ qval (qtext r) = r := by
  obtain ⟨h1, h2, h3, h4⟩ := q_text r
  refine ⟨.inr (.inr (.inr ⟨h4, ?_, ?_, ?_, rfl⟩)), ?_⟩
  · rw [h2, decDigits_length]; exact h.1
  · rw [h3, decDigits_length]; exact h.2
  · rw [h2, h3, (dec_dval _).2, (dec_dval _).2]; exact r.reduced
  · unfold qval
    rw [h1, h2, h3, (dec_dval _).2, (dec_dval _).2]
    exact mkq_self r
end Go.Proofs.YtfdekppnilffeaaGreatDoor
