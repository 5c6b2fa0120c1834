/-
  Walks of package limbs: trim, Of, Zero, One, Add, Sub, Mul return what the arithmetic of limbs says, and leave all older memory alone.
  Conditions: the numbers take fewer than 2^40 limbs.
-/
import Derived.Test.YtnohojjjfconfaaDoorTab
import Derived.Test.YtnohojjjfconfaaDoorNum
set_option linter.unusedSimpArgs false
set_option linter.unusedVariables false
namespace Go.Proofs.YtnohojjjfconfaaDoor
open Go Go.Proofs Go.RowKit

theorem iv {k : IntKind} {a b : Int} (h : a = b) : some (Value.int k a) = some (Value.int k b) := by rw [h]

/-- A slice of limbs that reads as this list. -/
def Rd (w : World) (a : Option Addr) (c : Nat) (xs : List Nat) : Prop := Sl w a (xs.map u64) ∧ xs.length ≤ c ∧ ∀ g, ab a = some g → g < w.heap.size

theorem Rd.below {w w' : World} {a : Option Addr} {c : Nat} {xs : List Nat} (h : Rd w a c xs) (hb : Below w.heap.size w w') : Rd w' a c xs :=
  ⟨h.1.below hb h.2.2, h.2.1, fun g hg => Nat.lt_of_lt_of_le (h.2.2 g hg) hb.size⟩

theorem getU {xs : List Nat} {j : Nat} (h : j < xs.length) : (xs.map u64)[j]? = some (u64 (xs.getD j 0)) := by simp [h, List.getD]

/-- A fresh slice of limbs, as a result. -/
def Own (w w' : World) (v : Value) (zs : List Nat) : Prop := ∃ a c, v = .slice a zs.length c ∧ w'.ownsRow w.heap.size 44 1 (.slice a zs.length c) zs.length (zs.map u64) ∧ Below w.heap.size w w'

theorem own_rd {w : World} {base e : Nat} {a : Option Addr} {m c : Nat} {xs : List Nat} (h : w.ownsRow base e 1 (.slice a m c) m (xs.map u64)) : Rd w a c xs := by
  have hl := own_len h
  simp at hl
  refine ⟨own_sl h, ?_, fun g hg => (own_block h g hg).2⟩
  rcases h.2 with ⟨h1, h2⟩ | ⟨g, cap, cur, h1, _, _, h4, _⟩
  · omega
  · simp at h1; omega

theorem own_take {w : World} {base e : Nat} {a : Option Addr} {m c k : Nat} {cs : List Value} (h : w.ownsRow base e 1 (.slice a m c) m cs) (hk : k ≤ m) : w.ownsRow base e 1 (.slice a k c) k (cs.take k) := by
  have hl := own_len h
  refine ⟨by simp; omega, ?_⟩
  rcases h.2 with ⟨h1, h2⟩ | ⟨g, cap, cur, h1, h2, h3, h4, h5, h6, h7⟩
  · simp at h1; obtain ⟨rfl, rfl, rfl⟩ := h1
    exact .inl ⟨by simp; omega, by omega⟩
  · simp at h1; obtain ⟨rfl, rfl⟩ := h1
    refine .inr ⟨g, c, cur, rfl, h2, h3, by omega, h5, h6, ?_⟩
    rw [← h7, List.take_take]; simp [Nat.min_eq_left hk]

theorem trim_calls (xs : List Nat) (a : Option Addr) (c : Nat) (w : World) (h : Rd w a c xs) (hl : xs.length ≤ 1099511627776) :
    Calls Tryd.prog 41 #[.slice a xs.length c] w (Ret fun v w' => v = .slice a (trimN xs).length c ∧ w = w') := by
  obtain ⟨hs, hc, _⟩ := h
  refine enter Tryd.func41 rfl Tryd.ntmps41 (Nat.le_of_ble_eq_true rfl) ?_
  refine dr U 600 rfl trivial ?_
  refine loopR (fun l w' m => ∃ j, l = [(0, .slice a j c)] ∧ w = w' ∧ j ≤ xs.length ∧ trimN (xs.take j) = trimN xs ∧ j = m) ⟨xs.length, rfl, rfl, Nat.le_refl _, by simp, rfl⟩ ⟨rfl, trivial⟩ ?_
  rintro l w' m ⟨j, rfl, rfl, hj, ht, rfl⟩
  refine dr U 600 rfl (by first | exact True.intro | (simp only [AllP, InR, List.nil_append, List.cons_append, and_true]; omega)) ?_
  refine cS rfl rfl rfl rfl (fun hq => ?_) (fun hq => ?_)
  · refine dr U 600 rfl (by first | exact True.intro | (simp only [AllP, InR, List.nil_append, List.cons_append, and_true]; omega)) ?_
    obtain ⟨i, rfl⟩ : ∃ i, j = i + 1 := ⟨j - 1, by omega⟩
    rw [take_snoc xs i hj] at ht
    refine il U rfl rfl rfl rfl rfl rfl rfl (fun _ => rfl) rfl i (by omega) (by omega) hs (getU hj) ?_
    refine cS rfl rfl rfl rfl (fun hq => ?_) (fun hq => ?_)
    · refine dr U 600 rfl (by first | exact True.intro | (simp only [AllP, InR, List.nil_append, List.cons_append, and_true]; omega)) ?_
      rw [trimN_snoc0 _ _ (by omega)] at ht
      exact rend _ _ ⟨_, rfl, rfl, by omega, by rw [show (((i + 1 : Nat) : Int) - 1).toNat = i from by omega]; exact ht, rfl⟩ (by omega) ⟨rfl, trivial⟩
    · refine dr U 600 rfl (by first | exact True.intro | (simp only [AllP, InR, List.nil_append, List.cons_append, and_true]; omega)) ?_
      rw [trimN_snoc _ _ (by omega), ← take_snoc xs i hj] at ht
      refine ret Tryd.results41 rfl ⟨_, rfl, ?_, rfl⟩
      rw [← ht]; simp [pack]; omega
  · refine dr U 600 rfl (by first | exact True.intro | (simp only [AllP, InR, List.nil_append, List.cons_append, and_true]; omega)) ?_
    obtain rfl : j = 0 := by omega
    refine ret Tryd.results41 rfl ⟨_, rfl, ?_, rfl⟩
    rw [← ht]; rfl

theorem trim_own (xs : List Nat) (a : Option Addr) (c base : Nat) (w : World) (h : w.ownsRow base 44 1 (.slice a xs.length c) xs.length (xs.map u64)) (hx : Lm xs) (hl : xs.length ≤ 1099511627776) :
    Calls Tryd.prog 41 #[.slice a xs.length c] w (Ret fun v w' => v = .slice a (lim (val xs)).length c ∧ w = w' ∧ w.ownsRow base 44 1 (.slice a (lim (val xs)).length c) (lim (val xs)).length ((lim (val xs)).map u64)) := by
  refine (trim_calls xs a c w (own_rd h) hl).mono ?_
  rintro e w' ⟨v, rfl, rfl, rfl⟩
  rw [trimN_eq hx]
  refine ⟨_, rfl, rfl, rfl, ?_⟩
  obtain ⟨t, ht⟩ := trimN_prefix xs
  rw [trimN_eq hx] at ht
  generalize lim (val xs) = zs at ht
  have h1 := own_take h (k := zs.length) (by rw [ht]; simp)
  have h2 : (xs.map u64).take zs.length = zs.map u64 := by
    rw [ht, List.map_append, List.take_left' (by simp)]
  rw [h2] at h1
  exact h1

theorem zero_calls (xs : List Nat) (a : Option Addr) (c : Nat) (w : World) : Calls Tryd.prog 28 #[.slice a xs.length c] w (Ret fun v w' => v = .bool (decide (xs = [])) ∧ w = w') := by
  refine enter Tryd.func28 rfl Tryd.ntmps28 (Nat.le_of_ble_eq_true rfl) ?_
  refine dr U 600 rfl trivial ?_
  refine cS rfl rfl rfl rfl (fun hq => ?_) (fun hq => ?_)
  · refine dr U 600 rfl trivial ?_
    refine ret Tryd.results28 rfl ⟨_, rfl, ?_, rfl⟩
    have : xs = [] := List.length_eq_zero_iff.1 (by omega)
    simp [this, pack]
  · refine dr U 600 rfl trivial ?_
    refine ret Tryd.results28 rfl ⟨_, rfl, ?_, rfl⟩
    have : ¬ xs = [] := fun e => hq (by rw [e]; rfl)
    simp [this, pack]

theorem one_calls (n : Nat) (a : Option Addr) (c : Nat) (w : World) (h : Rd w a c (lim n)) : Calls Tryd.prog 42 #[.slice a (lim n).length c] w (Ret fun v w' => v = .bool (decide (n = 1)) ∧ w = w') := by
  have hv := val_lim n
  refine enter Tryd.func42 rfl Tryd.ntmps42 (Nat.le_of_ble_eq_true rfl) ?_
  refine dr U 600 rfl trivial ?_
  refine cS rfl rfl rfl rfl (fun hq => ?_) (fun hq => ?_)
  · refine dr U 600 rfl (by first | exact True.intro | (simp only [AllP, InR, List.nil_append, List.cons_append, and_true]; omega)) ?_
    have h0 : 0 < (lim n).length := by omega
    refine il U rfl rfl rfl rfl rfl rfl rfl (fun _ => rfl) rfl 0 (by omega) (by omega) h.1 (getU h0) ?_
    obtain ⟨x, hl⟩ := List.length_eq_one_iff.1 (show (lim n).length = 1 by omega)
    rw [hl] at hv
    simp [val] at hv
    refine cS rfl rfl rfl rfl (fun hq => ?_) (fun hq => ?_)
    · refine dr U 600 rfl trivial ?_
      refine ret Tryd.results42 rfl ⟨_, rfl, ?_, rfl⟩
      have : n = 1 := by simp [hl] at hq; omega
      simp [this, pack]
    · refine dr U 600 rfl trivial ?_
      refine ret Tryd.results42 rfl ⟨_, rfl, ?_, rfl⟩
      have : ¬ n = 1 := by simp [hl] at hq; omega
      simp [this, pack]
  · refine dr U 600 rfl trivial ?_
    refine ret Tryd.results42 rfl ⟨_, rfl, ?_, rfl⟩
    have : ¬ n = 1 := by rintro rfl; rw [lim_one] at hq; exact hq rfl
    simp [this, pack]
end Go.Proofs.YtnohojjjfconfaaDoor
