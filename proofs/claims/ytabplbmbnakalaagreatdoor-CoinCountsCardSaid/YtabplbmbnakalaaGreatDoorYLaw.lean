/-
  Walks of the law package's helpers: Pick, sum, product; the texts of given numbers.
  Conditions: texts take fewer than 2^40 bytes; the library's table of powers of ten is laid.
-/
import Derived.Test.YtabplbmbnakalaaGreatDoorYRef
set_option linter.unusedSimpArgs false
set_option linter.unusedVariables false
set_option maxHeartbeats 1000000
namespace Go.Proofs.YtabplbmbnakalaaGreatDoor
open Go Go.Proofs Go.RowKit Go.Lib

/-- A text of a number of at most so many digits. -/
def Num (k : Nat) (x : List UInt8) (n : Nat) : Prop := x = decDigits n ∧ nDigits n ≤ k
theorem Num.form {k : Nat} {x : List UInt8} {n : Nat} (h : Num k x n) (hk : k ≤ 4000) : Form x ∧ x.length ≤ 4000 ∧ dval x = n := by
  obtain ⟨rfl, h2⟩ := h
  exact ⟨form_iff.2 ⟨n, rfl⟩, by rw [decDigits_length]; omega, (dec_dval n).2⟩
theorem chk_zero {x : List UInt8} {e : Int} (h1 : Form x) (h2 : x.length ≤ 4000) (h : Chk x e) : e = 0 := by
  rcases h with ⟨_, _, h⟩ | ⟨_, h, _⟩ | ⟨h, _⟩
  · exact h
  · omega
  · exact absurd h1 h
theorem chk2_zero {x y : List UInt8} {e : Int} (h1 : Form x ∧ x.length ≤ 4000) (h2 : Form y ∧ y.length ≤ 4000) (h : Chk2 x y e) : e = 0 := by
  obtain ⟨e1, e2, h3, h4, h5⟩ := h
  rw [chk_zero h1.1 h1.2 h3, chk_zero h2.1 h2.2 h4] at h5
  simpa using h5
theorem Num.of {l : List UInt8} (h : (l.all fun c => decide (48 ≤ c.toNat) && decide (c.toNat ≤ 57)) = true) (hne : l ≠ []) (hz : l = [48] ∨ l.head? ≠ some 48) : Num l.length l (dval l) := by
  have hd : Dgs l := fun c hc => by
    have := List.all_eq_true.1 h c hc
    simp at this; exact this
  have := dec_of hd hne hz
  exact ⟨this, by rw [← decDigits_length, ← this]; exact Nat.le_refl _⟩
theorem Num.mono {k k' : Nat} {x : List UInt8} {n : Nat} (h : Num k x n) (hk : k ≤ k') : Num k' x n := ⟨h.1, Nat.le_trans h.2 hk⟩

theorem nD_add (m n k : Nat) (h1 : nDigits m ≤ k) (h2 : nDigits n ≤ k) : nDigits (m + n) ≤ k + 1 := by
  refine nD_le _ _ (by omega) ?_
  have h3 := Nat.lt_of_lt_of_le (lt_pow_nDigits m) (Nat.pow_le_pow_right (n := 10) (by omega) h1)
  have h4 := Nat.lt_of_lt_of_le (lt_pow_nDigits n) (Nat.pow_le_pow_right (n := 10) (by omega) h2)
  rw [Nat.pow_succ]
  omega
theorem nadd_calls {x y : List UInt8} {m n j k : Nat} (hx : Num j x m) (hy : Num k y n) (hj : j ≤ 3999) (hk : k ≤ 3999) (w : World) (ht : TabOk w) :
    Calls Tryz.prog 92 #[.string ⟨⟨x⟩⟩, .string ⟨⟨y⟩⟩] w (Ret fun v w' => v = .tuple ⟨[.string ⟨⟨decDigits (m + n)⟩⟩, .int .i64 0]⟩ ∧ Below w.heap.size w w') := by
  obtain ⟨h1, h2, rfl⟩ := hx.form (by omega)
  obtain ⟨h3, h4, rfl⟩ := hy.form (by omega)
  refine (natAdd_calls x y (by omega) (by omega) w ht).mono ?_
  rintro e w' ⟨v, rfl, h, hB⟩
  refine ⟨v, rfl, ?_, hB⟩
  rcases h with ⟨e, h5, h6, _⟩ | ⟨_, ⟨_, h5⟩ | ⟨h5, _⟩⟩
  · exact absurd (chk2_zero ⟨h1, h2⟩ ⟨h3, h4⟩ h6) h5
  · exact h5
  · have := nD_add (dval x) (dval y) 3999 (Nat.le_trans hx.2 hj) (Nat.le_trans hy.2 hk)
    omega

theorem nmul_calls {x y : List UInt8} {m n j k : Nat} (hx : Num j x m) (hy : Num k y n) (hjk : j + k ≤ 4000) (w : World) (ht : TabOk w) :
    Calls Tryz.prog 91 #[.string ⟨⟨x⟩⟩, .string ⟨⟨y⟩⟩] w (Ret fun v w' => v = .tuple ⟨[.string ⟨⟨decDigits (m * n)⟩⟩, .int .i64 0]⟩ ∧ Below w.heap.size w w') := by
  obtain ⟨h1, h2, rfl⟩ := hx.form (by omega)
  obtain ⟨h3, h4, rfl⟩ := hy.form (by omega)
  refine (natMul_calls x y (by omega) (by omega) w ht).mono ?_
  rintro e w' ⟨v, rfl, h, hB⟩
  refine ⟨v, rfl, ?_, hB⟩
  rcases h with ⟨e, h5, h6, _⟩ | ⟨_, ⟨_, h5⟩ | ⟨h5, _⟩⟩
  · exact absurd (chk2_zero ⟨h1, h2⟩ ⟨h3, h4⟩ h6) h5
  · exact h5
  · have := nD_mul (dval x) (dval y)
    have := hx.2
    have := hy.2
    omega

theorem nsub_calls {x y : List UInt8} {m n j k : Nat} (hx : Num j x m) (hy : Num k y n) (hj : j ≤ 4000) (hk : k ≤ 4000) (hle : n ≤ m) (w : World) (ht : TabOk w) :
    Calls Tryz.prog 61 #[.string ⟨⟨x⟩⟩, .string ⟨⟨y⟩⟩] w (Ret fun v w' => v = .tuple ⟨[.string ⟨⟨decDigits (m - n)⟩⟩, .int .i64 0]⟩ ∧ Below w.heap.size w w') := by
  obtain ⟨h1, h2, rfl⟩ := hx.form (by omega)
  obtain ⟨h3, h4, rfl⟩ := hy.form (by omega)
  refine (natSub_calls x y (by omega) (by omega) w ht).mono ?_
  rintro e w' ⟨v, rfl, h, hB⟩
  refine ⟨v, rfl, ?_, hB⟩
  rcases h with ⟨e, h5, h6, _⟩ | ⟨_, ⟨h5, _⟩ | ⟨_, ⟨_, h5⟩ | ⟨h5, _⟩⟩⟩
  · exact absurd (chk2_zero ⟨h1, h2⟩ ⟨h3, h4⟩ h6) h5
  · omega
  · exact h5
  · have := nD_mono (show dval x - dval y ≤ dval x by omega)
    have := hx.2
    omega

theorem ndiv_calls {x y : List UInt8} {m n j k : Nat} (hx : Num j x m) (hy : Num k y n) (hj : j ≤ 4000) (hk : k ≤ 4000) (hn : n ≠ 0) (w : World) (ht : TabOk w) :
    Calls Tryz.prog 60 #[.string ⟨⟨x⟩⟩, .string ⟨⟨y⟩⟩] w (Ret fun v w' => v = .tuple ⟨[.string ⟨⟨decDigits (m / n)⟩⟩, .string ⟨⟨decDigits (m % n)⟩⟩, .int .i64 0]⟩ ∧ Below w.heap.size w w') := by
  obtain ⟨h1, h2, rfl⟩ := hx.form (by omega)
  obtain ⟨h3, h4, rfl⟩ := hy.form (by omega)
  refine (natDivMod_calls x y (by omega) (by omega) w ht).mono ?_
  rintro e w' ⟨v, rfl, h, hB⟩
  refine ⟨v, rfl, ?_, hB⟩
  rcases h with ⟨e, h5, h6, _⟩ | ⟨_, h5, _⟩ | ⟨_, _, h5⟩
  · exact absurd (chk2_zero ⟨h1, h2⟩ ⟨h3, h4⟩ h6) h5
  · exact absurd h5 hn
  · exact h5

theorem ncmp_calls {x y : List UInt8} {m n j k : Nat} (hx : Num j x m) (hy : Num k y n) (hj : j ≤ 4000) (hk : k ≤ 4000) (w : World) :
    Calls Tryz.prog 53 #[.string ⟨⟨x⟩⟩, .string ⟨⟨y⟩⟩] w (Ret fun v w' => v = .int .i64 (cmpN m n) ∧ Below w.heap.size w w') := by
  obtain ⟨h1, h2, rfl⟩ := hx.form (by omega)
  obtain ⟨h3, h4, rfl⟩ := hy.form (by omega)
  refine (natCmp_calls x y (by omega) (by omega) w).mono ?_
  rintro e w' ⟨v, rfl, ⟨e, h6, rfl⟩, hB⟩
  refine ⟨_, rfl, ?_, hB⟩
  rw [chk2_zero ⟨h1, h2⟩ ⟨h3, h4⟩ h6]; rfl

theorem npow_calls {x : List UInt8} {m j k : Nat} (hx : Num j x m) (hj : j ≤ 4000) (hk : (k : Int) ≤ 9223372036854775807) (hd : nDigits (m ^ k) ≤ 4000) (w : World) (ht : TabOk w) :
    Calls Tryz.prog 59 #[.string ⟨⟨x⟩⟩, .int .i64 (k : Nat)] w (Ret fun v w' => v = .tuple ⟨[.string ⟨⟨decDigits (m ^ k)⟩⟩, .int .i64 0]⟩ ∧ Below w.heap.size w w') := by
  obtain ⟨h1, h2, rfl⟩ := hx.form (by omega)
  refine (natPow_calls x k (by omega) hk w ht).mono ?_
  rintro e w' ⟨v, rfl, h, hB⟩
  refine ⟨v, rfl, ?_, hB⟩
  rcases h with ⟨e, h5, h6, _⟩ | ⟨_, h5, _⟩ | ⟨_, _, h5⟩
  · exact absurd (chk_zero h1 h2 h6) h5
  · omega
  · rw [Int.toNat_natCast] at h5
    rcases h5 with ⟨_, h5⟩ | ⟨h5, _⟩
    · exact h5
    · omega

theorem ncheck_calls {x : List UInt8} {n j : Nat} (hx : Num j x n) (hj : j ≤ 4000) (w : World) :
    Calls Tryz.prog 87 #[.string ⟨⟨x⟩⟩] w (Ret fun v w' => v = .int .i64 0 ∧ Below w.heap.size w w') := by
  obtain ⟨h1, h2, rfl⟩ := hx.form hj
  refine (check_calls x (by omega) w).mono ?_
  rintro e w' ⟨v, rfl, ⟨e, rfl, h⟩, hB⟩
  exact ⟨_, rfl, by rw [chk_zero h1 h2 h], hB⟩
end Go.Proofs.YtabplbmbnakalaaGreatDoor
