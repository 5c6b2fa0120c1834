/-
  Walks of package nat: Add, Mul, Gcd, Sub.
  Conditions: texts take fewer than 2^40 bytes; the library's table of powers of ten is laid.
-/
import Derived.Test.YtnohojjjfconfaaDoorPair
set_option linter.unusedSimpArgs false
set_option linter.unusedVariables false
set_option maxHeartbeats 1000000
namespace Go.Proofs.YtnohojjjfconfaaDoor
open Go Go.Proofs Go.RowKit Go.Lib

theorem form_len {x : List UInt8} (h : Form x ∧ x.length ≤ 4000) : nDigits (dval x) ≤ 4000 ∧ (lim (dval x)).length ≤ 4000 := by
  have h1 := dec_of h.1.2.2 h.1.1 h.1.2.1
  have h2 : nDigits (dval x) ≤ 4000 := by rw [← decDigits_length, ← h1]; exact h.2
  exact ⟨h2, Nat.le_trans (lim_le_nD _) h2⟩
theorem Res.tup {n : Nat} {v : Value} (h : Res n v) : ∃ v1 v2, v = .tuple ⟨[v1, v2]⟩ := by
  rcases h with ⟨_, h⟩ | ⟨_, h⟩ <;> exact ⟨_, _, h⟩

/-- What a function of two texts returns that computes a number. -/
def Out (x y : List UInt8) (n : Nat) (v : Value) : Prop := (∃ e, e ≠ 0 ∧ Chk2 x y e ∧ v = .tuple ⟨[.string ⟨⟨[]⟩⟩, .int .i64 e]⟩) ∨ (Chk2 x y 0 ∧ Res n v)
theorem Out.tup {x y : List UInt8} {n : Nat} {v : Value} (h : Out x y n v) : ∃ v1 v2, v = .tuple ⟨[v1, v2]⟩ := by
  rcases h with ⟨_, _, _, h⟩ | ⟨_, h⟩
  · exact ⟨_, _, h⟩
  · exact h.tup

theorem lenadd {m n : Nat} (h1 : (lim m).length ≤ 4000) (h2 : (lim n).length ≤ 4000) : (lim (m + n)).length ≤ 68719476736 := by
  have := lim_len_add m n; omega
theorem lenmul {m n : Nat} (h1 : (lim m).length ≤ 4000) (h2 : (lim n).length ≤ 4000) : (lim (m * n)).length ≤ 68719476736 := by
  have := lim_len_mul m n; omega
theorem lengcd {m n : Nat} (h1 : (lim m).length ≤ 4000) (h2 : (lim n).length ≤ 4000) : (lim (Nat.gcd m n)).length ≤ 68719476736 := by
  rcases Nat.eq_zero_or_pos m with rfl | h
  · rw [Nat.gcd_zero_left]; omega
  · have := lim_len_mono (Nat.gcd_le_left n h); omega


theorem natAdd_calls (x y : List UInt8) (hx : x.length ≤ 1099511627776) (hy : y.length ≤ 1099511627776) (w : World) (ht : TabOk w) :
    Calls Tryd.prog 17 #[.string ⟨⟨x⟩⟩, .string ⟨⟨y⟩⟩] w (Ret fun v w' => Out x y (dval x + dval y) v ∧ Below w.heap.size w w') := by
  refine enter Tryd.func17 rfl Tryd.ntmps17 (Nat.le_of_ble_eq_true rfl) ?_
  refine dr U 600 rfl trivial ?_
  refine call (f := 24) rfl rfl cb24 (pair_calls x y 34 [] cb34 hx hy w (fun v w' => Res (dval x+dval y) v ∧ Below w.heap.size w w') (fun v w' h => h.1.tup) ?_) ?_
  · intro w1 a c b d hox hoy hB ha hb
    have hlx := (form_len hox).2
    have hly := (form_len hoy).2
    refine enter Tryd.func34 rfl Tryd.ntmps34 (Nat.le_of_ble_eq_true rfl) ?_
    refine dr U 600 rfl trivial ?_
    refine call (f := 35) rfl rfl cb35 (add_calls (dval x) (dval y) a b c d w1 ha hb (by omega) (by omega)) ?_
    rintro v w2 hown
    have hrd0 := hown.red
    obtain ⟨_, _, _, _, hB2⟩ := hown
    obtain ⟨a2, c2, rfl, hrd⟩ := hrd0
    refine ⟨_, rfl, ?_⟩
    have hBW := bl_tr hB hB2 hB.size
    refine call (f := 23) rfl rfl cb23 (result_calls (dval x+dval y) _ _ w2 hrd (lenadd hlx hly) (ht.below hBW)) ?_
    rintro v w3 ⟨hres, hB3⟩
    obtain ⟨v1, v2, rfl⟩ := hres.tup
    refine ⟨_, rfl, ?_⟩
    refine dr U 600 rfl trivial ?_
    exact ret Tryd.results34 rfl ⟨_, rfl, hres, bl_tr hBW hB3 hBW.size⟩
  · rintro v w1 h
    have hO : Out x y (dval x+dval y) v ∧ Below w.heap.size w w1 := by
      rcases h with ⟨e, h1, h2, h3, h4⟩ | ⟨h1, h2, h3⟩
      · exact ⟨.inl ⟨e, h1, h2, h3⟩, h4⟩
      · exact ⟨.inr ⟨h1, h2⟩, h3⟩
    obtain ⟨v1, v2, rfl⟩ := hO.1.tup
    refine ⟨_, rfl, ?_⟩
    refine dr U 600 rfl trivial ?_
    exact ret Tryd.results17 rfl ⟨_, rfl, hO⟩
theorem natMul_calls (x y : List UInt8) (hx : x.length ≤ 1099511627776) (hy : y.length ≤ 1099511627776) (w : World) (ht : TabOk w) :
    Calls Tryd.prog 18 #[.string ⟨⟨x⟩⟩, .string ⟨⟨y⟩⟩] w (Ret fun v w' => Out x y (dval x * dval y) v ∧ Below w.heap.size w w') := by
  refine enter Tryd.func18 rfl Tryd.ntmps18 (Nat.le_of_ble_eq_true rfl) ?_
  refine dr U 600 rfl trivial ?_
  refine call (f := 24) rfl rfl cb24 (pair_calls x y 36 [] cb36 hx hy w (fun v w' => Res (dval x*dval y) v ∧ Below w.heap.size w w') (fun v w' h => h.1.tup) ?_) ?_
  · intro w1 a c b d hox hoy hB ha hb
    have hlx := (form_len hox).2
    have hly := (form_len hoy).2
    refine enter Tryd.func36 rfl Tryd.ntmps36 (Nat.le_of_ble_eq_true rfl) ?_
    refine dr U 600 rfl trivial ?_
    refine call (f := 37) rfl rfl cb37 (mul_calls (dval x) (dval y) a b c d w1 ha hb (by omega) (by omega)) ?_
    rintro v w2 hown
    have hrd0 := hown.red
    obtain ⟨_, _, _, _, hB2⟩ := hown
    obtain ⟨a2, c2, rfl, hrd⟩ := hrd0
    refine ⟨_, rfl, ?_⟩
    have hBW := bl_tr hB hB2 hB.size
    refine call (f := 23) rfl rfl cb23 (result_calls (dval x*dval y) _ _ w2 hrd (lenmul hlx hly) (ht.below hBW)) ?_
    rintro v w3 ⟨hres, hB3⟩
    obtain ⟨v1, v2, rfl⟩ := hres.tup
    refine ⟨_, rfl, ?_⟩
    refine dr U 600 rfl trivial ?_
    exact ret Tryd.results36 rfl ⟨_, rfl, hres, bl_tr hBW hB3 hBW.size⟩
  · rintro v w1 h
    have hO : Out x y (dval x*dval y) v ∧ Below w.heap.size w w1 := by
      rcases h with ⟨e, h1, h2, h3, h4⟩ | ⟨h1, h2, h3⟩
      · exact ⟨.inl ⟨e, h1, h2, h3⟩, h4⟩
      · exact ⟨.inr ⟨h1, h2⟩, h3⟩
    obtain ⟨v1, v2, rfl⟩ := hO.1.tup
    refine ⟨_, rfl, ?_⟩
    refine dr U 600 rfl trivial ?_
    exact ret Tryd.results18 rfl ⟨_, rfl, hO⟩
theorem natGcd_calls (x y : List UInt8) (hx : x.length ≤ 1099511627776) (hy : y.length ≤ 1099511627776) (w : World) (ht : TabOk w) :
    Calls Tryd.prog 12 #[.string ⟨⟨x⟩⟩, .string ⟨⟨y⟩⟩] w (Ret fun v w' => Out x y (Nat.gcd (dval x) (dval y)) v ∧ Below w.heap.size w w') := by
  refine enter Tryd.func12 rfl Tryd.ntmps12 (Nat.le_of_ble_eq_true rfl) ?_
  refine dr U 600 rfl trivial ?_
  refine call (f := 24) rfl rfl cb24 (pair_calls x y 25 [] cb25 hx hy w (fun v w' => Res (Nat.gcd (dval x) (dval y)) v ∧ Below w.heap.size w w') (fun v w' h => h.1.tup) ?_) ?_
  · intro w1 a c b d hox hoy hB ha hb
    have hlx := (form_len hox).2
    have hly := (form_len hoy).2
    refine enter Tryd.func25 rfl Tryd.ntmps25 (Nat.le_of_ble_eq_true rfl) ?_
    refine dr U 600 rfl trivial ?_
    refine call (f := 26) rfl rfl cb26 (gcd_calls (dval x) (dval y) a b c d w1 ha hb (by omega) (by omega)) ?_
    rintro v w2 hown
    obtain ⟨⟨a2, c2, rfl, hrd⟩, hB2⟩ := hown
    refine ⟨_, rfl, ?_⟩
    have hBW := bl_tr hB hB2 hB.size
    refine call (f := 23) rfl rfl cb23 (result_calls (Nat.gcd (dval x) (dval y)) _ _ w2 hrd (lengcd hlx hly) (ht.below hBW)) ?_
    rintro v w3 ⟨hres, hB3⟩
    obtain ⟨v1, v2, rfl⟩ := hres.tup
    refine ⟨_, rfl, ?_⟩
    refine dr U 600 rfl trivial ?_
    exact ret Tryd.results25 rfl ⟨_, rfl, hres, bl_tr hBW hB3 hBW.size⟩
  · rintro v w1 h
    have hO : Out x y (Nat.gcd (dval x) (dval y)) v ∧ Below w.heap.size w w1 := by
      rcases h with ⟨e, h1, h2, h3, h4⟩ | ⟨h1, h2, h3⟩
      · exact ⟨.inl ⟨e, h1, h2, h3⟩, h4⟩
      · exact ⟨.inr ⟨h1, h2⟩, h3⟩
    obtain ⟨v1, v2, rfl⟩ := hO.1.tup
    refine ⟨_, rfl, ?_⟩
    refine dr U 600 rfl trivial ?_
    exact ret Tryd.results12 rfl ⟨_, rfl, hO⟩
end Go.Proofs.YtnohojjjfconfaaDoor
