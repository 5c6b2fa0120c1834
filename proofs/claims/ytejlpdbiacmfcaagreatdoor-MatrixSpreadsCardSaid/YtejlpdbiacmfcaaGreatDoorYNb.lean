/-
  Walks of slices.ContainsFunc over rows of ints, and of package matrix's contains.
  Conditions: lists have at most 2^40 elements.

  The normal equations of a strategy as ints, and how many digits their solutions take; what answers and spreads are.
  No conditions: each theorem names its own premises.

  Plain facts that the laws of package matrix need: one cell more, blocks seen from their cells, sums of squares, orders of numbers.
  No conditions: each theorem names its own premises.

  Walks of package matrix's blocks and Strategy.
  Conditions: none but that the arguments are ints.
-/
import Derived.Test.YtejlpdbiacmfcaaGreatDoorYSto
import Derived.Test.YtejlpdbiacmfcaaGreatDoorYR5
import Derived.Test.YtejlpdbiacmfcaaGreatDoorYVz
section
set_option linter.unusedSimpArgs false
set_option linter.unusedVariables false
set_option maxHeartbeats 2000000
namespace Go.Proofs.YtejlpdbiacmfcaaGreatDoor
open Go Go.Proofs Go.RowKit Go.Lib

section
variable {xss : List (List Int)} {p : List Int → Prop} [DecidablePred p] {g : Nat} {lb : List Value} {J : World → Prop}
theorem cfI_calls (hJ : ∀ w w', J w → Below w.heap.size w w' → J w') (hcb : Callable Tryz.prog g)
    (hf : ∀ i A C w, i < xss.length → Sl w A (ivs (irow xss i)) → J w → Calls Tryz.prog g (Value.slice A (irow xss i).length C :: lb).toArray w (Ret fun v w' => v = .bool (decide (p (irow xss i))) ∧ Below w.heap.size w w'))
    (hl : xss.length ≤ 1099511627776) (a : Option Addr) (c : Nat) (w : World) (hs : SZ w a xss) (hj : J w) :
    Calls Tryz.prog 75 #[.slice a xss.length c, .func (.func g) ⟨[]⟩ ⟨lb⟩] w (Ret fun v w' => (((∀ r, r ∈ xss → ¬ p r) ∧ v = .int .i64 (-1)) ∨ ((∃ r, r ∈ xss ∧ p r) ∧ ∃ i : Nat, v = .int .i64 (i : Nat))) ∧ Below w.heap.size w w') := by
  refine enter Tryz.func75 rfl Tryz.ntmps75 (Nat.le_of_ble_eq_true rfl) ?_
  refine dr U 600 rfl trivial ?_
  refine loopR (fun fr w' m => ∃ i : Nat, fr = [(0, .slice a xss.length c), (1, .func (.func g) ⟨[]⟩ ⟨lb⟩), (7, .int .i64 (xss.length : Nat)), (8, .int .i64 (i : Nat))] ∧ i ≤ xss.length ∧ (∀ j, j < i → ¬ p (irow xss j)) ∧ SZ w' a xss ∧ J w' ∧ Below w.heap.size w w' ∧ m = xss.length - i)
    ⟨0, rfl, by omega, fun j hj => absurd hj (by omega), hs, hj, Below.refl _ _, rfl⟩ ⟨rfl, rfl, rfl, rfl, trivial⟩ ?_
  rintro fr w1 m ⟨i, rfl, hi, hin, hs1, hj1, hB, rfl⟩
  refine dr U 600 rfl trivial ?_
  refine cS rfl rfl rfl rfl (fun hq => ?_) (fun hq => ?_)
  · have hil : i < xss.length := by omega
    have hs0 := hs1
    obtain ⟨A, C, hSl, hR⟩ := hs0
    refine dr U 600 rfl trivial ?_
    refine il U rfl rfl rfl rfl rfl rfl rfl (fun _ => rfl) rfl i rfl hil hSl (irws_get hil) ?_
    refine call (f := g) rfl rfl hcb (hf i (A i) (C i) w1 hil (hR i hil) hj1) ?_
    rintro v w2 ⟨rfl, hB2⟩
    have hB2' := bl_tr hB hB2 hB.size
    refine ⟨_, rfl, ?_⟩
    by_cases h : p (irow xss i)
    · rw [decide_eq_true h]
      refine dr U 600 rfl trivial ?_
      exact ret Tryz.results75 rfl ⟨_, rfl, .inr ⟨⟨_, by unfold irow; simp [List.getD, hil], h⟩, i, rfl⟩, hB2'⟩
    · rw [decide_eq_false h]
      refine dr U 600 rfl (by first | exact True.intro | (simp only [AllP, InR, List.nil_append, List.cons_append, and_true]; omega)) ?_
      refine rend _ _ ⟨i + 1, rfl, by omega, fun j hj => ?_, hs1.stay hB2, hJ _ _ hj1 hB2, hB2', rfl⟩ (by omega) ⟨rfl, rfl, rfl, iv (by omega), trivial⟩
      rcases Nat.lt_succ_iff_lt_or_eq.1 hj with h' | rfl
      · exact hin j h'
      · exact h
  · obtain rfl : i = xss.length := by omega
    refine dr U 600 rfl trivial ?_
    refine ret Tryz.results75 rfl ⟨_, rfl, .inl ⟨fun x hx => ?_, rfl⟩, hB⟩
    obtain ⟨j, hj, rfl⟩ := List.getElem_of_mem hx
    have := hin j hj
    simpa [irow, List.getD, hj] using this
theorem cfC_calls (hJ : ∀ w w', J w → Below w.heap.size w w' → J w') (hcb : Callable Tryz.prog g)
    (hf : ∀ i A C w, i < xss.length → Sl w A (ivs (irow xss i)) → J w → Calls Tryz.prog g (Value.slice A (irow xss i).length C :: lb).toArray w (Ret fun v w' => v = .bool (decide (p (irow xss i))) ∧ Below w.heap.size w w'))
    (hl : xss.length ≤ 1099511627776) (a : Option Addr) (c : Nat) (w : World) (hs : SZ w a xss) (hj : J w) :
    Calls Tryz.prog 36 #[.slice a xss.length c, .func (.func g) ⟨[]⟩ ⟨lb⟩] w (Ret fun v w' => v = .bool (decide (∃ r, r ∈ xss ∧ p r)) ∧ Below w.heap.size w w') := by
  refine enter Tryz.func36 rfl Tryz.ntmps36 (Nat.le_of_ble_eq_true rfl) ?_
  refine dr U 600 rfl trivial ?_
  refine call (f := 75) rfl rfl cb75 (cfI_calls hJ hcb hf hl a c w hs hj) ?_
  rintro v w1 ⟨h | h, hB⟩
  · obtain ⟨h, rfl⟩ := h
    refine ⟨_, rfl, ?_⟩
    refine cF rfl rfl rfl (by omega) ?_
    refine dr U 600 rfl trivial ?_
    exact ret Tryz.results36 rfl ⟨_, rfl, by rw [decide_eq_false (fun ⟨r, h1, h2⟩ => h r h1 h2)]; rfl, hB⟩
  · obtain ⟨h, i, rfl⟩ := h
    refine ⟨_, rfl, ?_⟩
    refine cT rfl rfl rfl (by omega) ?_
    refine dr U 600 rfl trivial ?_
    exact ret Tryz.results36 rfl ⟨_, rfl, by rw [decide_eq_true h]; rfl, hB⟩
end

theorem ceq_calls (x y : Int) (w : World) : Calls Tryz.prog 81 #[.int .i64 x, .int .i64 y] w (Ret fun v w' => v = .bool (decide (x = y)) ∧ w = w') := by
  refine enter Tryz.func81 rfl Tryz.ntmps81 (Nat.le_of_ble_eq_true rfl) ?_
  refine dr U 600 rfl trivial ?_
  refine cS rfl rfl rfl rfl (fun hq => ?_) (fun hq => ?_)
  · refine dr U 600 rfl trivial ?_
    exact ret Tryz.results81 rfl ⟨_, rfl, by rw [decide_eq_true (by omega)]; rfl, rfl⟩
  · refine dr U 600 rfl trivial ?_
    exact ret Tryz.results81 rfl ⟨_, rfl, by rw [decide_eq_false (by omega)]; rfl, rfl⟩
theorem ivs_eq {l m : List Int} (hlen : l.length = m.length) (h : ∀ j, j < l.length → l.getD j 0 = m.getD j 0) : l = m := by
  apply List.ext_getElem hlen
  intro j h1 h2
  have := h j h1
  simpa [List.getD, h1, h2] using this
theorem eqf_calls (l m : List Int) (hl : l.length ≤ 1099511627776) (hm : m.length ≤ 1099511627776) (a b : Option Addr) (c d : Nat) (w : World) (ha : Sl w a (ivs l)) (hb : Sl w b (ivs m)) :
    Calls Tryz.prog 80 #[.slice a l.length c, .slice b m.length d, .func (.func 81) ⟨[]⟩ ⟨[]⟩] w (Ret fun v w' => v = .bool (decide (l = m)) ∧ w = w') := by
  refine enter Tryz.func80 rfl Tryz.ntmps80 (Nat.le_of_ble_eq_true rfl) ?_
  refine dr U 600 rfl trivial ?_
  refine cS rfl rfl rfl rfl (fun hq => ?_) (fun hq => ?_)
  · refine dr U 600 rfl trivial ?_
    exact ret Tryz.results80 rfl ⟨_, rfl, by rw [decide_eq_false (fun e => by rw [e] at hq; exact hq rfl)]; rfl, rfl⟩
  have hlen : l.length = m.length := by omega
  refine dr U 600 rfl trivial ?_
  refine loopR (fun fr w' mm => ∃ i : Nat, fr = [(0, .slice a l.length c), (1, .slice b m.length d), (2, .func (.func 81) ⟨[]⟩ ⟨[]⟩), (15, .slice a l.length c), (16, .int .i64 (l.length : Nat)), (17, .int .i64 (i : Nat))] ∧ i ≤ l.length ∧ (∀ j, j < i → l.getD j 0 = m.getD j 0) ∧ w = w' ∧ mm = l.length - i)
    ⟨0, rfl, by omega, fun j hj => absurd hj (by omega), rfl, rfl⟩ ⟨rfl, rfl, rfl, rfl, rfl, rfl, trivial⟩ ?_
  rintro fr w1 mm ⟨i, rfl, hi, hin, rfl, rfl⟩
  refine dr U 600 rfl trivial ?_
  refine cS rfl rfl rfl rfl (fun hq => ?_) (fun hq => ?_)
  · have hil : i < l.length := by omega
    refine dr U 600 rfl trivial ?_
    refine il U rfl rfl rfl rfl rfl rfl rfl (fun _ => rfl) rfl i rfl hil ha (ivs_get hil) ?_
    refine dr U 600 rfl trivial ?_
    refine il U rfl rfl rfl rfl rfl rfl rfl (fun _ => rfl) rfl i rfl (by omega) hb (ivs_get (by omega)) ?_
    refine dr U 600 rfl trivial ?_
    refine call (f := 81) rfl rfl cb81 (ceq_calls _ _ w) ?_
    rintro v w2 ⟨rfl, rfl⟩
    refine ⟨_, rfl, ?_⟩
    by_cases h : l.getD i 0 = m.getD i 0
    · rw [decide_eq_true h]
      refine dr U 600 rfl (by first | exact True.intro | (simp only [AllP, InR, List.nil_append, List.cons_append, and_true]; omega)) ?_
      refine rend _ _ ⟨i + 1, rfl, by omega, fun j hj => ?_, rfl, rfl⟩ (by omega) ⟨rfl, rfl, rfl, rfl, rfl, iv (by omega), trivial⟩
      rcases Nat.lt_succ_iff_lt_or_eq.1 hj with h' | rfl
      · exact hin j h'
      · exact h
    · rw [decide_eq_false h]
      refine dr U 600 rfl trivial ?_
      exact ret Tryz.results80 rfl ⟨_, rfl, by rw [decide_eq_false (fun e => h (by rw [e]))]; rfl, rfl⟩
  · obtain rfl : i = l.length := by omega
    refine dr U 600 rfl trivial ?_
    exact ret Tryz.results80 rfl ⟨_, rfl, by rw [decide_eq_true (ivs_eq hlen hin)]; rfl, rfl⟩
theorem con1_calls (l r : List Int) (hl : l.length ≤ 1099511627776) (hr : r.length ≤ 1099511627776) (a b : Option Addr) (c d q : Nat) (w : World) (ha : Sl w a (ivs l)) (hb : Sl w b (ivs r)) (hk : Bk w q 23 [.slice b r.length d]) :
    Calls Tryz.prog 79 #[.slice a l.length c, .pointer (some ⟨q, 0, none⟩)] w (Ret fun v w' => v = .bool (decide (l = r)) ∧ Below w.heap.size w w') := by
  refine enter Tryz.func79 rfl Tryz.ntmps79 (Nat.le_of_ble_eq_true rfl) ?_
  refine dr U 600 rfl trivial ?_
  refine ld U rfl rfl rfl rfl ((hk).cell rfl) ?_
  refine call (f := 80) rfl rfl cb80 (eqf_calls l r hl hr a b c d w ha hb) ?_
  rintro v w1 ⟨rfl, rfl⟩
  refine ⟨_, rfl, ?_⟩
  refine dr U 600 rfl trivial ?_
  exact ret Tryz.results79 rfl ⟨_, rfl, rfl, Below.refl _ _⟩
theorem contains_calls (xss : List (List Int)) (r : List Int) (hx : xss.length ≤ 1099511627776) (hxl : ∀ i, i < xss.length → (irow xss i).length ≤ 1099511627776) (hr : r.length ≤ 1099511627776) (a b : Option Addr) (c d : Nat) (w : World) (ha : SZ w a xss) (hb : Sl w b (ivs r)) :
    Calls Tryz.prog 42 #[.slice a xss.length c, .slice b r.length d] w (Ret fun v w' => v = .bool (decide (r ∈ xss)) ∧ Below w.heap.size w w') := by
  refine enter Tryz.func42 rfl Tryz.ntmps42 (Nat.le_of_ble_eq_true rfl) ?_
  refine dr U 600 rfl trivial ?_
  refine bx rfl rfl rfl rfl ?_
  intro b1 wa hb1 hsa hk1 hga
  have hB0 : Below w.heap.size w wa := (Below.refl _ _).grown hga (Nat.le_refl _) (fun k e => by cases e)
  refine dr U 600 rfl trivial ?_
  refine call (f := 36) rfl rfl cb36 (cfC_calls (xss := xss) (p := fun x => x = r) (J := fun W => Bk W b1 23 [.slice b r.length d] ∧ Sl W b (ivs r)) (fun W W' h hB => ⟨h.1.below hB h.1.lt, h.2.stay hB⟩) cb79
    (fun i A C W hi hA h => con1_calls (irow xss i) r (hxl i hi) hr A b C d b1 W hA h.2 h.1) hx a c wa (ha.stay hB0) ⟨hk1, hb.stay hB0⟩) ?_
  rintro v w1 ⟨rfl, hB1⟩
  refine ⟨_, rfl, ?_⟩
  refine dr U 600 rfl trivial ?_
  exact ret Tryz.results42 rfl ⟨_, rfl, by simp; rfl, bl_tr hB0 hB1 hB0.size⟩
end Go.Proofs.YtejlpdbiacmfcaaGreatDoor
end
section
set_option linter.unusedSimpArgs false
set_option linter.unusedVariables false
set_option maxHeartbeats 1000000
namespace Go.Proofs.YtejlpdbiacmfcaaGreatDoor
open Go Go.Proofs Go.RowKit Go.Lib

/-- An entry of the normal matrix from the first rows. -/
def dotC (rows : List (List Int)) (i k : Nat) : Nat → Int
  | 0 => 0
  | j + 1 => dotC rows i k j + (irow rows j).getD i 0 * (irow rows j).getD k 0
theorem dotC_rat (rows : List (List Int)) (i k j : Nat) : ((dotC rows i k j : Int) : Rat) = sm j (fun t => trp (stM rows) i t * stM rows t k) := by
  induction j with
  | zero => rfl
  | succ j ih => rw [dotC, sm, ← ih, Rat.intCast_add, Rat.intCast_mul]; rfl
theorem nrm_int (rows : List (List Int)) (i k : Nat) : nrm rows i k = ((dotC rows i k rows.length : Int) : Rat) := (dotC_rat rows i k rows.length).symm
/-- Rows of bits. -/
def Bits (rows : List (List Int)) : Prop := ∀ j k, (irow rows j).getD k 0 = 0 ∨ (irow rows j).getD k 0 = 1
theorem strat_bits (kind n : Int) : Bits (strat kind n) := by
  intro j k
  by_cases h0 : n < 1
  · have : strat kind n = [] := by unfold strat; rw [if_pos (.inl h0)]
    rw [this]; left; simp [irow, List.getD]
  obtain ⟨m, rfl⟩ : ∃ m : Nat, n = (m : Int) := ⟨n.toNat, by omega⟩
  by_cases hj : j < (strat kind m).length
  · have : irow (strat kind m) j ∈ strat kind m := by unfold irow; simp [List.getD, hj]
    exact strat_bit this k
  · left; simp [irow, List.getD, hj]
theorem dotC_le {rows : List (List Int)} (h : Bits rows) (i k : Nat) : ∀ j, 0 ≤ dotC rows i k j ∧ dotC rows i k j ≤ j
  | 0 => by simp [dotC]
  | j + 1 => by
    have ih := dotC_le h i k j
    rw [dotC]
    rcases h j i with h1 | h1 <;> rcases h j k with h2 | h2 <;> rw [h1, h2] <;> push_cast <;> omega
/-- A right side from the first rows, for ints. -/
def rhsI (rows : List (List Int)) (y : List Int) (i : Nat) : Nat → Int
  | 0 => 0
  | j + 1 => rhsI rows y i j + (irow rows j).getD i 0 * y.getD j 0
/-- A right side from the first rows. -/
def rhs (rows : List (List Int)) (y : Nat → Rat) (i j : Nat) : Rat := sm j (fun t => trp (stM rows) i t * y t)
theorem rhs_succ (rows : List (List Int)) (y : Nat → Rat) (i j : Nat) : rhs rows y i (j + 1) = rhs rows y i j + (((irow rows j).getD i 0 : Int) : Rat) * y j := rfl
theorem rhs_int (rows : List (List Int)) (y : List Int) (i j : Nat) : rhs rows (ratsI y) i j = ((rhsI rows y i j : Int) : Rat) := by
  induction j with
  | zero => rfl
  | succ j ih => rw [rhsI, rhs_succ, ih, Rat.intCast_add, Rat.intCast_mul]; rfl
theorem rhsI_le {rows : List (List Int)} (h : Bits rows) {y : List Int} {B : Int} (hy : Wthn y B) (hB : 0 ≤ B) (i : Nat) : ∀ j : Nat, -((j : Int) * B) ≤ rhsI rows y i j ∧ rhsI rows y i j ≤ (j : Int) * B
  | 0 => by simp [rhsI]
  | j + 1 => by
    have ih := rhsI_le h hy hB i j
    have hb : -B ≤ y.getD j 0 ∧ y.getD j 0 ≤ B := by
      by_cases hj : j < y.length
      · have : y.getD j 0 ∈ y := by simp [List.getD, hj]
        exact hy _ this
      · have : y.getD j 0 = 0 := by simp [List.getD, hj]
        omega
    rw [rhsI]
    have e : ((j + 1 : Nat) : Int) * B = (j : Int) * B + B := by push_cast; rw [Int.add_mul, Int.one_mul]
    rw [e]
    rcases h j i with h1 | h1 <;> rw [h1] <;> omega
theorem isn_int {z : Int} {B : Nat} (h : z.natAbs ≤ B) : Isn B (z : Rat) := ⟨z, rfl, h⟩
theorem small_int {z : Int} {K : Nat} (h0 : 0 < K) (h : z.natAbs < 10 ^ K) : Small K (z : Rat) := by
  refine ⟨?_, ?_⟩
  · rw [Rat.num_intCast]; exact nD_le _ _ h0 h
  · rw [Rat.den_intCast, nDigits_small (by omega)]; omega
/-- Solutions of systems of ints take few digits. -/
theorem isol_small {n : Nat} {f : Mx} {b x : Nat → Rat} {B E : Nat} (hn : 0 < n) (hf : ∀ i k, i < n → k < n → Isn B (f i k)) (hb : ∀ i, i < n → Isn B (b i)) (hfull : (gj n f n).2 = n) (hx : ∀ i, i < n → mapp n f x i = b i)
    (hE : fct n * B ^ n < 10 ^ E) (hE0 : 0 < E) : ∀ j, j < n → Small E (x j) := by
  obtain ⟨n, rfl⟩ : ∃ m, n = m + 1 := ⟨n - 1, by omega⟩
  obtain ⟨D, h1, h2, h3⟩ := cramer n f b x B hf hb hx (rank_full.1 hfull)
  intro j hj
  obtain ⟨N, h4, h5⟩ := h3 j hj
  exact frc_small h1 h2 h4 h5 hE hE0
theorem fct7 {n : Nat} (hn : n ≤ 7) : fct n ≤ 5040 := by
  have : n = 0 ∨ n = 1 ∨ n = 2 ∨ n = 3 ∨ n = 4 ∨ n = 5 ∨ n = 6 ∨ n = 7 := by omega
  rcases this with rfl | rfl | rfl | rfl | rfl | rfl | rfl | rfl <;> decide
theorem fpow_lt {n m B F E : Nat} (hn : n ≤ m) (hB : 1 ≤ B) (hF : fct n ≤ F) (h : F * B ^ m < 10 ^ E) : fct n * B ^ n < 10 ^ E :=
  Nat.lt_of_le_of_lt (Nat.mul_le_mul hF (Nat.pow_le_pow_right hB hn)) h
theorem tree_len7 {n : Nat} (hn : n ≤ 7) : (tree n).length ≤ 13 := by
  have : n = 0 ∨ n = 1 ∨ n = 2 ∨ n = 3 ∨ n = 4 ∨ n = 5 ∨ n = 6 ∨ n = 7 := by omega
  rcases this with rfl | rfl | rfl | rfl | rfl | rfl | rfl | rfl <;> decide +kernel
theorem tree_len6 {n : Nat} (hn : n ≤ 6) : (tree n).length ≤ 11 := by
  have : n = 0 ∨ n = 1 ∨ n = 2 ∨ n = 3 ∨ n = 4 ∨ n = 5 ∨ n = 6 := by omega
  rcases this with rfl | rfl | rfl | rfl | rfl | rfl | rfl <;> decide +kernel
theorem strat_len_of {kind n : Int} {m K : Nat} (hn : n ≤ m) (hm : m ≤ K) (ht : ∀ k : Nat, k ≤ m → (tree k).length ≤ K) : (strat kind n).length ≤ K := by
  unfold strat
  split
  · simp
  · split
    · rw [idRows_length]; omega
    · split
      · rw [preRows_length]; omega
      · split
        · exact ht _ (by omega)
        · simp
theorem strat_len7 {kind n : Int} (hn : n ≤ 7) : (strat kind n).length ≤ 13 := strat_len_of (m := 7) hn (by omega) (fun k hk => tree_len7 hk)
theorem strat_len6 {kind n : Int} (hn : n ≤ 6) : (strat kind n).length ≤ 11 := strat_len_of (m := 6) hn (by omega) (fun k hk => tree_len6 hk)
theorem strat_len64 (kind n : Int) : (strat kind n).length ≤ 448 := by
  unfold strat
  split
  · simp
  · split
    · rw [idRows_length]; omega
    · split
      · rw [preRows_length]; omega
      · split
        · exact Nat.le_trans (treeTo_len n.toNat (blks n.toNat)) (blks_len (by omega) (by omega))
        · simp
theorem nrm_isn {kind n : Int} {B : Nat} (hB : (strat kind n).length ≤ B) (i k : Nat) : Isn B (nrm (strat kind n) i k) := by
  rw [nrm_int]
  have := dotC_le (strat_bits kind n) i k (strat kind n).length
  exact isn_int (by omega)
theorem rhs_isn {kind n : Int} {y : List Int} {B M K : Nat} (hl : (strat kind n).length ≤ M) (hy : Wthn y B) (hK : M * B ≤ K) (i j : Nat) (hj : j ≤ (strat kind n).length) : Isn K (rhs (strat kind n) (ratsI y) i j) := by
  rw [rhs_int]
  have h1 := rhsI_le (strat_bits kind n) hy (by omega) i j
  have h2 : (j : Int) * B ≤ (M * B : Nat) := by
    have := Nat.mul_le_mul_right B (Nat.le_trans hj hl)
    push_cast
    exact_mod_cast this
  exact isn_int (by omega)
theorem isn_small {x : Rat} {B K : Nat} (h : Isn B x) (h0 : 0 < K) (hB : B < 10 ^ K) : Small K x := by
  obtain ⟨z, rfl, hz⟩ := h
  exact small_int h0 (by omega)
theorem strat_reg {kind n : Int} (h : strat kind n ≠ []) : (gj n.toNat (nrm (strat kind n)) n.toNat).2 = n.toNat := by
  obtain ⟨⟨h1, h2⟩, h3⟩ := strat_kind h
  obtain ⟨m, rfl⟩ : ∃ m : Nat, n = (m : Int) := ⟨n.toNat, by omega⟩
  rw [Int.toNat_natCast]
  exact strat_rank h3 (by omega) (by omega)

/-- A pair of ints as a range. -/
def Rgd (n : Nat) (r : Int × Int) : Prop := 0 ≤ r.1 ∧ r.1 ≤ r.2 ∧ r.2 < n
instance (n : Nat) (r : Int × Int) : Decidable (Rgd n r) := by unfold Rgd; exact inferInstance
/-- The sum of the numbers of a range. -/
def rsum (x : Nat → Rat) (r : Int × Int) : Rat := sm (r.2 - r.1 + 1).toNat (fun j => x (r.1.toNat + j))
/-- What answers are. -/
def AnsS (rs : List (Int × Int)) (xs : List Tx) (ys : List Tx) (e : Int) : Prop :=
  (e ≠ 0 ∧ VErr xs e ∧ ys = []) ∨ (VErr xs 0 ∧ 64 < rs.length ∧ ys = [] ∧ e = 4) ∨ (VErr xs 0 ∧ rs.length ≤ 64 ∧ (¬ ∀ r, r ∈ rs → Rgd xs.length r) ∧ ys = [] ∧ e = 2) ∨
  (VErr xs 0 ∧ rs.length ≤ 64 ∧ (∀ r, r ∈ rs → Rgd xs.length r) ∧ ys = rs.map (fun r => qtext (rsum (vval xs) r)) ∧ e = 0)
theorem AnsS.uniq {rs : List (Int × Int)} {xs ys ys' : List Tx} {e e' : Int} (h : AnsS rs xs ys e) (h' : AnsS rs xs ys' e') : ys = ys' ∧ e = e' := by
  rcases h with ⟨h1, h2, rfl⟩ | ⟨h1, h2, rfl, rfl⟩ | ⟨h1, h2, h3, rfl, rfl⟩ | ⟨h1, h2, h3, rfl, rfl⟩ <;>
  rcases h' with ⟨g1, g2, rfl⟩ | ⟨g1, g2, rfl, rfl⟩ | ⟨g1, g2, g3, rfl, rfl⟩ | ⟨g1, g2, g3, rfl, rfl⟩ <;>
  first | exact ⟨rfl, rfl⟩ | exact ⟨rfl, h2.uniq g2⟩ | exact absurd (h2.uniq g1) h1 | exact absurd (g2.uniq h1) g1 | omega | exact absurd g3 h3 | exact absurd h3 g3
/-- What a spread is. -/
def SpdS (kind n lo hi : Int) (t : Tx) (e : Int) : Prop :=
  ((strat kind n = [] ∨ ¬ Rgd n.toNat (lo, hi)) ∧ t = [] ∧ e = 2) ∨
  (strat kind n ≠ [] ∧ Rgd n.toNat (lo, hi) ∧ e = 0 ∧ ∃ z : Nat → Rat, (∀ k, k < n.toNat → mapp n.toNat (nrm (strat kind n)) z k = rgw lo.toNat hi.toNat k) ∧ t = qtext (sm n.toNat (fun k => rgw lo.toNat hi.toNat k * z k)))
theorem SpdS.uniq {kind n lo hi : Int} {t t' : Tx} {e e' : Int} (h : SpdS kind n lo hi t e) (h' : SpdS kind n lo hi t' e') : t = t' ∧ e = e' := by
  rcases h with ⟨h1, rfl, rfl⟩ | ⟨h1, h2, rfl, z, h3, rfl⟩ <;> rcases h' with ⟨g1, rfl, rfl⟩ | ⟨g1, g2, rfl, y, g3, rfl⟩
  · exact ⟨rfl, rfl⟩
  · rcases h1 with h1 | h1
    · exact absurd h1 g1
    · exact absurd g2 h1
  · rcases g1 with g1 | g1
    · exact absurd g1 h1
    · exact absurd h2 g1
  · refine ⟨?_, rfl⟩
    congr 1
    exact sm_congr fun k hk => by rw [sol_same (strat_reg h1) h3 g3 k hk]
end Go.Proofs.YtejlpdbiacmfcaaGreatDoor
end
section
set_option linter.unusedSimpArgs false
set_option linter.unusedVariables false
set_option maxHeartbeats 1000000
namespace Go.Proofs.YtejlpdbiacmfcaaGreatDoor
open Go Go.Proofs Go.RowKit Go.Lib

theorem irow_mem {rows : List (List Int)} {i : Nat} (h : i < rows.length) : irow rows i ∈ rows := by unfold irow; simp [List.getD, h]
/-- The first and the last cell of a block, as they are found. -/
def fro (a b : Nat) (i : Nat) : Int := if a < i then a else -1
def tow (a b : Nat) (i : Nat) : Int := if a < i then ((min i b - 1 : Nat) : Int) else 0
theorem fro_step {n a b i : Nat} (hi : i < n) (hab : a < b) : fro a b (i + 1) = if (blkRow n a b).getD i 0 = 1 then (if fro a b i < 0 then (i : Int) else fro a b i) else fro a b i := by
  rw [blkRow_get hi]
  unfold fro
  split <;> split <;> (try split) <;> (try split) <;> omega
theorem tow_step {n a b i : Nat} (hi : i < n) (hab : a < b) : tow a b (i + 1) = if (blkRow n a b).getD i 0 = 1 then (i : Int) else tow a b i := by
  rw [blkRow_get hi]
  unfold tow
  split <;> split <;> (try split) <;> omega
theorem fro_end {n a b : Nat} (hab : a < b) (hb : b ≤ n) : fro a b n = a ∧ tow a b n = ((b - 1 : Nat) : Int) := by
  unfold fro tow
  rw [if_pos (by omega), if_pos (by omega)]
  exact ⟨rfl, by omega⟩
theorem cmpQ_le {p q : Rat} (h : p ≤ q) : cmpQ p q ≤ 0 := by
  unfold cmpQ
  by_cases e : p + -q = 0
  · rw [if_pos e]; omega
  · rw [if_neg e]
    have h0 : ¬ 0 ≤ p + -q := fun h' => e (by grind)
    rw [if_pos (by rw [← Rat.num_nonneg] at h0; omega)]; omega
theorem cmpQ_lt {p q : Rat} (h : p < q) : cmpQ p q < 0 := by
  unfold cmpQ
  have h0 : ¬ 0 ≤ p + -q := by grind
  rw [if_neg (fun e => h0 (by rw [e]; grind)), if_pos (by rw [← Rat.num_nonneg] at h0; omega)]; omega
end Go.Proofs.YtejlpdbiacmfcaaGreatDoor
end
section
set_option linter.unusedSimpArgs false
set_option linter.unusedVariables false
set_option maxHeartbeats 4000000
namespace Go.Proofs.YtejlpdbiacmfcaaGreatDoor
open Go Go.Proofs Go.RowKit Go.Lib

theorem OwnZ.ownB (B base : Nat) (a : Option Addr) (c : Nat) (xss : List (List Int)) : OwnB B (fun w => OwnZ w base a c xss) := fun W W' row h hg hr => by
  obtain ⟨A, C, h1, h2⟩ := h
  refine ⟨A, C, OwnB.own B _ _ _ _ _ _ _ W W' row h1 hg hr, fun i hi => ⟨OwnB.sl B _ _ W W' row (h2 i hi).1 hg hr, fun g hgg => ?_⟩⟩
  obtain ⟨cs, z, hc⟩ := (h2 i hi).2 g hgg
  exact ((h2 i hi).2 g hgg).grown hg (fun e => by
    obtain ⟨_, o, ho, hf⟩ := hr g e
    exact cells_ne ho hf hc rfl)
/-- The first rows of a list. -/
def rowsTo (g : Nat → List Int) (i : Nat) : List (List Int) := (List.range i).map g
theorem rowsTo_len (g : Nat → List Int) (i : Nat) : (rowsTo g i).length = i := by simp [rowsTo]
theorem rowsTo_snoc (g : Nat → List Int) (i : Nat) : rowsTo g i ++ [g i] = rowsTo g (i + 1) := by simp [rowsTo, List.range_succ]
/-- What Strategy answers. -/
def StratR (l : List (List Int)) (B : Nat) (v : Value) (w : World) : Prop := ∃ a c, v = .slice a l.length c ∧ OwnZ w B a c l ∧ (l = [] → a = none ∧ c = 0)
theorem StratR.stay {l : List (List Int)} {B : Nat} {v : Value} {w w' : World} (h : StratR l B v w) (hb : Below w.heap.size w w') : StratR l B v w' := by
  obtain ⟨a, c, h1, h2, h3⟩ := h
  exact ⟨a, c, h1, h2.stay hb, h3⟩
theorem StratR.nil (B : Nat) (w : World) : StratR [] B (.slice none 0 0) w := ⟨none, 0, rfl, OwnZ.nil w B, fun _ => ⟨rfl, rfl⟩⟩

theorem blocks_seq (n b1 : Nat) (hn0 : 0 < n) (hn : n ≤ 64) (G : World → Prop) (hG : ∀ w, G w → Bk w b1 3 [.int .i64 (n : Nat)]) :
    SeqN Tryz.prog 78 [.pointer (some ⟨b1, 0, none⟩)] (blks n).length (fun q vs => ∃ b : Nat × Nat, (blks n)[q]? = some b ∧ vs = [.int .i64 (b.1 : Nat), .int .i64 (b.2 : Nat)]) G := by
  intro L J Jx W hY h0 hg0
  refine enter Tryz.func78 rfl Tryz.ntmps78 (Nat.le_of_ble_eq_true rfl) ?_
  refine dr U 600 rfl trivial ?_
  refine loopR (fun fr w' m => ∃ (j : Nat), fr = [(0, .func (.yield L) ⟨[]⟩ ⟨[]⟩), (1, .pointer (some ⟨b1, 0, none⟩)), (3, .int .i64 ((2 ^ j : Nat) : Int))] ∧ j ≤ lev n ∧ J (bpre n j 0).length w' ∧ G w' ∧ m = lev n - j)
    ⟨0, rfl, by omega, by rw [bpre_zero]; exact h0, hg0, rfl⟩ ⟨rfl, rfl, iv (by simp), trivial⟩ ?_
  rintro fr w1 m ⟨j, rfl, hj, hJ, hg, rfl⟩
  have hpl := pow_lev hn0 hn hj
  have hp0 := two_pos j
  have hps : 2 ^ (j + 1) = 2 * 2 ^ j := by rw [Nat.pow_succ]; omega
  have hlev := lev_lt (n := n) (j := j) hn0
  generalize hsz : 2 ^ j = s at *
  refine dr U 600 rfl trivial ?_
  refine ld U rfl rfl rfl rfl ((hG _ hg).cell rfl) ?_
  refine dr U 600 rfl (by first | exact True.intro | (simp only [AllP, InR, List.nil_append, List.cons_append, and_true]; omega)) ?_
  refine cS rfl rfl rfl rfl (fun hq => ?_) (fun hq => ?_)
  · have hjl : j < lev n := hlev.2 (by omega)
    refine dr U 600 rfl trivial ?_
    refine loopR (fun fr w' m => ∃ (k : Nat), fr = [(0, .func (.yield L) ⟨[]⟩ ⟨[]⟩), (1, .pointer (some ⟨b1, 0, none⟩)), (3, .int .i64 (s : Nat)), (4, .int .i64 ((k * s : Nat) : Int))] ∧ k * s < n + s ∧ J (bpre n j k).length w' ∧ G w' ∧ m = n + s - k * s)
      ⟨0, rfl, by omega, hJ, hg, rfl⟩ ⟨rfl, rfl, rfl, iv (by omega), trivial⟩ ?_
    rintro fr w2 m ⟨k, rfl, hk, hJ2, hg2, rfl⟩
    have hat := bpre_at (n := n) (j := j) (k := k) hjl
    have hln := bpre_len (n := n) (j := j) (k := k)
    have hnx := bpre_next (n := n) (j := j) (k := k)
    have hks : (k + 1) * s = k * s + s := Nat.succ_mul k s
    rw [hsz] at hat hln hnx
    generalize hfr : k * s = from_ at *
    refine dr U 600 rfl trivial ?_
    refine ld U rfl rfl rfl rfl ((hG _ hg2).cell rfl) ?_
    refine dr U 600 rfl trivial ?_
    refine cS rfl rfl rfl rfl (fun hq => ?_) (fun hq => ?_)
    · have hlt : from_ < n := by omega
      have hat := hat hlt
      have hln := hln hlt
      have hidx : (bpre n j k).length < (blks n).length := by
        rcases Nat.lt_or_ge (bpre n j k).length (blks n).length with h | h
        · exact h
        · rw [List.getElem?_eq_none h] at hat; cases hat
      refine dr U 600 rfl trivial ?_
      refine ld U rfl rfl rfl rfl ((hG _ hg2).cell rfl) ?_
      refine dr U 600 rfl (by first | exact True.intro | (simp only [AllP, InR, List.nil_append, List.cons_append, and_true]; omega)) ?_
      refine yld rfl rfl (hY (bpre n j k).length w2 _ hidx hJ2 hg2 ⟨_, hat, ?_⟩) ?_
      · show [Value.int .i64 (from_ : Int), Value.int .i64 (min (n : Int) ((from_ : Int) + (s : Int)))] = _
        rw [show (min (n : Int) ((from_ : Int) + (s : Int))) = ((min n (from_ + s) : Nat) : Int) by omega]
      rintro bb w3 ⟨h1, h2⟩
      refine ⟨_, rfl, ?_⟩
      cases bb with
      | true =>
        obtain ⟨hJ3, hg3⟩ := h1 rfl
        rw [← hln] at hJ3
        refine dr U 600 rfl (by first | exact True.intro | (simp only [AllP, InR, List.nil_append, List.cons_append, and_true]; omega)) ?_
        exact rend _ _ ⟨k + 1, rfl, by omega, hJ3, hg3, rfl⟩ (by omega) ⟨rfl, rfl, rfl, iv (by omega), trivial⟩
      | false =>
        refine dr U 600 rfl trivial ?_
        exact ret Tryz.results78 rfl ⟨_, rfl, .inr (h2 rfl)⟩
    · rw [hnx (by omega)] at hJ2
      refine dr U 600 rfl (by first | exact True.intro | (simp only [AllP, InR, List.nil_append, List.cons_append, and_true]; omega)) ?_
      exact rend _ _ ⟨j + 1, rfl, by omega, hJ2, hg2, rfl⟩ (by omega) ⟨rfl, rfl, iv (by omega), trivial⟩
  · obtain rfl : j = lev n := by
      rcases Nat.lt_or_ge j (lev n) with h | h
      · have := hlev.1 h; omega
      · omega
    rw [bpre_all] at hJ
    refine dr U 600 rfl trivial ?_
    exact retN Tryz.results78 rfl ⟨_, rfl, .inl hJ⟩
theorem blocks_calls (n : Nat) (w : World) : Calls Tryz.prog 41 #[.int .i64 (n : Nat)] w
    (Ret fun v w' => v = .func (.func 78) ⟨[]⟩ ⟨[.pointer (some ⟨w.heap.size, 0, none⟩)]⟩ ∧ w'.heap.size = w.heap.size + 1 ∧ Bk w' w.heap.size 3 [.int .i64 (n : Nat)] ∧ w.grownBy w' none) := by
  refine enter Tryz.func41 rfl Tryz.ntmps41 (Nat.le_of_ble_eq_true rfl) ?_
  refine dr U 600 rfl trivial ?_
  refine bx rfl rfl rfl rfl ?_
  rintro b w1 rfl hs hb hg
  refine dr U 600 rfl trivial ?_
  refine ret Tryz.results41 rfl ⟨_, rfl, rfl, hs, hb, hg⟩
end Go.Proofs.YtejlpdbiacmfcaaGreatDoor
end
