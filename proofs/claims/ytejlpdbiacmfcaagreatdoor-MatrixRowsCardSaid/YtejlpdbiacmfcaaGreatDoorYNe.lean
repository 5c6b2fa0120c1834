/-
  Walks of slices.Max and of package matrix's Norm.
  Conditions: rows take at most a million ints.

  Walk of package matrix's Estimate.
  Conditions: at most 7 cells, or an invalid number of cells; the library's table of powers of ten is laid.

  Pairs of ints in memory: the engine's rules for arrays of two ints; full slice expressions; walks of ranged, Answers.
  Conditions: the numbers' digits fit; the library's table of powers of ten is laid.

  Walk of package matrix's Answers.
  Conditions: the sums' digits fit; the cells' capacity reaches over them; the library's table of powers of ten is laid.
-/
import Derived.Test.YtejlpdbiacmfcaaGreatDoorYSs
import Derived.Test.YtejlpdbiacmfcaaGreatDoorYLa
import Derived.Test.YtejlpdbiacmfcaaGreatDoorYLb
import Derived.Test.YtejlpdbiacmfcaaGreatDoorYMj
import Derived.Test.YtejlpdbiacmfcaaGreatDoorYGa
import Derived.Test.YtejlpdbiacmfcaaGreatDoorYNi
section
set_option linter.unusedSimpArgs false
set_option linter.unusedVariables false
set_option maxHeartbeats 2000000
namespace Go.Proofs.YtejlpdbiacmfcaaGreatDoor
open Go Go.Proofs Go.RowKit Go.Lib

/-- The greatest of the first ints (of the first one, where there are none). -/
def mxl (l : List Int) : Nat → Int
  | 0 => l.getD 0 0
  | i + 1 => max (mxl l i) (l.getD i 0)
theorem mxl_one (l : List Int) : mxl l 1 = l.getD 0 0 := by rw [mxl, mxl]; omega
theorem smax_calls (l : List Int) (h0 : 0 < l.length) (hl : l.length ≤ 1099511627776) (a : Option Addr) (c : Nat) (w : World) (hs : Sl w a (ivs l)) :
    Calls Tryz.prog 56 #[.slice a l.length c] w (Ret fun v w' => v = .int .i64 (mxl l l.length) ∧ w = w') := by
  refine enter Tryz.func56 rfl Tryz.ntmps56 (Nat.le_of_ble_eq_true rfl) ?_
  refine dr U 600 rfl trivial ?_
  refine cF rfl rfl rfl ((by omega)) ?_; refine dr U 600 rfl trivial ?_
  refine il U rfl rfl rfl rfl rfl rfl rfl (fun _ => rfl) rfl 0 rfl h0 hs (ivs_get h0) ?_
  refine dr U 600 rfl trivial ?_
  refine loopR (fun fr w' m => ∃ i : Nat, fr = [(0, .slice a l.length c), (3, .int .i64 (mxl l i)), (4, .int .i64 (i : Nat))] ∧ 1 ≤ i ∧ i ≤ l.length ∧ w = w' ∧ m = l.length - i)
    ⟨1, rfl, by omega, by omega, rfl, rfl⟩ ⟨rfl, by rw [mxl_one]; rfl, rfl, trivial⟩ ?_
  rintro fr w1 m ⟨i, rfl, h1, hi, rfl, rfl⟩
  refine dr U 600 rfl trivial ?_
  refine cS rfl rfl rfl rfl (fun hq => ?_) (fun hq => ?_)
  · have hil : i < l.length := by omega
    refine dr U 600 rfl trivial ?_
    refine il U rfl rfl rfl rfl rfl rfl rfl (fun _ => rfl) rfl i rfl hil hs (ivs_get hil) ?_
    refine dr U 600 rfl (by first | exact True.intro | (simp only [AllP, InR, List.nil_append, List.cons_append, and_true]; omega)) ?_
    exact rend _ _ ⟨i + 1, rfl, by omega, by omega, rfl, rfl⟩ (by omega) ⟨rfl, rfl, iv (by omega), trivial⟩
  · obtain rfl : i = l.length := by omega
    refine dr U 600 rfl trivial ?_
    exact ret Tryz.results56 rfl ⟨_, rfl, rfl, rfl⟩

/-- The columns' sums of the first rows. -/
def csum (rows : List (List Int)) (n i : Nat) : List Int := (List.range n).map fun k => colS (rows.take i) k
/-- The columns' sums where one more row is being added. -/
def csumK (rows : List (List Int)) (n i k : Nat) : List Int := (List.range n).map fun j => if j < k then colS (rows.take (i + 1)) j else colS (rows.take i) j
theorem csum_zero (rows : List (List Int)) (n : Nat) : csum rows n 0 = List.replicate n 0 := by
  apply List.ext_getElem?
  intro i
  by_cases h : i < n
  · simp [csum, colS, h]
  · simp [csum, h]
theorem csumK_zero (rows : List (List Int)) (n i : Nat) : csumK rows n i 0 = csum rows n i := by simp [csumK, csum]
theorem csumK_end (rows : List (List Int)) (n i : Nat) : csumK rows n i n = csum rows n (i + 1) := by
  unfold csumK csum
  apply List.map_congr_left
  intro j hj
  rw [if_pos (List.mem_range.1 hj)]
theorem csum_len (rows : List (List Int)) (n i : Nat) : (csum rows n i).length = n := by simp [csum]
theorem csumK_len (rows : List (List Int)) (n i k : Nat) : (csumK rows n i k).length = n := by simp [csumK]
theorem csumK_get {rows : List (List Int)} {n i k : Nat} (h : k < n) : (csumK rows n i k).getD k 0 = colS (rows.take i) k := by simp [csumK, List.getD, h]
theorem csumK_set {rows : List (List Int)} {n i k : Nat} (h : k < n) : (csumK rows n i k).set k (colS (rows.take (i + 1)) k) = csumK rows n i (k + 1) := by
  apply List.ext_getElem?
  intro j
  by_cases hj : j < n
  · by_cases e : k = j
    · subst e
      rw [List.getElem?_set_self (by rw [csumK_len]; exact hj)]
      simp [csumK, hj]
    · rw [List.getElem?_set_ne e]
      simp only [csumK, List.getElem?_map, List.getElem?_range hj, Option.map_some]
      congr 1
      split <;> split <;> first | rfl | omega
  · rw [List.getElem?_eq_none (by rw [List.length_set, csumK_len]; omega), List.getElem?_eq_none (by rw [csumK_len]; omega)]
theorem wthn_get {l : List Int} {B : Int} (h : Wthn l B) (hB : 0 ≤ B) (k : Nat) : -B ≤ l.getD k 0 ∧ l.getD k 0 ≤ B := by
  by_cases hk : k < l.length
  · exact h _ (by simp [List.getD, hk])
  · have : l.getD k 0 = 0 := by simp [List.getD, hk]
    omega
theorem colS_bound {rows : List (List Int)} {i k : Nat} (hi : i ≤ rows.length) (h : ∀ j, j < i → Wthn (irow rows j) 1000000) : 0 ≤ colS (rows.take i) k ∧ colS (rows.take i) k ≤ (i : Int) * 1000000 := by
  refine ⟨colS_nonneg _ _, ?_⟩
  induction i with
  | zero => simp [colS]
  | succ i ih =>
    rw [colS_take (by omega)]
    have h1 := ih (by omega) (fun j hj => h j (by omega))
    have h2 := wthn_get (h i (by omega)) (by omega) k
    push_cast
    omega
/-- The norm's last step. -/
theorem mxl_csum (rows : List (List Int)) (n : Nat) : mxl (csum rows n rows.length ++ [0]) (n + 1) = normTo rows n := by
  have hget : ∀ k, k < n → (csum rows n rows.length ++ [0]).getD k 0 = colS rows k := fun k hk => by
    unfold csum
    rw [List.take_length]
    simp [List.getD, List.getElem?_append_left, hk]
  have hlast : (csum rows n rows.length ++ [0]).getD n 0 = 0 := by
    simp [List.getD, List.getElem?_append_right, csum_len]
  have key : ∀ i, 0 < i → i ≤ n → mxl (csum rows n rows.length ++ [0]) i = normTo rows i := by
    intro i h0 hi
    induction i with
    | zero => omega
    | succ i ih =>
      by_cases e : i = 0
      · subst e
        rw [mxl_one, hget 0 (by omega), normTo, normTo]
        have := colS_nonneg rows 0
        omega
      · rw [mxl, ih (by omega) (by omega), hget i (by omega), normTo]
  rw [mxl, hlast]
  by_cases e : n = 0
  · subst e
    rw [mxl, hlast, normTo]; omega
  · rw [key n (by omega) (Nat.le_refl _)]
    have := normTo_nonneg rows n
    omega
theorem mnorm_calls (xss : List (List Int)) (hl : xss.length ≤ 1099511627776) (hx : ∀ i, i < xss.length → (irow xss i).length ≤ 1000000) (a : Option Addr) (c : Nat) (w : World) (hs : SZ w a xss) :
    Calls Tryz.prog 17 #[.slice a xss.length c] w (Ret fun v w' => v = .int .i64 (normF xss) ∧ Below w.heap.size w w') := by
  obtain ⟨A, C, hSl, hR⟩ := hs
  refine enter Tryz.func17 rfl Tryz.ntmps17 (Nat.le_of_ble_eq_true rfl) ?_
  refine dr U 600 rfl trivial ?_
  refine cS rfl rfl rfl rfl (fun hq => ?_) (fun hq => ?_)
  · refine dr U 600 rfl trivial ?_
    exact ret Tryz.results17 rfl ⟨_, rfl, by unfold normF; rw [if_pos (by omega)]; rfl, Below.refl _ _⟩
  refine dr U 600 rfl trivial ?_
  refine cS rfl rfl rfl rfl (fun hq2 => ?_) (fun hq2 => ?_)
  · refine dr U 600 rfl trivial ?_
    exact ret Tryz.results17 rfl ⟨_, rfl, by unfold normF; rw [if_pos (by omega)]; rfl, Below.refl _ _⟩
  have h0 : 0 < xss.length := by omega
  have hn := hx 0 h0
  refine dr U 600 rfl trivial ?_
  refine il U rfl rfl rfl rfl rfl rfl rfl (fun _ => rfl) rfl 0 rfl h0 hSl (irws_get h0) ?_
  refine dr U 600 rfl trivial ?_
  refine mkn U rfl rfl rfl rfl rfl rfl rfl (irow xss 0).length rfl rfl (by omega) (by omega) w.heap.size (Nat.le_refl _) ?_
  intro a3 w1 ho1 hg1
  have hB1 : Below w.heap.size w w1 := (Below.refl _ _).grown hg1 (Nat.le_refl _) (fun k e => by cases e)
  rw [ivs_zero, ← csum_zero xss] at ho1
  have hnf : (∀ r, r ∈ xss → r.length = (irow xss 0).length ∧ Wthn r 1000000) → normF xss = normTo xss (irow xss 0).length := fun h => by unfold normF; rw [if_neg (by omega), if_pos h]
  have hnn : ∀ i, i < xss.length → ¬ ((irow xss i).length = (irow xss 0).length ∧ Wthn (irow xss i) 1000000) → normF xss = 0 := fun i hi h => by unfold normF; rw [if_neg (by omega), if_neg (fun h' => h (h' _ (irow_mem hi)))]
  generalize (irow xss 0).length = n at *
  refine dr U 600 rfl trivial ?_
  refine loopR (fun fr w' mm => ∃ (i : Nat), fr = [(3, .slice a3 n n), (21, .slice a xss.length c), (22, .int .i64 (xss.length : Nat)), (23, .int .i64 (i : Nat))] ∧ i ≤ xss.length ∧ (∀ j, j < i → (irow xss j).length = n ∧ Wthn (irow xss j) 1000000) ∧ w'.ownsRow w.heap.size 3 1 (.slice a3 n n) n (ivs (csum xss n i)) ∧ Below w.heap.size w w' ∧ mm = xss.length - i)
    ⟨0, rfl, by omega, fun j hj => absurd hj (by omega), ho1, hB1, rfl⟩ ⟨rfl, rfl, rfl, rfl, trivial⟩ ?_
  rintro fr w2 mm ⟨i, rfl, hi, hok, ho, hB, rfl⟩
  refine dr U 600 rfl trivial ?_
  refine cS rfl rfl rfl rfl (fun hq3 => ?_) (fun hq3 => ?_)
  · have hil : i < xss.length := by omega
    refine dr U 600 rfl trivial ?_
    refine il U rfl rfl rfl rfl rfl rfl rfl (fun _ => rfl) rfl i rfl hil (hSl.stay hB) (irws_get hil) ?_
    refine dr U 600 rfl trivial ?_
    refine cS rfl rfl rfl rfl (fun hq4 => ?_) (fun hq4 => ?_)
    · refine dr U 600 rfl trivial ?_
      exact ret Tryz.results17 rfl ⟨_, rfl, by rw [hnn i hil (fun h => hq4 (by rw [h.1]))]; rfl, hB⟩
    have hli : (irow xss i).length = n := by omega
    refine dr U 600 rfl trivial ?_
    refine call (f := 38) rfl rfl cb38 (within_calls (irow xss i) 1000000 (by omega) (by have := hx i hil; omega) (A i) (C i) w2 ((hR i hil).stay hB)) ?_
    rintro v w3 ⟨rfl, hB3⟩
    have hB3' := bl_tr hB hB3 hB.size
    have ho3 := own_bw ho hB3
    refine ⟨_, rfl, ?_⟩
    by_cases hw : Wthn (irow xss i) 1000000
    · rw [decide_eq_true hw]
      rw [← csumK_zero] at ho3
      refine dr U 600 rfl trivial ?_
      refine loopR (fun fr w' m2 => ∃ (k : Nat), fr = [(3, .slice a3 n n), (21, .slice a xss.length c), (22, .int .i64 (xss.length : Nat)), (23, .int .i64 (i : Nat)), (37, .slice (A i) (irow xss i).length (C i)), (38, .int .i64 ((irow xss i).length : Nat)), (39, .int .i64 (k : Nat))] ∧ k ≤ n ∧ w'.ownsRow w.heap.size 3 1 (.slice a3 n n) n (ivs (csumK xss n i k)) ∧ Below w.heap.size w w' ∧ m2 = n - k)
        ⟨0, rfl, by omega, ho3, hB3', rfl⟩ ⟨rfl, rfl, rfl, rfl, rfl, rfl, rfl, trivial⟩ ?_
      rintro fr w4 m2 ⟨k, rfl, hk, ho4, hB4, rfl⟩
      refine dr U 600 rfl trivial ?_
      refine cS rfl rfl rfl rfl (fun hq5 => ?_) (fun hq5 => ?_)
      · have hkn : k < n := by omega
        have hcb := colS_bound (rows := xss) (i := i) (k := k) hi (fun j hj => (hok j hj).2)
        have hwb := wthn_get hw (by omega) k
        have hct := colS_take hil k
        have hset := csumK_set (rows := xss) (n := n) (i := i) hkn
        have hgl := csumK_get (rows := xss) (n := n) (i := i) hkn
        refine dr U 600 rfl trivial ?_
        refine il U rfl rfl rfl rfl rfl rfl rfl (fun _ => rfl) rfl k rfl (by omega) ((hR i hil).stay hB4) (ivs_get (by omega)) ?_
        refine dr U 600 rfl trivial ?_
        refine il U rfl rfl rfl rfl rfl rfl rfl (fun _ => rfl) rfl k rfl hkn (own_sl ho4) (ivs_get (by rw [csumK_len]; exact hkn)) ?_
        rw [hgl]
        refine dr U 600 rfl (by first | exact True.intro | (simp only [AllP, InR, List.nil_append, List.cons_append, and_true]; omega)) ?_
        refine is U (v := (.int .i64 (colS (xss.take (i + 1)) k))) rfl rfl rfl rfl rfl rfl rfl (fun _ => rfl) (fun _ => iv (by rw [hct, Int.zero_sub])) (fun _ => rfl) rfl rfl k rfl hkn ho4 ?_
        intro p w5 ho5 hg5 hs5
        have hB5 := hB4.grown hg5 hB4.size (fun g e => (own_block ho4 g e).1)
        rw [ivs_set, hset] at ho5
        refine dr U 600 rfl (by first | exact True.intro | (simp only [AllP, InR, List.nil_append, List.cons_append, and_true]; omega)) ?_
        exact rend _ _ ⟨k + 1, rfl, by omega, ho5, hB5, rfl⟩ (by omega) ⟨rfl, rfl, rfl, rfl, rfl, rfl, iv (by omega), trivial⟩
      · obtain rfl : k = n := by omega
        rw [csumK_end] at ho4
        refine dr U 600 rfl (by first | exact True.intro | (simp only [AllP, InR, List.nil_append, List.cons_append, and_true]; omega)) ?_
        refine rend _ _ ⟨i + 1, rfl, by omega, fun j hj => ?_, ho4, hB4, rfl⟩ (by omega) ⟨rfl, rfl, rfl, iv (by omega), trivial⟩
        rcases Nat.lt_succ_iff_lt_or_eq.1 hj with h' | rfl
        · exact hok j h'
        · exact ⟨hli, hw⟩
    · rw [decide_eq_false hw]
      refine dr U 600 rfl trivial ?_
      exact ret Tryz.results17 rfl ⟨_, rfl, by rw [hnn i hil (fun h => hw h.2)]; rfl, hB3'⟩
  · obtain rfl : i = xss.length := by omega
    refine dr U 600 rfl trivial ?_
    refine ap U (v := (.int .i64 0)) rfl rfl rfl rfl rfl rfl (fun _ => rfl) rfl (fun _ => rfl) rfl rfl rfl ho hB.size (by omega) (by decide) ?_
    intro a5 c5 w5 ho5 hg5
    have hB5 := hB.grown hg5 hB.size (fun g e => (own_block ho g e).1)
    rw [ivs_snoc] at ho5
    have hsm := smax_calls (csum xss n xss.length ++ [0]) (by simp) (by rw [List.length_append, csum_len]; simp; omega) a5 c5 w5 (own_sl ho5)
    rw [List.length_append, csum_len, List.length_singleton, mxl_csum] at hsm
    refine call (f := 56) rfl rfl cb56 hsm ?_
    rintro v w6 ⟨rfl, rfl⟩
    refine ⟨_, rfl, ?_⟩
    refine dr U 600 rfl trivial ?_
    refine ret Tryz.results17 rfl ⟨_, rfl, ?_, hB5⟩
    rw [hnf (fun r hr => by
      obtain ⟨j, hj, rfl⟩ := List.getElem_of_mem hr
      have := hok j hj
      simpa [irow, List.getD, hj] using this)]
    rfl
end Go.Proofs.YtejlpdbiacmfcaaGreatDoor
end
section
set_option linter.unusedSimpArgs false
set_option linter.unusedVariables false
set_option maxHeartbeats 2000000
namespace Go.Proofs.YtejlpdbiacmfcaaGreatDoor
open Go Go.Proofs Go.RowKit Go.Lib

theorem irow_strat {kind n : Int} {i : Nat} (h : i < (strat kind n).length) : (irow (strat kind n) i).length = n.toNat := by
  have hs : strat kind n ≠ [] := fun e => by rw [e] at h; simp at h
  have h1 := (strat_kind hs).1
  obtain ⟨m, rfl⟩ : ∃ m : Nat, n = (m : Int) := ⟨n.toNat, by omega⟩
  rw [Int.toNat_natCast]
  exact strat_length (irow_mem h)
theorem sysP_of {kind n : Int} {b : Nat → Rat} (hs : strat kind n ≠ []) (hn : n ≤ 7) (hb : ∀ i, i < n.toNat → Isn 13000000000000 (b i)) : SysP (strat kind n) n.toNat b := by
  have h1 := (strat_kind hs).1
  exact ⟨by omega, by omega, List.length_pos_iff.2 hs, strat_len7 hn, fun i hi => irow_strat hi, strat_bits kind n, strat_reg hs, fun x hx i hi => small_mono (stsol_small hs hn hb x hx i hi) (by omega), fun i hi => isn_small (hb i hi) (by omega) (by omega)⟩
theorem ratsI_small {l : List Int} {B : Int} (h : Wthn l B) (hB : 0 ≤ B ∧ B ≤ 1000000000000) (i : Nat) : Small 13 (ratsI l i) := by
  have := wthn_get h hB.1 i
  exact small_int (by omega) (by omega)
/-- What an estimate of numbers is. -/
def EstR (kind n : Int) (noisy : List Int) (v : Value) (w : World) : Prop :=
  (strat kind n = [] ∧ v = .tuple ⟨[.slice none 0 0, .int .i64 2]⟩) ∨ (strat kind n ≠ [] ∧ noisy.length ≠ (strat kind n).length ∧ v = .tuple ⟨[.slice none 0 0, .int .i64 10]⟩) ∨
  (strat kind n ≠ [] ∧ noisy.length = (strat kind n).length ∧ ¬ Wthn noisy 1000000000000 ∧ v = .tuple ⟨[.slice none 0 0, .int .i64 2]⟩) ∨
  (strat kind n ≠ [] ∧ noisy.length = (strat kind n).length ∧ Wthn noisy 1000000000000 ∧ FitR (strat kind n) n.toNat (fun i => rhs (strat kind n) (ratsI noisy) i (strat kind n).length) v w)
theorem rhs_small {kind n : Int} (hn : n ≤ 7) {y : List Int} (hy : Wthn y 1000000000000) (i j : Nat) (hj : j ≤ (strat kind n).length) : Isn 13000000000000 (rhs (strat kind n) (ratsI y) i j) :=
  rhs_isn (B := 1000000000000) (M := 13) (strat_len7 hn) hy (by omega) i j hj
theorem mest_calls (kind n : Int) (noisy : List Int) (hn : n ≤ 7 ∨ 64 < n) (hl : noisy.length ≤ 1099511627776) (a : Option Addr) (c : Nat) (w : World) (hs : Sl w a (ivs noisy)) (ht : TabOk w) :
    Calls Tryz.prog 12 #[.int .i64 kind, .int .i64 n, .slice a noisy.length c] w (Ret fun v w' => EstR kind n noisy v w' ∧ Below w.heap.size w w') := by
  refine enter Tryz.func12 rfl Tryz.ntmps12 (Nat.le_of_ble_eq_true rfl) ?_
  refine dr U 600 rfl trivial ?_
  refine call (f := 11) rfl rfl cb11 (mstrat_calls kind n w) ?_
  rintro v w1 ⟨⟨a1, c1, rfl, hO, hnil⟩, hB1⟩
  refine ⟨_, rfl, ?_⟩
  refine dr U 600 rfl trivial ?_
  refine eqNil U rfl rfl rfl rfl rfl ?_
  by_cases hst : strat kind n = []
  · rw [(hnil hst).1]
    refine dr U 600 rfl trivial ?_
    exact ret Tryz.results12 rfl ⟨_, rfl, .inl ⟨hst, rfl⟩, hB1⟩
  have hn7 : n ≤ 7 := by
    rcases hn with h | h
    · exact h
    · exact absurd (strat_out (.inr h)) hst
  have hpos := List.length_pos_iff.2 hst
  have hOs := hO.sz
  obtain ⟨ga, rfl⟩ : ∃ ga, a1 = some ga := by
    obtain ⟨A, C, h1, _⟩ := hO
    obtain ⟨go, h⟩ := own_go h1 hpos
    exact ⟨_, h⟩
  have hln := strat_len7 (kind := kind) hn7
  have hPb := fun hw : Wthn noisy 1000000000000 => fun (i : Nat) (_ : i < n.toNat) => rhs_small (kind := kind) hn7 hw i (strat kind n).length (Nat.le_refl _)
  have hPr := fun hw : Wthn noisy 1000000000000 => fun (i : Nat) (_ : i < n.toNat) (j : Nat) (hj : j ≤ (strat kind n).length) => isn_small (K := 15) (rhs_small (kind := kind) hn7 hw i j hj) (by omega) (by omega)
  have hP := fun hw => sysP_of (b := fun i => rhs (strat kind n) (ratsI noisy) i (strat kind n).length) hst hn7 (hPb hw)
  have hE := fun (v : Value) (w' : World) => show ((strat kind n = [] ∧ v = .tuple ⟨[.slice none 0 0, .int .i64 2]⟩) ∨ (strat kind n ≠ [] ∧ noisy.length ≠ (strat kind n).length ∧ v = .tuple ⟨[.slice none 0 0, .int .i64 10]⟩) ∨
    (strat kind n ≠ [] ∧ noisy.length = (strat kind n).length ∧ ¬ Wthn noisy 1000000000000 ∧ v = .tuple ⟨[.slice none 0 0, .int .i64 2]⟩) ∨
    (strat kind n ≠ [] ∧ noisy.length = (strat kind n).length ∧ Wthn noisy 1000000000000 ∧ FitR (strat kind n) n.toNat (fun i => rhs (strat kind n) (ratsI noisy) i (strat kind n).length) v w')) → EstR kind n noisy v w' from fun h => h
  refine dr U 600 rfl trivial ?_
  refine cS rfl rfl rfl rfl (fun hq1 => ?_) (fun hq1 => ?_)
  · refine dr U 600 rfl trivial ?_
    exact ret Tryz.results12 rfl ⟨_, rfl, .inr (.inl ⟨hst, by omega, rfl⟩), hB1⟩
  have hlen : noisy.length = (strat kind n).length := by omega
  refine dr U 600 rfl trivial ?_
  refine call (f := 38) rfl rfl cb38 (within_calls noisy 1000000000000 (by omega) hl a c w1 (hs.stay hB1)) ?_
  rintro v w2 ⟨rfl, hB2⟩
  have hB2' := bl_tr hB1 hB2 hB1.size
  refine ⟨_, rfl, ?_⟩
  by_cases hw : Wthn noisy 1000000000000
  case neg =>
    rw [decide_eq_false hw]
    refine dr U 600 rfl trivial ?_
    exact ret Tryz.results12 rfl ⟨_, rfl, .inr (.inr (.inl ⟨hst, hlen, hw, rfl⟩)), hB2'⟩
  rw [decide_eq_true hw]
  have hsm := ratsI_small hw (by omega)
  refine dr U 600 rfl trivial ?_
  refine loopR (fun fr w' m => ∃ (i : Nat) (a2 : Option Addr) (c2 : Nat), fr = [(8, .slice (some ga) (strat kind n).length c1), (9, .slice a2 i c2), (28, .slice a noisy.length c), (29, .int .i64 (noisy.length : Nat)), (30, .int .i64 (i : Nat))] ∧ i ≤ noisy.length ∧ w'.ownsRow w2.heap.size 35 1 (.slice a2 i c2) i (strs (txs i (ratsI noisy))) ∧ Below w2.heap.size w2 w' ∧ m = noisy.length - i)
    ⟨0, none, 0, rfl, by omega, ⟨rfl, .inl ⟨rfl, rfl⟩⟩, Below.refl _ _, rfl⟩ (by repeat' (first | exact True.intro | exact rfl | exact iv (by omega) | refine ⟨?_, ?_⟩)) ?_
  rintro fr w3 m ⟨i, a2, c2, rfl, hi, ho, hB3, rfl⟩
  have hB3' := bl_tr hB2' hB3 hB2'.size
  refine dr U 600 rfl trivial ?_
  refine cS rfl rfl rfl rfl (fun hq2 => ?_) (fun hq2 => ?_)
  · have hil : i < noisy.length := by omega
    have hwi := wthn_get hw (by omega) i
    refine dr U 600 rfl trivial ?_
    refine il U rfl rfl rfl rfl rfl rfl rfl (fun _ => rfl) rfl i rfl hil (hs.stay hB3') (ivs_get hil) ?_
    refine dr U 600 rfl trivial ?_
    refine call (f := 43) rfl rfl cb43 (mint_calls (noisy.getD i 0) (by omega) (by omega) w3 (ht.below hB3')) ?_
    rintro v w4 ⟨rfl, hB4⟩
    have hB4' := bl_tr hB3 hB4 hB3.size
    have ho4 := own_bw ho hB4
    refine ⟨_, rfl, ?_⟩
    refine ap U (v := (.string ⟨⟨qtext ((noisy.getD i 0 : Int) : Rat)⟩⟩)) rfl rfl rfl rfl rfl rfl (fun _ => rfl) rfl (fun _ => rfl) rfl rfl rfl ho4 hB4'.size (by omega) (by decide) ?_
    intro a5 c5 w5 ho5 hg5
    have hB5 := hB4'.grown hg5 hB4'.size (fun g e => (own_block ho4 g e).1)
    have ho5 : w5.ownsRow w2.heap.size 35 1 (.slice a5 (i + 1) c5) (i + 1) (strs (txs (i + 1) (ratsI noisy))) := by rw [← strs_txs_snoc]; exact ho5
    refine dr U 600 rfl (by first | exact True.intro | (simp only [AllP, InR, List.nil_append, List.cons_append, and_true]; omega)) ?_
    exact rend _ _ ⟨i + 1, a5, c5, rfl, by omega, ho5, hB5, rfl⟩ (by omega) (by repeat' (first | exact True.intro | exact rfl | exact iv (by omega) | refine ⟨?_, ?_⟩))
  · obtain rfl : i = noisy.length := by omega
    rw [hlen] at ho ⊢
    have hfit := mfit_calls (strat kind n) n.toNat (ratsI noisy) _ (fun _ => rfl) (hP hw) (fun j _ => small_mono (hsm j) (by omega)) (hPr hw) (some ga) a2 c1 c2 w3 (hOs.stay (bl_tr hB2 hB3 hB2.size)) ⟨a2, c2, by rw [txs_length], own_sl ho⟩ (ht.below hB3')
    refine dr U 600 rfl trivial ?_
    refine call (f := 44) rfl rfl cb44 hfit ?_
    rintro v w4 ⟨hf, hB4⟩
    have hf0 := hf
    obtain ⟨x, ax, cx, hx1, hx2, rfl, hx3, hx4⟩ := hf0
    refine ⟨_, rfl, ?_⟩
    refine dr U 600 rfl trivial ?_
    exact ret Tryz.results12 rfl ⟨_, rfl, .inr (.inr (.inr ⟨hst, hlen, hw, hf⟩)), bl_tr hB3' hB4 hB3'.size⟩
end Go.Proofs.YtejlpdbiacmfcaaGreatDoor
end
section
set_option linter.unusedSimpArgs false
set_option linter.unusedVariables false
set_option maxHeartbeats 2000000
namespace Go.Proofs.YtejlpdbiacmfcaaGreatDoor
open Go Go.Proofs Go.RowKit Go.Lib

section
variable {P : Program} (U : Tys P) {ro : Option Nat} {n : Nat} {ds : List Deferred} {Q : PT} {l l' : Fr} {w w' : World} {arr : Array Oper} {r : List Oper} {k : List It}
end

/-- Pairs as values. -/
def pvs (rs : List (Int × Int)) : List Value := rs.flatMap fun r => [.int .i64 r.1, .int .i64 r.2]
theorem mranged_calls (lo hi n : Int) (w : World) : Calls Tryz.prog 48 #[.int .i64 lo, .int .i64 hi, .int .i64 n] w (Ret fun v w' => v = .bool (decide (0 ≤ lo ∧ lo ≤ hi ∧ hi < n)) ∧ w = w') := by
  refine enter Tryz.func48 rfl Tryz.ntmps48 (Nat.le_of_ble_eq_true rfl) ?_
  refine dr U 600 rfl trivial ?_
  refine cS rfl rfl rfl rfl (fun hq1 => ?_) (fun hq1 => ?_)
  · refine dr U 600 rfl trivial ?_
    refine cS rfl rfl rfl rfl (fun hq2 => ?_) (fun hq2 => ?_)
    · refine dr U 600 rfl trivial ?_
      refine cS rfl rfl rfl rfl (fun hq3 => ?_) (fun hq3 => ?_)
      · refine dr U 600 rfl trivial ?_
        exact ret Tryz.results48 rfl ⟨_, rfl, by rw [decide_eq_true ⟨hq1, hq2, hq3⟩]; rfl, rfl⟩
      · refine dr U 600 rfl trivial ?_
        exact ret Tryz.results48 rfl ⟨_, rfl, by rw [decide_eq_false (fun h => hq3 h.2.2)]; rfl, rfl⟩
    · refine dr U 600 rfl trivial ?_
      exact ret Tryz.results48 rfl ⟨_, rfl, by rw [decide_eq_false (fun h => hq2 h.2.1)]; rfl, rfl⟩
  · refine dr U 600 rfl trivial ?_
    exact ret Tryz.results48 rfl ⟨_, rfl, by rw [decide_eq_false (fun h => hq1 h.1)]; rfl, rfl⟩
end Go.Proofs.YtejlpdbiacmfcaaGreatDoor
end
section
set_option linter.unusedSimpArgs false
set_option linter.unusedVariables false
set_option maxHeartbeats 2000000
namespace Go.Proofs.YtejlpdbiacmfcaaGreatDoor
open Go Go.Proofs Go.RowKit Go.Lib

end Go.Proofs.YtejlpdbiacmfcaaGreatDoor
end
