/-
  The blocks of the tree in the order of the loops.
  No conditions: each theorem names its own premises.
  Walks of package matrix: row, within, contains.
  Conditions: lists have at most a million elements.
  Walks of slices.ContainsFunc over rows of ints, and of package matrix's contains.
  Conditions: lists have at most 2^40 elements.
  The normal equations of a strategy as ints, and how many digits their solutions take; what answers and spreads are.
  Plain facts that the laws of package matrix need: one cell more, blocks seen from their cells, sums of squares, orders of numbers.
  Walks of package matrix's blocks and Strategy.
  Conditions: none but that the arguments are ints.
-/
import Derived.Test.YtejlpdbiacmfcaaGreatDoorYSto
import Derived.Test.YtejlpdbiacmfcaaGreatDoorYR5
import Derived.Test.YtejlpdbiacmfcaaGreatDoorYKa
import Derived.Test.YtejlpdbiacmfcaaGreatDoorYLd
set_option linter.unusedSimpArgs false
set_option linter.unusedVariables false
namespace Go.Proofs.YtejlpdbiacmfcaaGreatDoor
section
set_option maxHeartbeats 1000000
open Go Go.Proofs Go.RowKit Go.Lib

def bpre (n j k : Nat) : List (Nat × Nat) := (List.range j).flatMap (lvl n) ++ (lvl n j).take k
theorem lvl_length (n j : Nat) : (lvl n j).length = cnt n (2 ^ j) := by simp [lvl]
theorem two_pos (j : Nat) : 0 < 2 ^ j := Nat.pow_pos (by omega)
theorem bpre_zero (n : Nat) : bpre n 0 0 = [] := by simp [bpre]
theorem bpre_succ {n j k : Nat} (h : k * 2 ^ j < n) : bpre n j (k + 1) = bpre n j k ++ [(k * 2 ^ j, min n (k * 2 ^ j + 2 ^ j))] := by
 have hc := (cnt_lt (n := n) (two_pos j)).2 h
 unfold bpre
 rw [List.take_succ_eq_append_getElem (by rw [lvl_length]; exact hc), List.append_assoc]
 congr 2
 simp [lvl]
theorem bpre_next {n j k : Nat} (h : ¬ k * 2 ^ j < n) : bpre n j k = bpre n (j + 1) 0 := by
 have hc : ¬ k < cnt n (2 ^ j) := fun h' => h ((cnt_lt (two_pos j)).1 h')
 unfold bpre
 rw [List.take_of_length_le (by rw [lvl_length]; omega), List.range_succ, List.flatMap_append]
 simp
theorem bpre_all (n : Nat) : bpre n (lev n) 0 = blks n := by simp [bpre, blks]
theorem bpre_pre {n j k : Nat} (hj : j < lev n) : ∃ t, blks n = bpre n j k ++ t := by
 have h : blks n = (List.range j).flatMap (lvl n) ++ ((List.range (lev n - j)).map (fun x => j + x)).flatMap (lvl n) := by
  unfold blks
  rw [← List.flatMap_append]
  congr 1
  conv => lhs; rw [show lev n = j + (lev n - j) by omega]
  rw [List.range_add]
 refine ⟨(lvl n j).drop k ++ ((List.range (lev n - (j + 1))).map (fun x => (j + 1) + x)).flatMap (lvl n), ?_⟩
 have h2 : blks n = (List.range (j + 1)).flatMap (lvl n) ++ ((List.range (lev n - (j + 1))).map (fun x => (j + 1) + x)).flatMap (lvl n) := by
  unfold blks
  rw [← List.flatMap_append]
  congr 1
  conv => lhs; rw [show lev n = (j + 1) + (lev n - (j + 1)) by omega]
  rw [List.range_add]
 rw [h2, List.range_succ, List.flatMap_append, bpre]
 simp only [List.flatMap_cons, List.flatMap_nil, List.append_nil, List.append_assoc]
 rw [← List.append_assoc ((lvl n j).take k), List.take_append_drop]
theorem bpre_at {n j k : Nat} (hj : j < lev n) (h : k * 2 ^ j < n) : (blks n)[(bpre n j k).length]? = some (k * 2 ^ j, min n (k * 2 ^ j + 2 ^ j)) := by
 obtain ⟨t, ht⟩ := bpre_pre (n := n) (j := j) (k := k + 1) hj
 rw [ht, bpre_succ h]
 simp
theorem bpre_len {n j k : Nat} (h : k * 2 ^ j < n) : (bpre n j (k + 1)).length = (bpre n j k).length + 1 := by rw [bpre_succ h]; simp
theorem pow_lev {n j : Nat} (hn : 0 < n) (h : n ≤ 64) (hj : j ≤ lev n) : 2 ^ j ≤ 128 ∧ j ≤ 7 := by
 have h7 : lev n ≤ 7 := by
  have h1 := fun h => (lev_lt (n := n) (j := 7) hn).1 h
  by_cases h2 : 7 < lev n
  ·have := h1 h2; omega
  ·omega
 exact ⟨Nat.le_trans (Nat.pow_le_pow_right (by omega) (show j ≤ 7 by omega)) (by decide), by omega⟩
def treeTo (n : Nat) (l : List (Nat × Nat)) : List (List Int) := (l.map (blkR n)).foldl addRow []
theorem treeTo_snoc (n : Nat) (l : List (Nat × Nat)) (b : Nat × Nat) : treeTo n (l ++ [b]) = addRow (treeTo n l) (blkR n b) := by simp [treeTo]
theorem tree_to (n : Nat) : tree n = treeTo n (blks n) := rfl
theorem addRow_len (out : List (List Int)) (r : List Int) : (addRow out r).length ≤ out.length + 1 := by unfold addRow; split <;> simp
theorem fold_len : ∀ (l out : List (List Int)), (l.foldl addRow out).length ≤ out.length + l.length
 | [], out => by simp
 | r :: l, out => by
  rw [List.foldl_cons, List.length_cons]
  have h1 := fold_len l (addRow out r)
  have h2 := addRow_len out r
  omega
theorem treeTo_len (n : Nat) (l : List (Nat × Nat)) : (treeTo n l).length ≤ l.length := by
 have := fold_len (l.map (blkR n)) []
 unfold treeTo
 simpa using this
theorem cnt_le (n j : Nat) : cnt n (2 ^ j) ≤ n := by
 by_cases h : 0 < cnt n (2 ^ j)
 ·have h1 := (cnt_lt (n := n) (k := cnt n (2 ^ j) - 1) (two_pos j)).1 (by omega)
  have h2 : cnt n (2 ^ j) - 1 ≤ (cnt n (2 ^ j) - 1) * 2 ^ j := Nat.le_mul_of_pos_right _ (two_pos j)
  omega
 ·omega
theorem flatm_len {α β : Type} (f : α → List β) (K : Nat) : ∀ l : List α, (∀ x, x ∈ l → (f x).length ≤ K) → (l.flatMap f).length ≤ l.length * K
 | [], _ => by simp
 | x :: l, h => by
  have h1 := h x (by simp)
  have h2 := flatm_len f K l (fun y hy => h y (by simp [hy]))
  rw [List.flatMap_cons, List.length_append, List.length_cons, Nat.succ_mul]
  omega
theorem blks_len {n : Nat} (hn : 0 < n) (h : n ≤ 64) : (blks n).length ≤ 448 := by
 have h1 := (pow_lev hn h (Nat.le_refl (lev n))).2
 have h2 := flatm_len (lvl n) n (List.range (lev n)) (fun j _ => by rw [lvl_length]; exact cnt_le n j)
 unfold blks
 rw [List.length_range] at h2
 have h3 : lev n * n ≤ 7 * 64 := Nat.mul_le_mul h1 h
 omega
theorem bpre_le {n j k : Nat} (hn : 0 < n) (h : n ≤ 64) (hj : j < lev n) : (bpre n j k).length ≤ 448 := by
 obtain ⟨t, ht⟩ := bpre_pre (n := n) (j := j) (k := k) hj
 have := blks_len hn h
 rw [ht, List.length_append] at this
 omega

theorem blkRow_none (n a : Nat) : blkRow n a a = List.replicate n 0 := by
 unfold blkRow
 apply List.ext_getElem?
 intro i
 by_cases h : i < n
 ·simp [h] <;> omega
 ·simp [h]
theorem blkRow_set {n a i : Nat} (ha : a ≤ i) (hi : i < n) : (blkRow n a i).set i 1 = blkRow n a (i + 1) := by
 apply List.ext_getElem?
 intro k
 by_cases hk : k < n
 ·by_cases e : i = k
  ·subst e
   rw [List.getElem?_set_self (by rw [blkRow_length]; exact hi)]
   simp [blkRow, hk] <;> omega
  ·rw [List.getElem?_set_ne e]
   simp only [blkRow, List.getElem?_map, List.getElem?_range hk, Option.map_some]
   congr 1
   split <;> split <;> first | rfl | omega
 ·rw [List.getElem?_eq_none (by rw [List.length_set, blkRow_length]; omega), List.getElem?_eq_none (by rw [blkRow_length]; omega)]
theorem strat_length {kind : Int} {n : Nat} {r : List Int} (hr : r ∈ strat kind n) : r.length = n := by
 obtain ⟨a, b, _, _, rfl⟩ := strat_row hr
 exact blkRow_length _ _ _
theorem strat_bit {kind : Int} {n : Nat} {r : List Int} (hr : r ∈ strat kind n) (k : Nat) : r.getD k 0 = 0 ∨ r.getD k 0 = 1 := by
 obtain ⟨a, b, _, _, rfl⟩ := strat_row hr
 by_cases h : k < n
 ·rw [blkRow_get h]; split <;> simp
 ·left; simp [List.getD, blkRow, h]
end
section
set_option maxHeartbeats 2000000
open Go Go.Proofs Go.RowKit Go.Lib

def OwnIL (w : World) (B : Nat) (a : Option Addr) (n c : Nat) (l : List Int) : Prop := w.ownsRow B 3 1 (.slice a n c) n (ivs l)

theorem mrow_calls (n s t : Nat) (hn : n ≤ 1000) (ht : t ≤ n) (hs : s ≤ t) (w : World) :
  Calls Tryz.prog 40 #[.int .i64 (n : Nat), .int .i64 (s : Nat), .int .i64 (t : Nat)] w (Ret fun v w' => (∃ a c, v = .slice a n c ∧ OwnIL w' w.heap.size a n c (blkRow n s t)) ∧ Below w.heap.size w w') := by
 refine enter Tryz.func40 rfl Tryz.ntmps40 (Nat.le_of_ble_eq_true rfl) ?_
 refine dT rfl ?_
 refine mkn U rfl rfl rfl rfl rfl rfl rfl n rfl rfl (by omega) (by omega) w.heap.size (Nat.le_refl _) ?_
 intro a w1 ho1 hg1
 have hB1 : Below w.heap.size w w1 := (Below.refl _ _).grown hg1 (Nat.le_refl _) (fun k e => by cases e)
 rw [ivs_zero, ← blkRow_none n s] at ho1
 refine dT rfl ?_
 refine loopR (fun fr w' m => ∃ i : Nat, fr = [(0, .int .i64 (n : Nat)), (1, .int .i64 (s : Nat)), (2, .int .i64 (t : Nat)), (7, .slice a n n), (8, .int .i64 (i : Nat))] ∧ s ≤ i ∧ i ≤ t ∧ OwnIL w' w.heap.size a n n (blkRow n s i) ∧ Below w.heap.size w w' ∧ m = t - i)
  ⟨s, rfl, by omega, by omega, ho1, hB1, rfl⟩ ⟨rfl, rfl, rfl, rfl, rfl, trivial⟩ ?_
 rintro fr w2 m ⟨i, rfl, hsi, hit, ho, hB, rfl⟩
 refine dT rfl ?_
 refine cS rfl rfl rfl rfl (fun hq => ?_) (fun hq => ?_)
 ·have hlt : i < t := by omega
  refine dT rfl ?_
  refine is U (v := (.int .i64 1)) rfl rfl rfl rfl rfl rfl rfl (fun _ => rfl) (fun _ => rfl) (fun _ => rfl) rfl rfl i rfl (by omega) ho ?_
  intro p w3 ho3 hg3 hs3
  have hB3 := hB.grown hg3 hB.size (fun g e => (own_block ho g e).1)
  rw [ivs_set, blkRow_set hsi (by omega)] at ho3
  refine dS rfl ?_
  exact rend _ _ ⟨i + 1, rfl, by omega, by omega, ho3, hB3, rfl⟩ (by omega) ⟨rfl, rfl, rfl, rfl, iv (by omega), trivial⟩
 ·obtain rfl : i = t := by omega
  refine dT rfl ?_
  exact ret Tryz.results40 rfl ⟨_, rfl, ⟨_, _, rfl, ho⟩, hB⟩

theorem wth1_calls (x B : Int) (hB : 0 ≤ B ∧ B ≤ 1000000000000) (b : Nat) (w : World) (hk : Bk w b 3 [.int .i64 B]) :
  Calls Tryz.prog 77 #[.int .i64 x, .pointer (some ⟨b, 0, none⟩)] w (Ret fun v w' => v = .bool (decide (¬ (-B ≤ x ∧ x ≤ B))) ∧ w = w') := by
 refine enter Tryz.func77 rfl Tryz.ntmps77 (Nat.le_of_ble_eq_true rfl) ?_
 refine dT rfl ?_
 refine ld U rfl rfl rfl rfl ((hk).cell rfl) ?_
 refine dS rfl ?_
 refine cS rfl rfl rfl rfl (fun hq => ?_) (fun hq => ?_)
 ·refine dT rfl ?_
  exact ret Tryz.results77 rfl ⟨_, rfl, by rw [decide_eq_true (by omega)]; rfl, rfl⟩
 ·refine dT rfl ?_
  refine ld U rfl rfl rfl rfl ((hk).cell rfl) ?_
  refine cS rfl rfl rfl rfl (fun hq => ?_) (fun hq => ?_)
  ·refine dT rfl ?_
   exact ret Tryz.results77 rfl ⟨_, rfl, by rw [decide_eq_true (by omega)]; rfl, rfl⟩
  ·refine dT rfl ?_
   exact ret Tryz.results77 rfl ⟨_, rfl, by rw [decide_eq_false (by omega)]; rfl, rfl⟩
theorem wthI_calls (l : List Int) (B : Int) (hB : 0 ≤ B ∧ B ≤ 1000000000000) (hl : l.length ≤ 1099511627776) (a : Option Addr) (c b : Nat) (w : World) (hs : Sl w a (ivs l)) (hk : Bk w b 3 [.int .i64 B]) :
  Calls Tryz.prog 111 #[.slice a l.length c, .func (.func 77) ⟨[]⟩ ⟨[.pointer (some ⟨b, 0, none⟩)]⟩] w (Ret fun v w' => ((Wthn l B ∧ v = .int .i64 (-1)) ∨ (¬ Wthn l B ∧ ∃ i : Nat, v = .int .i64 (i : Nat))) ∧ w = w') := by
 refine enter Tryz.func111 rfl Tryz.ntmps111 (Nat.le_of_ble_eq_true rfl) ?_
 refine dT rfl ?_
 refine loopR (fun fr w' m => ∃ i : Nat, fr = [(0, .slice a l.length c), (1, .func (.func 77) ⟨[]⟩ ⟨[.pointer (some ⟨b, 0, none⟩)]⟩), (7, .int .i64 (l.length : Nat)), (8, .int .i64 (i : Nat))] ∧ i ≤ l.length ∧ (∀ j, j < i → -B ≤ l.getD j 0 ∧ l.getD j 0 ≤ B) ∧ w = w' ∧ m = l.length - i)
  ⟨0, rfl, by omega, fun j hj => absurd hj (by omega), rfl, rfl⟩ ⟨rfl, rfl, rfl, rfl, trivial⟩ ?_
 rintro fr w1 m ⟨i, rfl, hi, hin, rfl, rfl⟩
 refine dT rfl ?_
 refine cS rfl rfl rfl rfl (fun hq => ?_) (fun hq => ?_)
 ·have hil : i < l.length := by omega
  refine dT rfl ?_
  refine il U rfl rfl rfl rfl rfl rfl rfl (fun _ => rfl) rfl i rfl hil hs (ivs_get hil) ?_
  refine call (f := 77) rfl rfl cb77 (wth1_calls (l.getD i 0) B hB b w hk) ?_
  rintro v w2 ⟨rfl, rfl⟩
  refine ⟨_, rfl, ?_⟩
  by_cases h : -B ≤ l.getD i 0 ∧ l.getD i 0 ≤ B
  ·rw [decide_eq_false (fun e => e h)]
   refine dS rfl ?_
   refine rend _ _ ⟨i + 1, rfl, by omega, fun j hj => ?_, rfl, rfl⟩ (by omega) ⟨rfl, rfl, rfl, iv (by omega), trivial⟩
   rcases Nat.lt_succ_iff_lt_or_eq.1 hj with h' | rfl
   ·exact hin j h'
   ·exact h
  ·rw [decide_eq_true h]
   refine dT rfl ?_
   exact ret Tryz.results111 rfl ⟨_, rfl, .inr ⟨fun hw => h (hw _ (by simp [List.getD, hil])), i, rfl⟩, rfl⟩
 ·obtain rfl : i = l.length := by omega
  refine dT rfl ?_
  refine ret Tryz.results111 rfl ⟨_, rfl, .inl ⟨fun x hx => ?_, rfl⟩, rfl⟩
  obtain ⟨j, hj, rfl⟩ := List.getElem_of_mem hx
  have := hin j hj
  simpa [List.getD, hj] using this
theorem wthC_calls (l : List Int) (B : Int) (hB : 0 ≤ B ∧ B ≤ 1000000000000) (hl : l.length ≤ 1099511627776) (a : Option Addr) (c b : Nat) (w : World) (hs : Sl w a (ivs l)) (hk : Bk w b 3 [.int .i64 B]) :
  Calls Tryz.prog 76 #[.slice a l.length c, .func (.func 77) ⟨[]⟩ ⟨[.pointer (some ⟨b, 0, none⟩)]⟩] w (Ret fun v w' => v = .bool (decide (¬ Wthn l B)) ∧ w = w') := by
 refine enter Tryz.func76 rfl Tryz.ntmps76 (Nat.le_of_ble_eq_true rfl) ?_
 refine dT rfl ?_
 refine call (f := 111) rfl rfl cb111 (wthI_calls l B hB hl a c b w hs hk) ?_
 rintro v w1 ⟨h | h, rfl⟩
 ·obtain ⟨h, rfl⟩ := h
  refine ⟨_, rfl, ?_⟩
  refine cF rfl rfl rfl (by omega) ?_
  refine dT rfl ?_
  exact ret Tryz.results76 rfl ⟨_, rfl, by rw [decide_eq_false (fun e => e h)]; rfl, rfl⟩
 ·obtain ⟨h, i, rfl⟩ := h
  refine ⟨_, rfl, ?_⟩
  refine cT rfl rfl rfl (by omega) ?_
  refine dT rfl ?_
  exact ret Tryz.results76 rfl ⟨_, rfl, by rw [decide_eq_true h]; rfl, rfl⟩
theorem within_calls (l : List Int) (B : Int) (hB : 0 ≤ B ∧ B ≤ 1000000000000) (hl : l.length ≤ 1099511627776) (a : Option Addr) (c : Nat) (w : World) (hs : Sl w a (ivs l)) :
  Calls Tryz.prog 38 #[.slice a l.length c, .int .i64 B] w (Ret fun v w' => v = .bool (decide (Wthn l B)) ∧ Below w.heap.size w w') := by
 refine enter Tryz.func38 rfl Tryz.ntmps38 (Nat.le_of_ble_eq_true rfl) ?_
 refine dT rfl ?_
 refine bx rfl rfl rfl rfl ?_
 intro b1 wa hb1 hsa hk1 hga
 have hB0 : Below w.heap.size w wa := (Below.refl _ _).grown hga (Nat.le_refl _) (fun k e => by cases e)
 refine dT rfl ?_
 refine call (f := 76) rfl rfl cb76 (wthC_calls l B hB hl a c b1 wa (hs.stay hB0) hk1) ?_
 rintro v w1 ⟨rfl, rfl⟩
 refine ⟨_, rfl, ?_⟩
 by_cases hw : Wthn l B
 ·rw [decide_eq_false (not_not_intro hw), decide_eq_true hw]
  refine dT rfl ?_
  exact ret Tryz.results38 rfl ⟨_, rfl, rfl, hB0⟩
 ·rw [decide_eq_true hw, decide_eq_false hw]
  refine dT rfl ?_
  exact ret Tryz.results38 rfl ⟨_, rfl, rfl, hB0⟩
end
section
set_option maxHeartbeats 2000000
open Go Go.Proofs Go.RowKit Go.Lib

section
variable {xss : List (List Int)} {p : List Int → Prop} [DecidablePred p] {g : Nat} {lb : List Value} {J : World → Prop}
theorem cfI_calls (hJ : ∀ w w', J w → Below w.heap.size w w' → J w') (hcb : Callable Tryz.prog g)
  (hf : ∀ i A C w, i < xss.length → Sl w A (ivs (irow xss i)) → J w → Calls Tryz.prog g (Value.slice A (irow xss i).length C :: lb).toArray w (Ret fun v w' => v = .bool (decide (p (irow xss i))) ∧ Below w.heap.size w w'))
  (hl : xss.length ≤ 1099511627776) (a : Option Addr) (c : Nat) (w : World) (hs : SZ w a xss) (hj : J w) :
  Calls Tryz.prog 75 #[.slice a xss.length c, .func (.func g) ⟨[]⟩ ⟨lb⟩] w (Ret fun v w' => (((∀ r, r ∈ xss → ¬ p r) ∧ v = .int .i64 (-1)) ∨ ((∃ r, r ∈ xss ∧ p r) ∧ ∃ i : Nat, v = .int .i64 (i : Nat))) ∧ Below w.heap.size w w') := by
 refine enter Tryz.func75 rfl Tryz.ntmps75 (Nat.le_of_ble_eq_true rfl) ?_
 refine dT rfl ?_
 refine loopR (fun fr w' m => ∃ i : Nat, fr = [(0, .slice a xss.length c), (1, .func (.func g) ⟨[]⟩ ⟨lb⟩), (7, .int .i64 (xss.length : Nat)), (8, .int .i64 (i : Nat))] ∧ i ≤ xss.length ∧ (∀ j, j < i → ¬ p (irow xss j)) ∧ SZ w' a xss ∧ J w' ∧ Below w.heap.size w w' ∧ m = xss.length - i)
  ⟨0, rfl, by omega, fun j hj => absurd hj (by omega), hs, hj, Below.refl _ _, rfl⟩ ⟨rfl, rfl, rfl, rfl, trivial⟩ ?_
 rintro fr w1 m ⟨i, rfl, hi, hin, hs1, hj1, hB, rfl⟩
 refine dT rfl ?_
 refine cS rfl rfl rfl rfl (fun hq => ?_) (fun hq => ?_)
 ·have hil : i < xss.length := by omega
  have hs0 := hs1
  obtain ⟨A, C, hSl, hR⟩ := hs0
  refine dT rfl ?_
  refine il U rfl rfl rfl rfl rfl rfl rfl (fun _ => rfl) rfl i rfl hil hSl (irws_get hil) ?_
  refine call (f := g) rfl rfl hcb (hf i (A i) (C i) w1 hil (hR i hil) hj1) ?_
  rintro v w2 ⟨rfl, hB2⟩
  have hB2' := bl_tr hB hB2 hB.size
  refine ⟨_, rfl, ?_⟩
  by_cases h : p (irow xss i)
  ·rw [decide_eq_true h]
   refine dT rfl ?_
   exact ret Tryz.results75 rfl ⟨_, rfl, .inr ⟨⟨_, by unfold irow; simp [List.getD, hil], h⟩, i, rfl⟩, hB2'⟩
  ·rw [decide_eq_false h]
   refine dS rfl ?_
   refine rend _ _ ⟨i + 1, rfl, by omega, fun j hj => ?_, hs1.stay hB2, hJ _ _ hj1 hB2, hB2', rfl⟩ (by omega) ⟨rfl, rfl, rfl, iv (by omega), trivial⟩
   rcases Nat.lt_succ_iff_lt_or_eq.1 hj with h' | rfl
   ·exact hin j h'
   ·exact h
 ·obtain rfl : i = xss.length := by omega
  refine dT rfl ?_
  refine ret Tryz.results75 rfl ⟨_, rfl, .inl ⟨fun x hx => ?_, rfl⟩, hB⟩
  obtain ⟨j, hj, rfl⟩ := List.getElem_of_mem hx
  have := hin j hj
  simpa [irow, List.getD, hj] using this
theorem cfC_calls (hJ : ∀ w w', J w → Below w.heap.size w w' → J w') (hcb : Callable Tryz.prog g)
  (hf : ∀ i A C w, i < xss.length → Sl w A (ivs (irow xss i)) → J w → Calls Tryz.prog g (Value.slice A (irow xss i).length C :: lb).toArray w (Ret fun v w' => v = .bool (decide (p (irow xss i))) ∧ Below w.heap.size w w'))
  (hl : xss.length ≤ 1099511627776) (a : Option Addr) (c : Nat) (w : World) (hs : SZ w a xss) (hj : J w) :
  Calls Tryz.prog 36 #[.slice a xss.length c, .func (.func g) ⟨[]⟩ ⟨lb⟩] w (Ret fun v w' => v = .bool (decide (∃ r, r ∈ xss ∧ p r)) ∧ Below w.heap.size w w') := by
 refine enter Tryz.func36 rfl Tryz.ntmps36 (Nat.le_of_ble_eq_true rfl) ?_
 refine dT rfl ?_
 refine call (f := 75) rfl rfl cb75 (cfI_calls hJ hcb hf hl a c w hs hj) ?_
 rintro v w1 ⟨h | h, hB⟩
 ·obtain ⟨h, rfl⟩ := h
  refine ⟨_, rfl, ?_⟩
  refine cF rfl rfl rfl (by omega) ?_
  refine dT rfl ?_
  exact ret Tryz.results36 rfl ⟨_, rfl, by rw [decide_eq_false (fun ⟨r, h1, h2⟩ => h r h1 h2)]; rfl, hB⟩
 ·obtain ⟨h, i, rfl⟩ := h
  refine ⟨_, rfl, ?_⟩
  refine cT rfl rfl rfl (by omega) ?_
  refine dT rfl ?_
  exact ret Tryz.results36 rfl ⟨_, rfl, by rw [decide_eq_true h]; rfl, hB⟩
end

theorem ceq_calls (x y : Int) (w : World) : Calls Tryz.prog 81 #[.int .i64 x, .int .i64 y] w (Ret fun v w' => v = .bool (decide (x = y)) ∧ w = w') := by
 refine enter Tryz.func81 rfl Tryz.ntmps81 (Nat.le_of_ble_eq_true rfl) ?_
 refine dT rfl ?_
 refine cS rfl rfl rfl rfl (fun hq => ?_) (fun hq => ?_)
 ·refine dT rfl ?_
  exact ret Tryz.results81 rfl ⟨_, rfl, by rw [decide_eq_true (by omega)]; rfl, rfl⟩
 ·refine dT rfl ?_
  exact ret Tryz.results81 rfl ⟨_, rfl, by rw [decide_eq_false (by omega)]; rfl, rfl⟩
theorem ivs_eq {l m : List Int} (hlen : l.length = m.length) (h : ∀ j, j < l.length → l.getD j 0 = m.getD j 0) : l = m := by
 apply List.ext_getElem hlen
 intro j h1 h2
 have := h j h1
 simpa [List.getD, h1, h2] using this
theorem eqf_calls (l m : List Int) (hl : l.length ≤ 1099511627776) (hm : m.length ≤ 1099511627776) (a b : Option Addr) (c d : Nat) (w : World) (ha : Sl w a (ivs l)) (hb : Sl w b (ivs m)) :
  Calls Tryz.prog 80 #[.slice a l.length c, .slice b m.length d, .func (.func 81) ⟨[]⟩ ⟨[]⟩] w (Ret fun v w' => v = .bool (decide (l = m)) ∧ w = w') := by
 refine enter Tryz.func80 rfl Tryz.ntmps80 (Nat.le_of_ble_eq_true rfl) ?_
 refine dT rfl ?_
 refine cS rfl rfl rfl rfl (fun hq => ?_) (fun hq => ?_)
 ·refine dT rfl ?_
  exact ret Tryz.results80 rfl ⟨_, rfl, by rw [decide_eq_false (fun e => by rw [e] at hq; exact hq rfl)]; rfl, rfl⟩
 have hlen : l.length = m.length := by omega
 refine dT rfl ?_
 refine loopR (fun fr w' mm => ∃ i : Nat, fr = [(0, .slice a l.length c), (1, .slice b m.length d), (2, .func (.func 81) ⟨[]⟩ ⟨[]⟩), (15, .slice a l.length c), (16, .int .i64 (l.length : Nat)), (17, .int .i64 (i : Nat))] ∧ i ≤ l.length ∧ (∀ j, j < i → l.getD j 0 = m.getD j 0) ∧ w = w' ∧ mm = l.length - i)
  ⟨0, rfl, by omega, fun j hj => absurd hj (by omega), rfl, rfl⟩ ⟨rfl, rfl, rfl, rfl, rfl, rfl, trivial⟩ ?_
 rintro fr w1 mm ⟨i, rfl, hi, hin, rfl, rfl⟩
 refine dT rfl ?_
 refine cS rfl rfl rfl rfl (fun hq => ?_) (fun hq => ?_)
 ·have hil : i < l.length := by omega
  refine dT rfl ?_
  refine il U rfl rfl rfl rfl rfl rfl rfl (fun _ => rfl) rfl i rfl hil ha (ivs_get hil) ?_
  refine dT rfl ?_
  refine il U rfl rfl rfl rfl rfl rfl rfl (fun _ => rfl) rfl i rfl (by omega) hb (ivs_get (by omega)) ?_
  refine dT rfl ?_
  refine call (f := 81) rfl rfl cb81 (ceq_calls _ _ w) ?_
  rintro v w2 ⟨rfl, rfl⟩
  refine ⟨_, rfl, ?_⟩
  by_cases h : l.getD i 0 = m.getD i 0
  ·rw [decide_eq_true h]
   refine dS rfl ?_
   refine rend _ _ ⟨i + 1, rfl, by omega, fun j hj => ?_, rfl, rfl⟩ (by omega) ⟨rfl, rfl, rfl, rfl, rfl, iv (by omega), trivial⟩
   rcases Nat.lt_succ_iff_lt_or_eq.1 hj with h' | rfl
   ·exact hin j h'
   ·exact h
  ·rw [decide_eq_false h]
   refine dT rfl ?_
   exact ret Tryz.results80 rfl ⟨_, rfl, by rw [decide_eq_false (fun e => h (by rw [e]))]; rfl, rfl⟩
 ·obtain rfl : i = l.length := by omega
  refine dT rfl ?_
  exact ret Tryz.results80 rfl ⟨_, rfl, by rw [decide_eq_true (ivs_eq hlen hin)]; rfl, rfl⟩
theorem con1_calls (l r : List Int) (hl : l.length ≤ 1099511627776) (hr : r.length ≤ 1099511627776) (a b : Option Addr) (c d q : Nat) (w : World) (ha : Sl w a (ivs l)) (hb : Sl w b (ivs r)) (hk : Bk w q 23 [.slice b r.length d]) :
  Calls Tryz.prog 79 #[.slice a l.length c, .pointer (some ⟨q, 0, none⟩)] w (Ret fun v w' => v = .bool (decide (l = r)) ∧ Below w.heap.size w w') := by
 refine enter Tryz.func79 rfl Tryz.ntmps79 (Nat.le_of_ble_eq_true rfl) ?_
 refine dT rfl ?_
 refine ld U rfl rfl rfl rfl ((hk).cell rfl) ?_
 refine call (f := 80) rfl rfl cb80 (eqf_calls l r hl hr a b c d w ha hb) ?_
 rintro v w1 ⟨rfl, rfl⟩
 refine ⟨_, rfl, ?_⟩
 refine dT rfl ?_
 exact ret Tryz.results79 rfl ⟨_, rfl, rfl, Below.refl _ _⟩
theorem contains_calls (xss : List (List Int)) (r : List Int) (hx : xss.length ≤ 1099511627776) (hxl : ∀ i, i < xss.length → (irow xss i).length ≤ 1099511627776) (hr : r.length ≤ 1099511627776) (a b : Option Addr) (c d : Nat) (w : World) (ha : SZ w a xss) (hb : Sl w b (ivs r)) :
  Calls Tryz.prog 42 #[.slice a xss.length c, .slice b r.length d] w (Ret fun v w' => v = .bool (decide (r ∈ xss)) ∧ Below w.heap.size w w') := by
 refine enter Tryz.func42 rfl Tryz.ntmps42 (Nat.le_of_ble_eq_true rfl) ?_
 refine dT rfl ?_
 refine bx rfl rfl rfl rfl ?_
 intro b1 wa hb1 hsa hk1 hga
 have hB0 : Below w.heap.size w wa := (Below.refl _ _).grown hga (Nat.le_refl _) (fun k e => by cases e)
 refine dT rfl ?_
 refine call (f := 36) rfl rfl cb36 (cfC_calls (xss := xss) (p := fun x => x = r) (J := fun W => Bk W b1 23 [.slice b r.length d] ∧ Sl W b (ivs r)) (fun W W' h hB => ⟨h.1.below hB h.1.lt, h.2.stay hB⟩) cb79
  (fun i A C W hi hA h => con1_calls (irow xss i) r (hxl i hi) hr A b C d b1 W hA h.2 h.1) hx a c wa (ha.stay hB0) ⟨hk1, hb.stay hB0⟩) ?_
 rintro v w1 ⟨rfl, hB1⟩
 refine ⟨_, rfl, ?_⟩
 refine dT rfl ?_
 exact ret Tryz.results42 rfl ⟨_, rfl, by simp; rfl, bl_tr hB0 hB1 hB0.size⟩
end
section
set_option maxHeartbeats 1000000
open Go Go.Proofs Go.RowKit Go.Lib

def dotC (rows : List (List Int)) (i k : Nat) : Nat → Int
 | 0 => 0
 | j + 1 => dotC rows i k j + (irow rows j).getD i 0 * (irow rows j).getD k 0
theorem dotC_rat (rows : List (List Int)) (i k j : Nat) : ((dotC rows i k j : Int) : Rat) = sm j (fun t => trp (stM rows) i t * stM rows t k) := by
 induction j with
 | zero => rfl
 | succ j ih => rw [dotC, sm, ← ih, Rat.intCast_add, Rat.intCast_mul]; rfl
theorem nrm_int (rows : List (List Int)) (i k : Nat) : nrm rows i k = ((dotC rows i k rows.length : Int) : Rat) := (dotC_rat rows i k rows.length).symm
def Bits (rows : List (List Int)) : Prop := ∀ j k, (irow rows j).getD k 0 = 0 ∨ (irow rows j).getD k 0 = 1
theorem strat_bits (kind n : Int) : Bits (strat kind n) := by
 intro j k
 by_cases h0 : n < 1
 ·have : strat kind n = [] := by unfold strat; rw [if_pos (.inl h0)]
  rw [this]; left; simp [irow, List.getD]
 obtain ⟨m, rfl⟩ : ∃ m : Nat, n = (m : Int) := ⟨n.toNat, by omega⟩
 by_cases hj : j < (strat kind m).length
 ·have : irow (strat kind m) j ∈ strat kind m := by unfold irow; simp [List.getD, hj]
  exact strat_bit this k
 ·left; simp [irow, List.getD, hj]
theorem dotC_le {rows : List (List Int)} (h : Bits rows) (i k : Nat) : ∀ j, 0 ≤ dotC rows i k j ∧ dotC rows i k j ≤ j
 | 0 => by simp [dotC]
 | j + 1 => by
  have ih := dotC_le h i k j
  rw [dotC]
  rcases h j i with h1 | h1 <;> rcases h j k with h2 | h2 <;> rw [h1, h2] <;> push_cast <;> omega
def rhsI (rows : List (List Int)) (y : List Int) (i : Nat) : Nat → Int
 | 0 => 0
 | j + 1 => rhsI rows y i j + (irow rows j).getD i 0 * y.getD j 0
def rhs (rows : List (List Int)) (y : Nat → Rat) (i j : Nat) : Rat := sm j (fun t => trp (stM rows) i t * y t)
theorem rhs_succ (rows : List (List Int)) (y : Nat → Rat) (i j : Nat) : rhs rows y i (j + 1) = rhs rows y i j + (((irow rows j).getD i 0 : Int) : Rat) * y j := rfl
theorem rhs_int (rows : List (List Int)) (y : List Int) (i j : Nat) : rhs rows (ratsI y) i j = ((rhsI rows y i j : Int) : Rat) := by
 induction j with
 | zero => rfl
 | succ j ih => rw [rhsI, rhs_succ, ih, Rat.intCast_add, Rat.intCast_mul]; rfl
theorem rhsI_le {rows : List (List Int)} (h : Bits rows) {y : List Int} {B : Int} (hy : Wthn y B) (hB : 0 ≤ B) (i : Nat) : ∀ j : Nat, -((j : Int) * B) ≤ rhsI rows y i j ∧ rhsI rows y i j ≤ (j : Int) * B
 | 0 => by simp [rhsI]
 | j + 1 => by
  have ih := rhsI_le h hy hB i j
  have hb : -B ≤ y.getD j 0 ∧ y.getD j 0 ≤ B := by
   by_cases hj : j < y.length
   ·have : y.getD j 0 ∈ y := by simp [List.getD, hj]
    exact hy _ this
   ·have : y.getD j 0 = 0 := by simp [List.getD, hj]
    omega
  rw [rhsI]
  have e : ((j + 1 : Nat) : Int) * B = (j : Int) * B + B := by push_cast; rw [Int.add_mul, Int.one_mul]
  rw [e]
  rcases h j i with h1 | h1 <;> rw [h1] <;> omega
theorem isn_int {z : Int} {B : Nat} (h : z.natAbs ≤ B) : Isn B (z : Rat) := ⟨z, rfl, h⟩
theorem small_int {z : Int} {K : Nat} (h0 : 0 < K) (h : z.natAbs < 10 ^ K) : Small K (z : Rat) := by
 refine ⟨?_, ?_⟩
 ·rw [Rat.num_intCast]; exact nD_le _ _ h0 h
 ·rw [Rat.den_intCast, nDigits_small (by omega)]; omega
theorem isol_small {n : Nat} {f : Mx} {b x : Nat → Rat} {B E : Nat} (hn : 0 < n) (hf : ∀ i k, i < n → k < n → Isn B (f i k)) (hb : ∀ i, i < n → Isn B (b i)) (hfull : (gj n f n).2 = n) (hx : ∀ i, i < n → mapp n f x i = b i)
  (hE : fct n * B ^ n < 10 ^ E) (hE0 : 0 < E) : ∀ j, j < n → Small E (x j) := by
 obtain ⟨n, rfl⟩ : ∃ m, n = m + 1 := ⟨n - 1, by omega⟩
 obtain ⟨D, h1, h2, h3⟩ := cramer n f b x B hf hb hx (rank_full.1 hfull)
 intro j hj
 obtain ⟨N, h4, h5⟩ := h3 j hj
 exact frc_small h1 h2 h4 h5 hE hE0
theorem fct7 {n : Nat} (hn : n ≤ 7) : fct n ≤ 5040 := by
 have : n = 0 ∨ n = 1 ∨ n = 2 ∨ n = 3 ∨ n = 4 ∨ n = 5 ∨ n = 6 ∨ n = 7 := by omega
 rcases this with rfl | rfl | rfl | rfl | rfl | rfl | rfl | rfl <;> decide
theorem fpow_lt {n m B F E : Nat} (hn : n ≤ m) (hB : 1 ≤ B) (hF : fct n ≤ F) (h : F * B ^ m < 10 ^ E) : fct n * B ^ n < 10 ^ E :=
 Nat.lt_of_le_of_lt (Nat.mul_le_mul hF (Nat.pow_le_pow_right hB hn)) h
theorem tree_len7 {n : Nat} (hn : n ≤ 7) : (tree n).length ≤ 13 := by
 have : n = 0 ∨ n = 1 ∨ n = 2 ∨ n = 3 ∨ n = 4 ∨ n = 5 ∨ n = 6 ∨ n = 7 := by omega
 rcases this with rfl | rfl | rfl | rfl | rfl | rfl | rfl | rfl <;> decide +kernel
theorem strat_len_of {kind n : Int} {m K : Nat} (hn : n ≤ m) (hm : m ≤ K) (ht : ∀ k : Nat, k ≤ m → (tree k).length ≤ K) : (strat kind n).length ≤ K := by
 unfold strat
 split
 ·simp
 ·split
  ·rw [idRows_length]; omega
  ·split
   ·rw [preRows_length]; omega
   ·split
    ·exact ht _ (by omega)
    ·simp
theorem strat_len7 {kind n : Int} (hn : n ≤ 7) : (strat kind n).length ≤ 13 := strat_len_of (m := 7) hn (by omega) (fun k hk => tree_len7 hk)
theorem strat_len64 (kind n : Int) : (strat kind n).length ≤ 448 := by
 unfold strat
 split
 ·simp
 ·split
  ·rw [idRows_length]; omega
  ·split
   ·rw [preRows_length]; omega
   ·split
    ·exact Nat.le_trans (treeTo_len n.toNat (blks n.toNat)) (blks_len (by omega) (by omega))
    ·simp
theorem nrm_isn {kind n : Int} {B : Nat} (hB : (strat kind n).length ≤ B) (i k : Nat) : Isn B (nrm (strat kind n) i k) := by
 rw [nrm_int]
 have := dotC_le (strat_bits kind n) i k (strat kind n).length
 exact isn_int (by omega)
theorem rhs_isn {kind n : Int} {y : List Int} {B M K : Nat} (hl : (strat kind n).length ≤ M) (hy : Wthn y B) (hK : M * B ≤ K) (i j : Nat) (hj : j ≤ (strat kind n).length) : Isn K (rhs (strat kind n) (ratsI y) i j) := by
 rw [rhs_int]
 have h1 := rhsI_le (strat_bits kind n) hy (by omega) i j
 have h2 : (j : Int) * B ≤ (M * B : Nat) := by
  have := Nat.mul_le_mul_right B (Nat.le_trans hj hl)
  push_cast
  exact_mod_cast this
 exact isn_int (by omega)
theorem isn_small {x : Rat} {B K : Nat} (h : Isn B x) (h0 : 0 < K) (hB : B < 10 ^ K) : Small K x := by
 obtain ⟨z, rfl, hz⟩ := h
 exact small_int h0 (by omega)
theorem strat_reg {kind n : Int} (h : strat kind n ≠ []) : (gj n.toNat (nrm (strat kind n)) n.toNat).2 = n.toNat := by
 obtain ⟨⟨h1, h2⟩, h3⟩ := strat_kind h
 obtain ⟨m, rfl⟩ : ∃ m : Nat, n = (m : Int) := ⟨n.toNat, by omega⟩
 rw [Int.toNat_natCast]
 exact strat_rank h3 (by omega) (by omega)

def Rgd (n : Nat) (r : Int × Int) : Prop := 0 ≤ r.1 ∧ r.1 ≤ r.2 ∧ r.2 < n
instance (n : Nat) (r : Int × Int) : Decidable (Rgd n r) := by unfold Rgd; exact inferInstance
def rsum (x : Nat → Rat) (r : Int × Int) : Rat := sm (r.2 - r.1 + 1).toNat (fun j => x (r.1.toNat + j))
def AnsS (rs : List (Int × Int)) (xs : List Tx) (ys : List Tx) (e : Int) : Prop :=
 (e ≠ 0 ∧ VErr xs e ∧ ys = []) ∨ (VErr xs 0 ∧ 64 < rs.length ∧ ys = [] ∧ e = 4) ∨ (VErr xs 0 ∧ rs.length ≤ 64 ∧ (¬ ∀ r, r ∈ rs → Rgd xs.length r) ∧ ys = [] ∧ e = 2) ∨
 (VErr xs 0 ∧ rs.length ≤ 64 ∧ (∀ r, r ∈ rs → Rgd xs.length r) ∧ ys = rs.map (fun r => qtext (rsum (vval xs) r)) ∧ e = 0)
theorem AnsS.uniq {rs : List (Int × Int)} {xs ys ys' : List Tx} {e e' : Int} (h : AnsS rs xs ys e) (h' : AnsS rs xs ys' e') : ys = ys' ∧ e = e' := by
 rcases h with ⟨h1, h2, rfl⟩ | ⟨h1, h2, rfl, rfl⟩ | ⟨h1, h2, h3, rfl, rfl⟩ | ⟨h1, h2, h3, rfl, rfl⟩ <;>
 rcases h' with ⟨g1, g2, rfl⟩ | ⟨g1, g2, rfl, rfl⟩ | ⟨g1, g2, g3, rfl, rfl⟩ | ⟨g1, g2, g3, rfl, rfl⟩ <;>
 first | exact ⟨rfl, rfl⟩ | exact ⟨rfl, h2.uniq g2⟩ | exact absurd (h2.uniq g1) h1 | exact absurd (g2.uniq h1) g1 | omega | exact absurd g3 h3 | exact absurd h3 g3
def SpdS (kind n lo hi : Int) (t : Tx) (e : Int) : Prop :=
 ((strat kind n = [] ∨ ¬ Rgd n.toNat (lo, hi)) ∧ t = [] ∧ e = 2) ∨
 (strat kind n ≠ [] ∧ Rgd n.toNat (lo, hi) ∧ e = 0 ∧ ∃ z : Nat → Rat, (∀ k, k < n.toNat → mapp n.toNat (nrm (strat kind n)) z k = rgw lo.toNat hi.toNat k) ∧ t = qtext (sm n.toNat (fun k => rgw lo.toNat hi.toNat k * z k)))
theorem SpdS.uniq {kind n lo hi : Int} {t t' : Tx} {e e' : Int} (h : SpdS kind n lo hi t e) (h' : SpdS kind n lo hi t' e') : t = t' ∧ e = e' := by
 rcases h with ⟨h1, rfl, rfl⟩ | ⟨h1, h2, rfl, z, h3, rfl⟩ <;> rcases h' with ⟨g1, rfl, rfl⟩ | ⟨g1, g2, rfl, y, g3, rfl⟩
 ·exact ⟨rfl, rfl⟩
 ·rcases h1 with h1 | h1
  ·exact absurd h1 g1
  ·exact absurd g2 h1
 ·rcases g1 with g1 | g1
  ·exact absurd g1 h1
  ·exact absurd h2 g1
 ·refine ⟨?_, rfl⟩
  congr 1
  exact sm_congr fun k hk => by rw [sol_same (strat_reg h1) h3 g3 k hk]
end
section
set_option maxHeartbeats 1000000
open Go Go.Proofs Go.RowKit Go.Lib

theorem irow_mem {rows : List (List Int)} {i : Nat} (h : i < rows.length) : irow rows i ∈ rows := by unfold irow; simp [List.getD, h]
end
section
set_option maxHeartbeats 4000000
open Go Go.Proofs Go.RowKit Go.Lib

theorem OwnZ.ownB (B base : Nat) (a : Option Addr) (c : Nat) (xss : List (List Int)) : OwnB B (fun w => OwnZ w base a c xss) := fun W W' row h hg hr => by
 obtain ⟨A, C, h1, h2⟩ := h
 refine ⟨A, C, OwnB.own B _ _ _ _ _ _ _ W W' row h1 hg hr, fun i hi => ⟨OwnB.sl B _ _ W W' row (h2 i hi).1 hg hr, fun g hgg => ?_⟩⟩
 obtain ⟨cs, z, hc⟩ := (h2 i hi).2 g hgg
 exact ((h2 i hi).2 g hgg).grown hg (fun e => by
  obtain ⟨_, o, ho, hf⟩ := hr g e
  exact cells_ne ho hf hc rfl)
def rowsTo (g : Nat → List Int) (i : Nat) : List (List Int) := (List.range i).map g
theorem rowsTo_len (g : Nat → List Int) (i : Nat) : (rowsTo g i).length = i := by simp [rowsTo]
theorem rowsTo_snoc (g : Nat → List Int) (i : Nat) : rowsTo g i ++ [g i] = rowsTo g (i + 1) := by simp [rowsTo, List.range_succ]
def StratR (l : List (List Int)) (B : Nat) (v : Value) (w : World) : Prop := ∃ a c, v = .slice a l.length c ∧ OwnZ w B a c l ∧ (l = [] → a = none ∧ c = 0)
theorem StratR.stay {l : List (List Int)} {B : Nat} {v : Value} {w w' : World} (h : StratR l B v w) (hb : Below w.heap.size w w') : StratR l B v w' := by
 obtain ⟨a, c, h1, h2, h3⟩ := h
 exact ⟨a, c, h1, h2.stay hb, h3⟩
theorem StratR.nil (B : Nat) (w : World) : StratR [] B (.slice none 0 0) w := ⟨none, 0, rfl, OwnZ.nil w B, fun _ => ⟨rfl, rfl⟩⟩

theorem blocks_seq (n b1 : Nat) (hn0 : 0 < n) (hn : n ≤ 64) (G : World → Prop) (hG : ∀ w, G w → Bk w b1 3 [.int .i64 (n : Nat)]) :
  SeqN Tryz.prog 78 [.pointer (some ⟨b1, 0, none⟩)] (blks n).length (fun q vs => ∃ b : Nat × Nat, (blks n)[q]? = some b ∧ vs = [.int .i64 (b.1 : Nat), .int .i64 (b.2 : Nat)]) G := by
 intro L J Jx W hY h0 hg0
 refine enter Tryz.func78 rfl Tryz.ntmps78 (Nat.le_of_ble_eq_true rfl) ?_
 refine dT rfl ?_
 refine loopR (fun fr w' m => ∃ (j : Nat), fr = [(0, .func (.yield L) ⟨[]⟩ ⟨[]⟩), (1, .pointer (some ⟨b1, 0, none⟩)), (3, .int .i64 ((2 ^ j : Nat) : Int))] ∧ j ≤ lev n ∧ J (bpre n j 0).length w' ∧ G w' ∧ m = lev n - j)
  ⟨0, rfl, by omega, by rw [bpre_zero]; exact h0, hg0, rfl⟩ ⟨rfl, rfl, iv (by simp), trivial⟩ ?_
 rintro fr w1 m ⟨j, rfl, hj, hJ, hg, rfl⟩
 have hpl := pow_lev hn0 hn hj
 have hp0 := two_pos j
 have hps : 2 ^ (j + 1) = 2 * 2 ^ j := by rw [Nat.pow_succ]; omega
 have hlev := lev_lt (n := n) (j := j) hn0
 generalize hsz : 2 ^ j = s at *
 refine dT rfl ?_
 refine ld U rfl rfl rfl rfl ((hG _ hg).cell rfl) ?_
 refine dS rfl ?_
 refine cS rfl rfl rfl rfl (fun hq => ?_) (fun hq => ?_)
 ·have hjl : j < lev n := hlev.2 (by omega)
  refine dT rfl ?_
  refine loopR (fun fr w' m => ∃ (k : Nat), fr = [(0, .func (.yield L) ⟨[]⟩ ⟨[]⟩), (1, .pointer (some ⟨b1, 0, none⟩)), (3, .int .i64 (s : Nat)), (4, .int .i64 ((k * s : Nat) : Int))] ∧ k * s < n + s ∧ J (bpre n j k).length w' ∧ G w' ∧ m = n + s - k * s)
   ⟨0, rfl, by omega, hJ, hg, rfl⟩ ⟨rfl, rfl, rfl, iv (by omega), trivial⟩ ?_
  rintro fr w2 m ⟨k, rfl, hk, hJ2, hg2, rfl⟩
  have hat := bpre_at (n := n) (j := j) (k := k) hjl
  have hln := bpre_len (n := n) (j := j) (k := k)
  have hnx := bpre_next (n := n) (j := j) (k := k)
  have hks : (k + 1) * s = k * s + s := Nat.succ_mul k s
  rw [hsz] at hat hln hnx
  generalize hfr : k * s = from_ at *
  refine dT rfl ?_
  refine ld U rfl rfl rfl rfl ((hG _ hg2).cell rfl) ?_
  refine dT rfl ?_
  refine cS rfl rfl rfl rfl (fun hq => ?_) (fun hq => ?_)
  ·have hlt : from_ < n := by omega
   have hat := hat hlt
   have hln := hln hlt
   have hidx : (bpre n j k).length < (blks n).length := by
    rcases Nat.lt_or_ge (bpre n j k).length (blks n).length with h | h
    ·exact h
    ·rw [List.getElem?_eq_none h] at hat; cases hat
   refine dT rfl ?_
   refine ld U rfl rfl rfl rfl ((hG _ hg2).cell rfl) ?_
   refine dS rfl ?_
   refine yld rfl rfl (hY (bpre n j k).length w2 _ hidx hJ2 hg2 ⟨_, hat, ?_⟩) ?_
   ·show [Value.int .i64 (from_ : Int), Value.int .i64 (min (n : Int) ((from_ : Int) + (s : Int)))] = _
    rw [show (min (n : Int) ((from_ : Int) + (s : Int))) = ((min n (from_ + s) : Nat) : Int) by omega]
   rintro bb w3 ⟨h1, h2⟩
   refine ⟨_, rfl, ?_⟩
   cases bb with
   | true =>
    obtain ⟨hJ3, hg3⟩ := h1 rfl
    rw [← hln] at hJ3
    refine dS rfl ?_
    exact rend _ _ ⟨k + 1, rfl, by omega, hJ3, hg3, rfl⟩ (by omega) ⟨rfl, rfl, rfl, iv (by omega), trivial⟩
   | false =>
    refine dT rfl ?_
    exact ret Tryz.results78 rfl ⟨_, rfl, .inr (h2 rfl)⟩
  ·rw [hnx (by omega)] at hJ2
   refine dS rfl ?_
   exact rend _ _ ⟨j + 1, rfl, by omega, hJ2, hg2, rfl⟩ (by omega) ⟨rfl, rfl, iv (by omega), trivial⟩
 ·obtain rfl : j = lev n := by
   rcases Nat.lt_or_ge j (lev n) with h | h
   ·have := hlev.1 h; omega
   ·omega
  rw [bpre_all] at hJ
  refine dT rfl ?_
  exact retN Tryz.results78 rfl ⟨_, rfl, .inl hJ⟩
theorem blocks_calls (n : Nat) (w : World) : Calls Tryz.prog 41 #[.int .i64 (n : Nat)] w
  (Ret fun v w' => v = .func (.func 78) ⟨[]⟩ ⟨[.pointer (some ⟨w.heap.size, 0, none⟩)]⟩ ∧ w'.heap.size = w.heap.size + 1 ∧ Bk w' w.heap.size 3 [.int .i64 (n : Nat)] ∧ w.grownBy w' none) := by
 refine enter Tryz.func41 rfl Tryz.ntmps41 (Nat.le_of_ble_eq_true rfl) ?_
 refine dT rfl ?_
 refine bx rfl rfl rfl rfl ?_
 rintro b w1 rfl hs hb hg
 refine dT rfl ?_
 refine ret Tryz.results41 rfl ⟨_, rfl, rfl, hs, hb, hg⟩
end
end Go.Proofs.YtejlpdbiacmfcaaGreatDoor
