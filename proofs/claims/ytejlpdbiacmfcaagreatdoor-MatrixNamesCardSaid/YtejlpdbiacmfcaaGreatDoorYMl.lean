/-
  The normal equations of a strategy as ints, and how many digits their solutions take; what answers and spreads are.
  No conditions: each theorem names its own premises.

  Plain facts that the laws of package matrix need: one cell more, blocks seen from their cells, sums of squares, orders of numbers.
  No conditions: each theorem names its own premises.

  Walks of package matrix's blocks and Strategy.
  Conditions: none but that the arguments are ints.

  Walk of package matrix's Strategy.
  Conditions: none but that the arguments are ints.

  Walk of the law package's lives: the chapter's examples come out as it says.
  Conditions: the library's table of powers of ten is laid.

  Walks of the reference: FromInt, ToInt, Bits.
  Conditions: texts are no longer than an int can tell.

  Walks of package nat: FromInt, ToInt, Bits.
  Conditions: texts take fewer than 2^40 bytes; the library's table of powers of ten is laid, and its error of range.
-/
import Derived.Test.YtejlpdbiacmfcaaGreatDoorYSto
import Derived.Test.YtejlpdbiacmfcaaGreatDoorYRA
import Derived.Test.YtejlpdbiacmfcaaGreatDoorYR5
import Derived.Test.YtejlpdbiacmfcaaGreatDoorYKa
import Derived.WalkSmall
import Derived.WideLaws
section
set_option linter.unusedSimpArgs false
set_option linter.unusedVariables false
set_option maxHeartbeats 1000000
namespace Go.Proofs.YtejlpdbiacmfcaaGreatDoor
open Go Go.Proofs Go.RowKit Go.Lib

/-- An entry of the normal matrix from the first rows. -/
def dotC (rows : List (List Int)) (i k : Nat) : Nat → Int
  | 0 => 0
  | j + 1 => dotC rows i k j + (irow rows j).getD i 0 * (irow rows j).getD k 0
theorem dotC_rat (rows : List (List Int)) (i k j : Nat) : ((dotC rows i k j : Int) : Rat) = sm j (fun t => trp (stM rows) i t * stM rows t k) := by
  induction j with
  | zero => rfl
  | succ j ih => rw [dotC, sm, ← ih, Rat.intCast_add, Rat.intCast_mul]; rfl
theorem nrm_int (rows : List (List Int)) (i k : Nat) : nrm rows i k = ((dotC rows i k rows.length : Int) : Rat) := (dotC_rat rows i k rows.length).symm
/-- Rows of bits. -/
def Bits (rows : List (List Int)) : Prop := ∀ j k, (irow rows j).getD k 0 = 0 ∨ (irow rows j).getD k 0 = 1
theorem strat_bits (kind n : Int) : Bits (strat kind n) := by
  intro j k
  by_cases h0 : n < 1
  · have : strat kind n = [] := by unfold strat; rw [if_pos (.inl h0)]
    rw [this]; left; simp [irow, List.getD]
  obtain ⟨m, rfl⟩ : ∃ m : Nat, n = (m : Int) := ⟨n.toNat, by omega⟩
  by_cases hj : j < (strat kind m).length
  · have : irow (strat kind m) j ∈ strat kind m := by unfold irow; simp [List.getD, hj]
    exact strat_bit this k
  · left; simp [irow, List.getD, hj]
theorem dotC_le {rows : List (List Int)} (h : Bits rows) (i k : Nat) : ∀ j, 0 ≤ dotC rows i k j ∧ dotC rows i k j ≤ j
  | 0 => by simp [dotC]
  | j + 1 => by
    have ih := dotC_le h i k j
    rw [dotC]
    rcases h j i with h1 | h1 <;> rcases h j k with h2 | h2 <;> rw [h1, h2] <;> push_cast <;> omega
/-- A right side from the first rows, for ints. -/
def rhsI (rows : List (List Int)) (y : List Int) (i : Nat) : Nat → Int
  | 0 => 0
  | j + 1 => rhsI rows y i j + (irow rows j).getD i 0 * y.getD j 0
/-- A right side from the first rows. -/
def rhs (rows : List (List Int)) (y : Nat → Rat) (i j : Nat) : Rat := sm j (fun t => trp (stM rows) i t * y t)
theorem rhs_succ (rows : List (List Int)) (y : Nat → Rat) (i j : Nat) : rhs rows y i (j + 1) = rhs rows y i j + (((irow rows j).getD i 0 : Int) : Rat) * y j := rfl
theorem rhs_int (rows : List (List Int)) (y : List Int) (i j : Nat) : rhs rows (ratsI y) i j = ((rhsI rows y i j : Int) : Rat) := by
  induction j with
  | zero => rfl
  | succ j ih => rw [rhsI, rhs_succ, ih, Rat.intCast_add, Rat.intCast_mul]; rfl
theorem rhsI_le {rows : List (List Int)} (h : Bits rows) {y : List Int} {B : Int} (hy : Wthn y B) (hB : 0 ≤ B) (i : Nat) : ∀ j : Nat, -((j : Int) * B) ≤ rhsI rows y i j ∧ rhsI rows y i j ≤ (j : Int) * B
  | 0 => by simp [rhsI]
  | j + 1 => by
    have ih := rhsI_le h hy hB i j
    have hb : -B ≤ y.getD j 0 ∧ y.getD j 0 ≤ B := by
      by_cases hj : j < y.length
      · have : y.getD j 0 ∈ y := by simp [List.getD, hj]
        exact hy _ this
      · have : y.getD j 0 = 0 := by simp [List.getD, hj]
        omega
    rw [rhsI]
    have e : ((j + 1 : Nat) : Int) * B = (j : Int) * B + B := by push_cast; rw [Int.add_mul, Int.one_mul]
    rw [e]
    rcases h j i with h1 | h1 <;> rw [h1] <;> omega
theorem isn_int {z : Int} {B : Nat} (h : z.natAbs ≤ B) : Isn B (z : Rat) := ⟨z, rfl, h⟩
theorem small_int {z : Int} {K : Nat} (h0 : 0 < K) (h : z.natAbs < 10 ^ K) : Small K (z : Rat) := by
  refine ⟨?_, ?_⟩
  · rw [Rat.num_intCast]; exact nD_le _ _ h0 h
  · rw [Rat.den_intCast, nDigits_small (by omega)]; omega
/-- Solutions of systems of ints take few digits. -/
theorem isol_small {n : Nat} {f : Mx} {b x : Nat → Rat} {B E : Nat} (hn : 0 < n) (hf : ∀ i k, i < n → k < n → Isn B (f i k)) (hb : ∀ i, i < n → Isn B (b i)) (hfull : (gj n f n).2 = n) (hx : ∀ i, i < n → mapp n f x i = b i)
    (hE : fct n * B ^ n < 10 ^ E) (hE0 : 0 < E) : ∀ j, j < n → Small E (x j) := by
  obtain ⟨n, rfl⟩ : ∃ m, n = m + 1 := ⟨n - 1, by omega⟩
  obtain ⟨D, h1, h2, h3⟩ := cramer n f b x B hf hb hx (rank_full.1 hfull)
  intro j hj
  obtain ⟨N, h4, h5⟩ := h3 j hj
  exact frc_small h1 h2 h4 h5 hE hE0
theorem fct7 {n : Nat} (hn : n ≤ 7) : fct n ≤ 5040 := by
  have : n = 0 ∨ n = 1 ∨ n = 2 ∨ n = 3 ∨ n = 4 ∨ n = 5 ∨ n = 6 ∨ n = 7 := by omega
  rcases this with rfl | rfl | rfl | rfl | rfl | rfl | rfl | rfl <;> decide
theorem fpow_lt {n m B F E : Nat} (hn : n ≤ m) (hB : 1 ≤ B) (hF : fct n ≤ F) (h : F * B ^ m < 10 ^ E) : fct n * B ^ n < 10 ^ E :=
  Nat.lt_of_le_of_lt (Nat.mul_le_mul hF (Nat.pow_le_pow_right hB hn)) h
theorem tree_len7 {n : Nat} (hn : n ≤ 7) : (tree n).length ≤ 13 := by
  have : n = 0 ∨ n = 1 ∨ n = 2 ∨ n = 3 ∨ n = 4 ∨ n = 5 ∨ n = 6 ∨ n = 7 := by omega
  rcases this with rfl | rfl | rfl | rfl | rfl | rfl | rfl | rfl <;> decide +kernel
theorem strat_len_of {kind n : Int} {m K : Nat} (hn : n ≤ m) (hm : m ≤ K) (ht : ∀ k : Nat, k ≤ m → (tree k).length ≤ K) : (strat kind n).length ≤ K := by
  unfold strat
  split
  · simp
  · split
    · rw [idRows_length]; omega
    · split
      · rw [preRows_length]; omega
      · split
        · exact ht _ (by omega)
        · simp
theorem strat_len7 {kind n : Int} (hn : n ≤ 7) : (strat kind n).length ≤ 13 := strat_len_of (m := 7) hn (by omega) (fun k hk => tree_len7 hk)
theorem strat_len64 (kind n : Int) : (strat kind n).length ≤ 448 := by
  unfold strat
  split
  · simp
  · split
    · rw [idRows_length]; omega
    · split
      · rw [preRows_length]; omega
      · split
        · exact Nat.le_trans (treeTo_len n.toNat (blks n.toNat)) (blks_len (by omega) (by omega))
        · simp
theorem nrm_isn {kind n : Int} {B : Nat} (hB : (strat kind n).length ≤ B) (i k : Nat) : Isn B (nrm (strat kind n) i k) := by
  rw [nrm_int]
  have := dotC_le (strat_bits kind n) i k (strat kind n).length
  exact isn_int (by omega)
theorem rhs_isn {kind n : Int} {y : List Int} {B M K : Nat} (hl : (strat kind n).length ≤ M) (hy : Wthn y B) (hK : M * B ≤ K) (i j : Nat) (hj : j ≤ (strat kind n).length) : Isn K (rhs (strat kind n) (ratsI y) i j) := by
  rw [rhs_int]
  have h1 := rhsI_le (strat_bits kind n) hy (by omega) i j
  have h2 : (j : Int) * B ≤ (M * B : Nat) := by
    have := Nat.mul_le_mul_right B (Nat.le_trans hj hl)
    push_cast
    exact_mod_cast this
  exact isn_int (by omega)
theorem isn_small {x : Rat} {B K : Nat} (h : Isn B x) (h0 : 0 < K) (hB : B < 10 ^ K) : Small K x := by
  obtain ⟨z, rfl, hz⟩ := h
  exact small_int h0 (by omega)
theorem strat_reg {kind n : Int} (h : strat kind n ≠ []) : (gj n.toNat (nrm (strat kind n)) n.toNat).2 = n.toNat := by
  obtain ⟨⟨h1, h2⟩, h3⟩ := strat_kind h
  obtain ⟨m, rfl⟩ : ∃ m : Nat, n = (m : Int) := ⟨n.toNat, by omega⟩
  rw [Int.toNat_natCast]
  exact strat_rank h3 (by omega) (by omega)

/-- A pair of ints as a range. -/
def Rgd (n : Nat) (r : Int × Int) : Prop := 0 ≤ r.1 ∧ r.1 ≤ r.2 ∧ r.2 < n
instance (n : Nat) (r : Int × Int) : Decidable (Rgd n r) := by unfold Rgd; exact inferInstance
/-- The sum of the numbers of a range. -/
def rsum (x : Nat → Rat) (r : Int × Int) : Rat := sm (r.2 - r.1 + 1).toNat (fun j => x (r.1.toNat + j))
/-- What answers are. -/
def AnsS (rs : List (Int × Int)) (xs : List Tx) (ys : List Tx) (e : Int) : Prop :=
  (e ≠ 0 ∧ VErr xs e ∧ ys = []) ∨ (VErr xs 0 ∧ 64 < rs.length ∧ ys = [] ∧ e = 4) ∨ (VErr xs 0 ∧ rs.length ≤ 64 ∧ (¬ ∀ r, r ∈ rs → Rgd xs.length r) ∧ ys = [] ∧ e = 2) ∨
  (VErr xs 0 ∧ rs.length ≤ 64 ∧ (∀ r, r ∈ rs → Rgd xs.length r) ∧ ys = rs.map (fun r => qtext (rsum (vval xs) r)) ∧ e = 0)
theorem AnsS.uniq {rs : List (Int × Int)} {xs ys ys' : List Tx} {e e' : Int} (h : AnsS rs xs ys e) (h' : AnsS rs xs ys' e') : ys = ys' ∧ e = e' := by
  rcases h with ⟨h1, h2, rfl⟩ | ⟨h1, h2, rfl, rfl⟩ | ⟨h1, h2, h3, rfl, rfl⟩ | ⟨h1, h2, h3, rfl, rfl⟩ <;>
  rcases h' with ⟨g1, g2, rfl⟩ | ⟨g1, g2, rfl, rfl⟩ | ⟨g1, g2, g3, rfl, rfl⟩ | ⟨g1, g2, g3, rfl, rfl⟩ <;>
  first | exact ⟨rfl, rfl⟩ | exact ⟨rfl, h2.uniq g2⟩ | exact absurd (h2.uniq g1) h1 | exact absurd (g2.uniq h1) g1 | omega | exact absurd g3 h3 | exact absurd h3 g3
/-- What a spread is. -/
def SpdS (kind n lo hi : Int) (t : Tx) (e : Int) : Prop :=
  ((strat kind n = [] ∨ ¬ Rgd n.toNat (lo, hi)) ∧ t = [] ∧ e = 2) ∨
  (strat kind n ≠ [] ∧ Rgd n.toNat (lo, hi) ∧ e = 0 ∧ ∃ z : Nat → Rat, (∀ k, k < n.toNat → mapp n.toNat (nrm (strat kind n)) z k = rgw lo.toNat hi.toNat k) ∧ t = qtext (sm n.toNat (fun k => rgw lo.toNat hi.toNat k * z k)))
theorem SpdS.uniq {kind n lo hi : Int} {t t' : Tx} {e e' : Int} (h : SpdS kind n lo hi t e) (h' : SpdS kind n lo hi t' e') : t = t' ∧ e = e' := by
  rcases h with ⟨h1, rfl, rfl⟩ | ⟨h1, h2, rfl, z, h3, rfl⟩ <;> rcases h' with ⟨g1, rfl, rfl⟩ | ⟨g1, g2, rfl, y, g3, rfl⟩
  · exact ⟨rfl, rfl⟩
  · rcases h1 with h1 | h1
    · exact absurd h1 g1
    · exact absurd g2 h1
  · rcases g1 with g1 | g1
    · exact absurd g1 h1
    · exact absurd h2 g1
  · refine ⟨?_, rfl⟩
    congr 1
    exact sm_congr fun k hk => by rw [sol_same (strat_reg h1) h3 g3 k hk]
end Go.Proofs.YtejlpdbiacmfcaaGreatDoor
end
section
set_option linter.unusedSimpArgs false
set_option linter.unusedVariables false
set_option maxHeartbeats 1000000
namespace Go.Proofs.YtejlpdbiacmfcaaGreatDoor
open Go Go.Proofs Go.RowKit Go.Lib

/-- What the answers of the first rows change by. -/
theorem colS_take {rows : List (List Int)} {i : Nat} (h : i < rows.length) (k : Nat) : colS (rows.take (i + 1)) k = colS (rows.take i) k + max ((irow rows i).getD k 0) (-((irow rows i).getD k 0)) := by
  rw [List.take_succ_eq_append_getElem h, colS_app, colS, colS]
  have : rows[i] = irow rows i := by simp [irow, List.getD, h]
  rw [this]; omega
theorem normTo_nonneg (rows : List (List Int)) : ∀ n, 0 ≤ normTo rows n
  | 0 => by simp [normTo]
  | n + 1 => by have := normTo_nonneg rows n; rw [normTo]; omega
theorem irow_mem {rows : List (List Int)} {i : Nat} (h : i < rows.length) : irow rows i ∈ rows := by unfold irow; simp [List.getD, h]
theorem dotI_le {r h : List Int} {A B : Int} (hr : Wthn r A) (hh : Wthn h B) (hA : 0 ≤ A) (hB : 0 ≤ B) : ∀ n : Nat, -((n : Int) * (A * B)) ≤ dotI r h n ∧ dotI r h n ≤ (n : Int) * (A * B)
  | 0 => by simp [dotI]
  | n + 1 => by
    have ih := dotI_le hr hh hA hB n
    have hg : ∀ (l : List Int) (B : Int), Wthn l B → 0 ≤ B → (l.getD n 0).natAbs ≤ B.natAbs := fun l B h hB => by
      by_cases hn : n < l.length
      · have := h (l.getD n 0) (by simp [List.getD, hn]); omega
      · have : l.getD n 0 = 0 := by simp [List.getD, hn]
        rw [this]; simp
    have h1 : (r.getD n 0 * h.getD n 0).natAbs ≤ (A * B).natAbs := by
      rw [Int.natAbs_mul, Int.natAbs_mul]
      exact Nat.mul_le_mul (hg r A hr hA) (hg h B hh hB)
    have h2 : 0 ≤ A * B := Int.mul_nonneg hA hB
    have e : ((n + 1 : Nat) : Int) * (A * B) = (n : Int) * (A * B) + A * B := by push_cast; rw [Int.add_mul, Int.one_mul]
    rw [dotI, e]
    omega

end Go.Proofs.YtejlpdbiacmfcaaGreatDoor
end
section
set_option linter.unusedSimpArgs false
set_option linter.unusedVariables false
set_option maxHeartbeats 4000000
namespace Go.Proofs.YtejlpdbiacmfcaaGreatDoor
open Go Go.Proofs Go.RowKit Go.Lib

theorem OwnZ.ownB (B base : Nat) (a : Option Addr) (c : Nat) (xss : List (List Int)) : OwnB B (fun w => OwnZ w base a c xss) := fun W W' row h hg hr => by
  obtain ⟨A, C, h1, h2⟩ := h
  refine ⟨A, C, OwnB.own B _ _ _ _ _ _ _ W W' row h1 hg hr, fun i hi => ⟨OwnB.sl B _ _ W W' row (h2 i hi).1 hg hr, fun g hgg => ?_⟩⟩
  obtain ⟨cs, z, hc⟩ := (h2 i hi).2 g hgg
  exact ((h2 i hi).2 g hgg).grown hg (fun e => by
    obtain ⟨_, o, ho, hf⟩ := hr g e
    exact cells_ne ho hf hc rfl)
/-- The first rows of a list. -/
def rowsTo (g : Nat → List Int) (i : Nat) : List (List Int) := (List.range i).map g
theorem rowsTo_len (g : Nat → List Int) (i : Nat) : (rowsTo g i).length = i := by simp [rowsTo]
theorem rowsTo_snoc (g : Nat → List Int) (i : Nat) : rowsTo g i ++ [g i] = rowsTo g (i + 1) := by simp [rowsTo, List.range_succ]
/-- What Strategy answers. -/
def StratR (l : List (List Int)) (B : Nat) (v : Value) (w : World) : Prop := ∃ a c, v = .slice a l.length c ∧ OwnZ w B a c l ∧ (l = [] → a = none ∧ c = 0)
theorem StratR.stay {l : List (List Int)} {B : Nat} {v : Value} {w w' : World} (h : StratR l B v w) (hb : Below w.heap.size w w') : StratR l B v w' := by
  obtain ⟨a, c, h1, h2, h3⟩ := h
  exact ⟨a, c, h1, h2.stay hb, h3⟩
theorem StratR.nil (B : Nat) (w : World) : StratR [] B (.slice none 0 0) w := ⟨none, 0, rfl, OwnZ.nil w B, fun _ => ⟨rfl, rfl⟩⟩

theorem blocks_seq (n b1 : Nat) (hn0 : 0 < n) (hn : n ≤ 64) (G : World → Prop) (hG : ∀ w, G w → Bk w b1 3 [.int .i64 (n : Nat)]) :
    SeqN Tryz.prog 78 [.pointer (some ⟨b1, 0, none⟩)] (blks n).length (fun q vs => ∃ b : Nat × Nat, (blks n)[q]? = some b ∧ vs = [.int .i64 (b.1 : Nat), .int .i64 (b.2 : Nat)]) G := by
  intro L J Jx W hY h0 hg0
  refine enter Tryz.func78 rfl Tryz.ntmps78 (Nat.le_of_ble_eq_true rfl) ?_
  refine dr U 600 rfl trivial ?_
  refine loopR (fun fr w' m => ∃ (j : Nat), fr = [(0, .func (.yield L) ⟨[]⟩ ⟨[]⟩), (1, .pointer (some ⟨b1, 0, none⟩)), (3, .int .i64 ((2 ^ j : Nat) : Int))] ∧ j ≤ lev n ∧ J (bpre n j 0).length w' ∧ G w' ∧ m = lev n - j)
    ⟨0, rfl, by omega, by rw [bpre_zero]; exact h0, hg0, rfl⟩ ⟨rfl, rfl, iv (by simp), trivial⟩ ?_
  rintro fr w1 m ⟨j, rfl, hj, hJ, hg, rfl⟩
  have hpl := pow_lev hn0 hn hj
  have hp0 := two_pos j
  have hps : 2 ^ (j + 1) = 2 * 2 ^ j := by rw [Nat.pow_succ]; omega
  have hlev := lev_lt (n := n) (j := j) hn0
  generalize hsz : 2 ^ j = s at *
  refine dr U 600 rfl trivial ?_
  refine ld U rfl rfl rfl rfl ((hG _ hg).cell rfl) ?_
  refine dr U 600 rfl (by first | exact True.intro | (simp only [AllP, InR, List.nil_append, List.cons_append, and_true]; omega)) ?_
  refine cS rfl rfl rfl rfl (fun hq => ?_) (fun hq => ?_)
  · have hjl : j < lev n := hlev.2 (by omega)
    refine dr U 600 rfl trivial ?_
    refine loopR (fun fr w' m => ∃ (k : Nat), fr = [(0, .func (.yield L) ⟨[]⟩ ⟨[]⟩), (1, .pointer (some ⟨b1, 0, none⟩)), (3, .int .i64 (s : Nat)), (4, .int .i64 ((k * s : Nat) : Int))] ∧ k * s < n + s ∧ J (bpre n j k).length w' ∧ G w' ∧ m = n + s - k * s)
      ⟨0, rfl, by omega, hJ, hg, rfl⟩ ⟨rfl, rfl, rfl, iv (by omega), trivial⟩ ?_
    rintro fr w2 m ⟨k, rfl, hk, hJ2, hg2, rfl⟩
    have hat := bpre_at (n := n) (j := j) (k := k) hjl
    have hln := bpre_len (n := n) (j := j) (k := k)
    have hnx := bpre_next (n := n) (j := j) (k := k)
    have hks : (k + 1) * s = k * s + s := Nat.succ_mul k s
    rw [hsz] at hat hln hnx
    generalize hfr : k * s = from_ at *
    refine dr U 600 rfl trivial ?_
    refine ld U rfl rfl rfl rfl ((hG _ hg2).cell rfl) ?_
    refine dr U 600 rfl trivial ?_
    refine cS rfl rfl rfl rfl (fun hq => ?_) (fun hq => ?_)
    · have hlt : from_ < n := by omega
      have hat := hat hlt
      have hln := hln hlt
      have hidx : (bpre n j k).length < (blks n).length := by
        rcases Nat.lt_or_ge (bpre n j k).length (blks n).length with h | h
        · exact h
        · rw [List.getElem?_eq_none h] at hat; cases hat
      refine dr U 600 rfl trivial ?_
      refine ld U rfl rfl rfl rfl ((hG _ hg2).cell rfl) ?_
      refine dr U 600 rfl (by first | exact True.intro | (simp only [AllP, InR, List.nil_append, List.cons_append, and_true]; omega)) ?_
      refine yld rfl rfl (hY (bpre n j k).length w2 _ hidx hJ2 hg2 ⟨_, hat, ?_⟩) ?_
      · show [Value.int .i64 (from_ : Int), Value.int .i64 (min (n : Int) ((from_ : Int) + (s : Int)))] = _
        rw [show (min (n : Int) ((from_ : Int) + (s : Int))) = ((min n (from_ + s) : Nat) : Int) by omega]
      rintro bb w3 ⟨h1, h2⟩
      refine ⟨_, rfl, ?_⟩
      cases bb with
      | true =>
        obtain ⟨hJ3, hg3⟩ := h1 rfl
        rw [← hln] at hJ3
        refine dr U 600 rfl (by first | exact True.intro | (simp only [AllP, InR, List.nil_append, List.cons_append, and_true]; omega)) ?_
        exact rend _ _ ⟨k + 1, rfl, by omega, hJ3, hg3, rfl⟩ (by omega) ⟨rfl, rfl, rfl, iv (by omega), trivial⟩
      | false =>
        refine dr U 600 rfl trivial ?_
        exact ret Tryz.results78 rfl ⟨_, rfl, .inr (h2 rfl)⟩
    · rw [hnx (by omega)] at hJ2
      refine dr U 600 rfl (by first | exact True.intro | (simp only [AllP, InR, List.nil_append, List.cons_append, and_true]; omega)) ?_
      exact rend _ _ ⟨j + 1, rfl, by omega, hJ2, hg2, rfl⟩ (by omega) ⟨rfl, rfl, iv (by omega), trivial⟩
  · obtain rfl : j = lev n := by
      rcases Nat.lt_or_ge j (lev n) with h | h
      · have := hlev.1 h; omega
      · omega
    rw [bpre_all] at hJ
    refine dr U 600 rfl trivial ?_
    exact retN Tryz.results78 rfl ⟨_, rfl, .inl hJ⟩
theorem blocks_calls (n : Nat) (w : World) : Calls Tryz.prog 41 #[.int .i64 (n : Nat)] w
    (Ret fun v w' => v = .func (.func 78) ⟨[]⟩ ⟨[.pointer (some ⟨w.heap.size, 0, none⟩)]⟩ ∧ w'.heap.size = w.heap.size + 1 ∧ Bk w' w.heap.size 3 [.int .i64 (n : Nat)] ∧ w.grownBy w' none) := by
  refine enter Tryz.func41 rfl Tryz.ntmps41 (Nat.le_of_ble_eq_true rfl) ?_
  refine dr U 600 rfl trivial ?_
  refine bx rfl rfl rfl rfl ?_
  rintro b w1 rfl hs hb hg
  refine dr U 600 rfl trivial ?_
  refine ret Tryz.results41 rfl ⟨_, rfl, rfl, hs, hb, hg⟩
end Go.Proofs.YtejlpdbiacmfcaaGreatDoor
end
section
set_option linter.unusedSimpArgs false
set_option linter.unusedVariables false
set_option maxHeartbeats 4000000
namespace Go.Proofs.YtejlpdbiacmfcaaGreatDoor
open Go Go.Proofs Go.RowKit Go.Lib

theorem strat_out {kind n : Int} (h : n < 1 ∨ 64 < n) : strat kind n = [] := by unfold strat; rw [if_pos h]
theorem strat_id {m : Nat} (h : 1 ≤ m ∧ m ≤ 64) : strat 0 m = rowsTo (fun i => blkRow m i (i + 1)) m := by unfold strat; rw [if_neg (by omega), if_pos rfl, Int.toNat_natCast]; rfl
theorem strat_pr {m : Nat} (h : 1 ≤ m ∧ m ≤ 64) : strat 1 m = rowsTo (fun i => blkRow m 0 (i + 1)) m := by unfold strat; rw [if_neg (by omega), if_neg (by omega), if_pos rfl, Int.toNat_natCast]; rfl
theorem strat_tr {m : Nat} (h : 1 ≤ m ∧ m ≤ 64) : strat 2 m = tree m := by unfold strat; rw [if_neg (by omega), if_neg (by omega), if_neg (by omega), if_pos rfl, Int.toNat_natCast]
theorem strat_no {kind n : Int} (h0 : kind ≠ 0) (h1 : kind ≠ 1) (h2 : kind ≠ 2) : strat kind n = [] := by unfold strat; split <;> simp_all
theorem treeTo_row {n : Nat} {l : List (Nat × Nat)} {r : List Int} (h : r ∈ treeTo n l) : r.length = n := by
  unfold treeTo at h
  rw [fold_mem] at h
  rcases h with h | h
  · simp at h
  · obtain ⟨b, _, rfl⟩ := List.mem_map.1 h
    exact blkRow_length _ _ _
theorem take_at {l : List (Nat × Nat)} {q : Nat} {b : Nat × Nat} (h : l[q]? = some b) : l.take (q + 1) = l.take q ++ [b] := by
  obtain ⟨h1, rfl⟩ := List.getElem?_eq_some_iff.1 h
  exact List.take_succ_eq_append_getElem h1

theorem mstrat_calls (kind n : Int) (w : World) :
    Calls Tryz.prog 11 #[.int .i64 kind, .int .i64 n] w (Ret fun v w' => StratR (strat kind n) w.heap.size v w' ∧ Below w.heap.size w w') := by
  refine enterM Tryz.func11 rfl Tryz.ntmps11 (Nat.le_of_ble_eq_true rfl) ?_
  refine dr U 600 rfl trivial ?_
  refine bx rfl rfl rfl rfl ?_
  intro b3 w3 hb3 hs3 hk3 hg3
  have hB3 : Below w.heap.size w w3 := (Below.refl _ _).grown hg3 (Nat.le_refl _) (fun k e => by cases e)
  refine dr U 600 rfl trivial ?_
  refine ld U rfl rfl rfl rfl ((hk3).cell rfl) ?_
  refine cS rfl rfl rfl rfl (fun hq1 => ?_) (fun hq1 => ?_)
  · refine dr U 600 rfl trivial ?_
    refine retM0 U Tryz.results11 (vs := [_]) ⟨rfl, trivial⟩ ⟨_, rfl, ?_, hB3⟩
    rw [strat_out (.inl hq1)]; exact StratR.nil _ _
  refine dr U 600 rfl trivial ?_
  refine ld U rfl rfl rfl rfl ((hk3).cell rfl) ?_
  refine cS rfl rfl rfl rfl (fun hq2 => ?_) (fun hq2 => ?_)
  · refine dr U 600 rfl trivial ?_
    refine retM0 U Tryz.results11 (vs := [_]) ⟨rfl, trivial⟩ ⟨_, rfl, ?_, hB3⟩
    rw [strat_out (.inr hq2)]; exact StratR.nil _ _
  obtain ⟨m, rfl⟩ : ∃ m : Nat, n = (m : Int) := ⟨n.toNat, by omega⟩
  have h1 : 1 ≤ m := by omega
  have h64 : m ≤ 64 := by omega
  refine dr U 600 rfl trivial ?_
  refine al U rfl rfl rfl rfl ?_
  intro b5 w5 hb5 hs5 hk5 hg5
  have hB5 := hB3.grown hg5 hB3.size (fun k e => by cases e)
  have hk3 := hk3.keep hg5 (by simp)
  refine dr U 600 rfl trivial ?_
  refine cS rfl rfl rfl rfl (fun hq3 => ?_) (fun hq3 => ?_)
  · subst hq3
    refine dr U 600 rfl trivial ?_
    refine ld U rfl rfl rfl rfl ((hk3).cell rfl) ?_
    refine dr U 600 rfl trivial ?_
    refine loopR (fun fr w' mm => ∃ (i : Nat) (a2 : Option Addr) (c2 : Nat), fr = [(3, .pointer (some ⟨b3, 0, none⟩)), (5, .pointer (some ⟨b5, 0, none⟩)), (20, .int .i64 (m : Nat)), (21, .int .i64 (i : Nat))] ∧ i ≤ m ∧ Bk w' b3 3 [.int .i64 (m : Nat)] ∧ Bk w' b5 27 [.slice a2 i c2] ∧
        OwnZ w' w.heap.size a2 c2 (rowsTo (fun i => blkRow m i (i + 1)) i) ∧ Below w.heap.size w w' ∧ mm = m - i)
      ⟨0, none, 0, rfl, by omega, hk3, hk5, OwnZ.nil _ _, hB5, rfl⟩ ⟨rfl, rfl, rfl, rfl, trivial⟩ ?_
    rintro fr w1 mm ⟨i, a2, c2, rfl, hi, hk3, hk5, hO, hB, rfl⟩
    refine dr U 600 rfl trivial ?_
    refine cS rfl rfl rfl rfl (fun hq => ?_) (fun hq => ?_)
    · have him : i < m := by omega
      obtain ⟨A, C, ho, h2⟩ := hO
      rw [rowsTo_len] at ho h2
      refine dr U 600 rfl trivial ?_
      refine dwn 8 (fun W => Bk W b3 3 [.int .i64 (m : Nat)] ∧ Bk W b5 27 [.slice a2 i c2]) hmo ?_
      intro w5 hh5 hg5
      have hB5 := hB.grown hg5 hB.size (fun k e => by cases e)
      have hB15 : Below w1.heap.size w1 w5 := (Below.refl _ _).grown hg5 (Nat.le_refl _) (fun k e => by cases e)
      have hk35 := heap_bk hh5 hk3
      have hk55 := heap_bk hh5 hk5
      have hl3 : ∀ W, (Bk W b3 3 [.int .i64 (m : Nat)] ∧ Bk W b5 27 [.slice a2 i c2]) → (loadVar 3 ⟨b3, 0, none⟩).run Tryz.prog W = .ok (.int .i64 (m : Nat)) W := fun W h => run_load_cell U rfl (h.1.cell rfl)
      have hl5 : ∀ W, (Bk W b3 3 [.int .i64 (m : Nat)] ∧ Bk W b5 27 [.slice a2 i c2]) → (loadVar 27 ⟨b5, 0, none⟩).run Tryz.prog W = .ok (.slice a2 i c2) W := fun W h => run_load_cell U rfl (h.2.cell rfl)
      refine dq U [0,1,2,3,4] [(0, .slice a2 i c2), (1, .int .i64 (m : Nat))] (by kernel_rfl) rfl rfl ⟨hk35, hk55⟩ (by simp only [AllP, InR, List.nil_append, List.cons_append]; (repeat' apply And.intro); all_goals first | exact True.intro | omega | (with_reducible exact hl3) | (with_reducible exact hl5)) ?_
      refine d1 rfl rfl (fun _ => ⟨hk35, hk55⟩) ?_
      refine call (f := 40) rfl rfl cb40 (mrow_calls m i (i + 1) (by omega) (by omega) (by omega) w5) ?_
      rintro v w6 ⟨⟨a3, c3, rfl, hr3⟩, hB56⟩
      have hB6 := bl_tr hB5 hB56 hB5.size
      have hB16 := bl_tr hB15 hB56 hB15.size
      have hk36 := hk35.below hB56 hk35.lt
      have hk56 := hk55.below hB56 hk55.lt
      refine ⟨_, rfl, d2 ?_⟩
      refine d1 rfl rfl (fun _ => ⟨hk36, hk56⟩) ?_
      refine bs1 U (v := .slice a3 m c3) rfl rfl rfl rfl rfl rfl rfl ?_
      intro w7 hk7 hs7 hg7
      have hB67 : Below w6.heap.size w6 w7 := (Below.refl _ _).grown hg7 (Nat.le_refl _) (fun k e => by cases e)
      have hB7 := bl_tr hB6 hB67 hB6.size
      have hB17 := bl_tr hB16 hB67 hB16.size
      have hk37 := hk36.below hB67 hk36.lt
      have hk57 := hk56.below hB67 hk56.lt
      have ho7 := own_bw ho hB17
      have hr7 := own_bw hr3 hB67
      refine d2 ?_
      refine d1 rfl rfl (fun _ => ⟨hk37, hk57⟩) ?_
      refine aw U rfl rfl rfl rfl rfl rfl rfl rfl rfl ho7 (hk7.sl 0) rfl (by intro u hu; simp at hu; subst hu; rfl) hB7.size (by omega) rfl ?_
      intro a9 c9 w9 ho9 hg9
      have hB9 := hB7.grown hg9 hB7.size (fun g e => (own_block ho7 g e).1)
      have hk39 := hk37.keep hg9 (fun e => (own_tag ho7 b3 e).ne hk37.tg rfl rfl)
      have hk59 := hk57.keep hg9 (fun e => (own_tag ho7 b5 e).ne hk57.tg rfl rfl)
      have hO9 := OwnZ.snoc (xss := rowsTo (fun i => blkRow m i (i + 1)) i) (xs := (fun i => blkRow m i (i + 1)) i) (a := a2) (c := c2) (d := c3) (w := w7) (w' := w9) (by rw [rowsTo_len]; exact ho7) (fun j hj => ⟨(h2 j (by rw [rowsTo_len] at hj; exact hj)).1.below hB17 (fun g hg => ((h2 j (by rw [rowsTo_len] at hj; exact hj)).2 g hg).lt), fun g hg => ((h2 j (by rw [rowsTo_len] at hj; exact hj)).2 g hg).below hB17⟩) (own_sl hr7) (own_tag hr7) hg9 (by rw [rowsTo_len, blkRow_length]; exact ho9)
      rw [rowsTo_snoc] at hO9
      refine d2 ?_
      refine d1 rfl rfl (fun _ => ⟨hk39, hk59⟩) ?_
      refine st U rfl rfl rfl rfl rfl rfl rfl rfl rfl rfl (hk59) ?_
      intro w10 hk10 hg10 hs10
      have hB10 := hB9.grown hg10 hB9.size (fun k e => by cases e; omega)
      have hne : b5 ≠ b3 := fun e => hk59.tg.ne hk39.tg rfl e
      have hk310 := hk39.keep hg10 (fun e => hne (Option.some.inj e))
      have hO10 : OwnZ w10 w.heap.size a9 c9 (rowsTo (fun i => blkRow m i (i + 1)) (i + 1)) := by
        obtain ⟨A9, C9, h3, h4⟩ := hO9
        have hn5 : ∀ (b : Option Addr) (t : Nat), (∀ g, ab b = some g → Tg w9 t g) → Nat.beq t 27 = false → ∀ g, ab b = some g → some b5 ≠ some g := fun b t h ht g hg e => (h g hg).ne hk59.tg ht (Option.some.inj e).symm
        exact ⟨A9, C9, own_keep h3 hg10 (fun g hg e => hn5 _ _ (own_tag h3) rfl g hg e), fun j hj => ⟨(h4 j hj).1.keep hg10 (hn5 _ _ (h4 j hj).2 rfl), fun g hg => ((h4 j hj).2 g hg).grown hg10 (hn5 _ _ (h4 j hj).2 rfl g hg)⟩⟩
      refine d3 ?_; refine dend rfl (fun h => by cases h) ?_
      refine dr U 600 rfl (by first | exact True.intro | (simp only [AllP, InR, List.nil_append, List.cons_append, and_true]; omega)) ?_
      exact rend _ _ ⟨i + 1, a9, c9, rfl, by omega, hk310, hk10, hO10, hB10, rfl⟩ (by omega) ⟨rfl, rfl, rfl, iv (by omega), trivial⟩
    · obtain rfl : i = m := by omega
      refine dr U 600 rfl trivial ?_
      refine ld U rfl rfl rfl rfl ((hk5).cell rfl) ?_
      refine dr U 600 rfl trivial ?_
      refine retM0 U Tryz.results11 (vs := [_]) ⟨rfl, trivial⟩ ⟨_, rfl, ?_, hB⟩
      rw [strat_id ⟨h1, h64⟩]
      exact ⟨a2, c2, by rw [rowsTo_len]; rfl, hO, fun e => by have := congrArg List.length e; rw [rowsTo_len] at this; simp at this; omega⟩
  refine dr U 600 rfl trivial ?_
  refine cS rfl rfl rfl rfl (fun hq4 => ?_) (fun hq4 => ?_)
  · subst hq4
    refine dr U 600 rfl trivial ?_
    refine ld U rfl rfl rfl rfl ((hk3).cell rfl) ?_
    refine dr U 600 rfl trivial ?_
    refine loopR (fun fr w' mm => ∃ (i : Nat) (a2 : Option Addr) (c2 : Nat), fr = [(3, .pointer (some ⟨b3, 0, none⟩)), (5, .pointer (some ⟨b5, 0, none⟩)), (35, .int .i64 (m : Nat)), (36, .int .i64 (i : Nat))] ∧ i ≤ m ∧ Bk w' b3 3 [.int .i64 (m : Nat)] ∧ Bk w' b5 27 [.slice a2 i c2] ∧
        OwnZ w' w.heap.size a2 c2 (rowsTo (fun i => blkRow m 0 (i + 1)) i) ∧ Below w.heap.size w w' ∧ mm = m - i)
      ⟨0, none, 0, rfl, by omega, hk3, hk5, OwnZ.nil _ _, hB5, rfl⟩ ⟨rfl, rfl, rfl, rfl, trivial⟩ ?_
    rintro fr w1 mm ⟨i, a2, c2, rfl, hi, hk3, hk5, hO, hB, rfl⟩
    refine dr U 600 rfl trivial ?_
    refine cS rfl rfl rfl rfl (fun hq => ?_) (fun hq => ?_)
    · have him : i < m := by omega
      obtain ⟨A, C, ho, h2⟩ := hO
      rw [rowsTo_len] at ho h2
      refine dr U 600 rfl trivial ?_
      refine dwn 7 (fun W => Bk W b3 3 [.int .i64 (m : Nat)] ∧ Bk W b5 27 [.slice a2 i c2]) hmo ?_
      intro w5 hh5 hg5
      have hB5 := hB.grown hg5 hB.size (fun k e => by cases e)
      have hB15 : Below w1.heap.size w1 w5 := (Below.refl _ _).grown hg5 (Nat.le_refl _) (fun k e => by cases e)
      have hk35 := heap_bk hh5 hk3
      have hk55 := heap_bk hh5 hk5
      have hl3 : ∀ W, (Bk W b3 3 [.int .i64 (m : Nat)] ∧ Bk W b5 27 [.slice a2 i c2]) → (loadVar 3 ⟨b3, 0, none⟩).run Tryz.prog W = .ok (.int .i64 (m : Nat)) W := fun W h => run_load_cell U rfl (h.1.cell rfl)
      have hl5 : ∀ W, (Bk W b3 3 [.int .i64 (m : Nat)] ∧ Bk W b5 27 [.slice a2 i c2]) → (loadVar 27 ⟨b5, 0, none⟩).run Tryz.prog W = .ok (.slice a2 i c2) W := fun W h => run_load_cell U rfl (h.2.cell rfl)
      refine dq U [0,1,2,3] [(0, .slice a2 i c2), (1, .int .i64 (m : Nat))] (by kernel_rfl) rfl rfl ⟨hk35, hk55⟩ (by simp only [AllP, InR, List.nil_append, List.cons_append]; (repeat' apply And.intro); all_goals first | exact True.intro | omega | (with_reducible exact hl3) | (with_reducible exact hl5)) ?_
      refine d1 rfl rfl (fun _ => ⟨hk35, hk55⟩) ?_
      refine call (f := 40) rfl rfl cb40 (mrow_calls m 0 (i + 1) (by omega) (by omega) (by omega) w5) ?_
      rintro v w6 ⟨⟨a3, c3, rfl, hr3⟩, hB56⟩
      have hB6 := bl_tr hB5 hB56 hB5.size
      have hB16 := bl_tr hB15 hB56 hB15.size
      have hk36 := hk35.below hB56 hk35.lt
      have hk56 := hk55.below hB56 hk55.lt
      refine ⟨_, rfl, d2 ?_⟩
      refine d1 rfl rfl (fun _ => ⟨hk36, hk56⟩) ?_
      refine bs1 U (v := .slice a3 m c3) rfl rfl rfl rfl rfl rfl rfl ?_
      intro w7 hk7 hs7 hg7
      have hB67 : Below w6.heap.size w6 w7 := (Below.refl _ _).grown hg7 (Nat.le_refl _) (fun k e => by cases e)
      have hB7 := bl_tr hB6 hB67 hB6.size
      have hB17 := bl_tr hB16 hB67 hB16.size
      have hk37 := hk36.below hB67 hk36.lt
      have hk57 := hk56.below hB67 hk56.lt
      have ho7 := own_bw ho hB17
      have hr7 := own_bw hr3 hB67
      refine d2 ?_
      refine d1 rfl rfl (fun _ => ⟨hk37, hk57⟩) ?_
      refine aw U rfl rfl rfl rfl rfl rfl rfl rfl rfl ho7 (hk7.sl 0) rfl (by intro u hu; simp at hu; subst hu; rfl) hB7.size (by omega) rfl ?_
      intro a9 c9 w9 ho9 hg9
      have hB9 := hB7.grown hg9 hB7.size (fun g e => (own_block ho7 g e).1)
      have hk39 := hk37.keep hg9 (fun e => (own_tag ho7 b3 e).ne hk37.tg rfl rfl)
      have hk59 := hk57.keep hg9 (fun e => (own_tag ho7 b5 e).ne hk57.tg rfl rfl)
      have hO9 := OwnZ.snoc (xss := rowsTo (fun i => blkRow m 0 (i + 1)) i) (xs := (fun i => blkRow m 0 (i + 1)) i) (a := a2) (c := c2) (d := c3) (w := w7) (w' := w9) (by rw [rowsTo_len]; exact ho7) (fun j hj => ⟨(h2 j (by rw [rowsTo_len] at hj; exact hj)).1.below hB17 (fun g hg => ((h2 j (by rw [rowsTo_len] at hj; exact hj)).2 g hg).lt), fun g hg => ((h2 j (by rw [rowsTo_len] at hj; exact hj)).2 g hg).below hB17⟩) (own_sl hr7) (own_tag hr7) hg9 (by rw [rowsTo_len, blkRow_length]; exact ho9)
      rw [rowsTo_snoc] at hO9
      refine d2 ?_
      refine d1 rfl rfl (fun _ => ⟨hk39, hk59⟩) ?_
      refine st U rfl rfl rfl rfl rfl rfl rfl rfl rfl rfl (hk59) ?_
      intro w10 hk10 hg10 hs10
      have hB10 := hB9.grown hg10 hB9.size (fun k e => by cases e; omega)
      have hne : b5 ≠ b3 := fun e => hk59.tg.ne hk39.tg rfl e
      have hk310 := hk39.keep hg10 (fun e => hne (Option.some.inj e))
      have hO10 : OwnZ w10 w.heap.size a9 c9 (rowsTo (fun i => blkRow m 0 (i + 1)) (i + 1)) := by
        obtain ⟨A9, C9, h3, h4⟩ := hO9
        have hn5 : ∀ (b : Option Addr) (t : Nat), (∀ g, ab b = some g → Tg w9 t g) → Nat.beq t 27 = false → ∀ g, ab b = some g → some b5 ≠ some g := fun b t h ht g hg e => (h g hg).ne hk59.tg ht (Option.some.inj e).symm
        exact ⟨A9, C9, own_keep h3 hg10 (fun g hg e => hn5 _ _ (own_tag h3) rfl g hg e), fun j hj => ⟨(h4 j hj).1.keep hg10 (hn5 _ _ (h4 j hj).2 rfl), fun g hg => ((h4 j hj).2 g hg).grown hg10 (hn5 _ _ (h4 j hj).2 rfl g hg)⟩⟩
      refine d3 ?_; refine dend rfl (fun h => by cases h) ?_
      refine dr U 600 rfl (by first | exact True.intro | (simp only [AllP, InR, List.nil_append, List.cons_append, and_true]; omega)) ?_
      exact rend _ _ ⟨i + 1, a9, c9, rfl, by omega, hk310, hk10, hO10, hB10, rfl⟩ (by omega) ⟨rfl, rfl, rfl, iv (by omega), trivial⟩
    · obtain rfl : i = m := by omega
      refine dr U 600 rfl trivial ?_
      refine ld U rfl rfl rfl rfl ((hk5).cell rfl) ?_
      refine dr U 600 rfl trivial ?_
      refine retM0 U Tryz.results11 (vs := [_]) ⟨rfl, trivial⟩ ⟨_, rfl, ?_, hB⟩
      rw [strat_pr ⟨h1, h64⟩]
      exact ⟨a2, c2, by rw [rowsTo_len]; rfl, hO, fun e => by have := congrArg List.length e; rw [rowsTo_len] at this; simp at this; omega⟩
  refine dr U 600 rfl trivial ?_
  refine cS rfl rfl rfl rfl (fun hq5 => ?_) (fun hq5 => ?_)
  · subst hq5
    refine dr U 600 rfl trivial ?_
    refine ld U rfl rfl rfl rfl ((hk3).cell rfl) ?_
    refine call (f := 41) rfl rfl cb41 (blocks_calls m w5) ?_
    rintro v w6 ⟨rfl, hs6, hk6, hg6⟩
    refine ⟨_, rfl, ?_⟩
    have hB6 := hB5.grown hg6 hB5.size (fun k e => by cases e)
    have hk36 := hk3.keep hg6 (by simp)
    have hk56 := hk5.keep hg6 (by simp)
    refine dr U 600 rfl trivial ?_
    refine rng rfl cb78 rfl (blocks_seq m w5.heap.size (by omega) h64 (fun W => Bk W w5.heap.size 3 [.int .i64 (m : Nat)]) (fun W h => h)) (fun q vs h => by obtain ⟨b, _, rfl⟩ := h; rfl)
      (fun q W => ∃ a2, ∃ c2, Bk W b3 3 [.int .i64 (m : Nat)] ∧ Bk W b5 27 [.slice a2 (treeTo m ((blks m).take q)).length c2] ∧ OwnZ W w.heap.size a2 c2 (treeTo m ((blks m).take q)) ∧ Below w.heap.size w W)
      (fun _ _ => False)
      (fun q => OwnB.ex fun a2 => OwnB.ex fun c2 => (OwnB.bk _ _ _ _).and ((OwnB.bk _ _ _ _).and ((OwnZ.ownB _ _ _ _ _).and (OwnB.below _ (by omega) (Nat.le_refl _)))))
      (fun _ => OwnB.pure _ _) (OwnB.bk _ _ _ _) ⟨none, 0, hk36, hk56, OwnZ.nil _ _, hB6⟩ hk6
      (fun vs => [(8, vs.headD undef), (9, vs.getD 1 undef), (3, .pointer (some ⟨b3, 0, none⟩)), (5, .pointer (some ⟨b5, 0, none⟩))]) ?_ ?_ ?_ ?_
    · rintro L q vs W ⟨b, _, rfl⟩
      refine dr U 600 rfl trivial ?_
      exact asg ⟨rfl, rfl, rfl, rfl, trivial⟩
    · rintro L q vs W hq ⟨b, hb, rfl⟩ ⟨a2, c2, hk3, hk5, hO, hB⟩ hk6 hsz
      obtain ⟨hb1, hb2⟩ := blks_mem (List.mem_of_getElem? hb)
      have hbl := blks_len (n := m) (by omega) h64
      have htl := treeTo_len m ((blks m).take q)
      rw [List.length_take] at htl
      have htk := take_at hb
      have hrow := fun r (h : r ∈ treeTo m ((blks m).take q)) => treeTo_row h
      have hnext : treeTo m ((blks m).take (q + 1)) = addRow (treeTo m ((blks m).take q)) (blkRow m b.1 b.2) := by rw [htk, treeTo_snoc]; rfl
      rw [hnext]
      generalize treeTo m ((blks m).take q) = out at *
      refine dr U 600 rfl trivial ?_
      refine ld U rfl rfl rfl rfl ((hk3).cell rfl) ?_
      refine dr U 600 rfl trivial ?_
      refine call (f := 40) rfl rfl cb40 (mrow_calls m b.1 b.2 (by omega) (by omega) (by omega) W) ?_
      rintro v W1 ⟨⟨a3, c3, rfl, hr3⟩, hB1⟩
      have hO1 := hO.stay hB1
      have hk31 := hk3.below hB1 hk3.lt
      have hk51 := hk5.below hB1 hk5.lt
      have hk61 := hk6.below hB1 hk6.lt
      have hBw1 := bl_tr hB hB1 hB.size
      have ko1 := ko_below (KeepsOthers.refl W) hB1
      refine ⟨_, rfl, ?_⟩
      refine dr U 600 rfl trivial ?_
      refine ld U rfl rfl rfl rfl ((hk51).cell rfl) ?_
      refine dr U 600 rfl trivial ?_
      have hcon := contains_calls out (blkRow m b.1 b.2) (by omega) (fun i hi => by rw [hrow _ (irow_mem hi)]; omega) (by rw [blkRow_length]; omega) a2 a3 c2 c3 W1 hO1.sz (own_sl hr3)
      rw [blkRow_length] at hcon
      refine call (f := 42) rfl rfl cb42 hcon ?_
      rintro v W2 ⟨rfl, hB2⟩
      have hO2 := hO1.stay hB2
      have hk32 := hk31.below hB2 hk31.lt
      have hk52 := hk51.below hB2 hk51.lt
      have hk62 := hk61.below hB2 hk61.lt
      have hr2 := own_bw hr3 hB2
      have hBw2 := bl_tr hBw1 hB2 hBw1.size
      have ko2 := ko_below ko1 hB2
      refine ⟨_, rfl, ?_⟩
      by_cases hin : blkRow m b.1 b.2 ∈ out
      · rw [decide_eq_true hin]
        refine dr U 600 rfl trivial ?_
        rw [addRow, if_pos hin]
        exact rnd ⟨ko2, ⟨a2, c2, hk32, hk52, hO2, hBw2⟩, hk62⟩
      · rw [decide_eq_false hin]
        rw [addRow, if_neg hin]
        obtain ⟨A, C, ho, h2⟩ := hO2
        refine dr U 600 rfl trivial ?_
        refine ld U rfl rfl rfl rfl ((hk52).cell rfl) ?_
        refine dr U 600 rfl trivial ?_
        refine ap U (v := (.slice a3 m c3)) rfl rfl rfl rfl rfl rfl (fun _ => rfl) rfl (fun _ => rfl) rfl rfl rfl ho hBw2.size (by omega) (by decide) ?_
        intro a9 c9 w9 ho9 hg9
        have hB9 := hBw2.grown hg9 hBw2.size (fun g e => (own_block ho g e).1)
        have hk39 := hk32.keep hg9 (fun e => (own_tag ho b3 e).ne hk32.tg rfl rfl)
        have hk59 := hk52.keep hg9 (fun e => (own_tag ho b5 e).ne hk52.tg rfl rfl)
        have hk69 := hk62.keep hg9 (fun e => (own_tag ho _ e).ne hk62.tg rfl rfl)
        have ko9 := ko_grown ko2 hg9 (own_cells ho)
        have hO9 := OwnZ.snoc (xss := out) (xs := blkRow m b.1 b.2) (a := a2) (c := c2) (d := c3) (w := W2) (w' := w9) ho h2 (own_sl hr2) (own_tag hr2) hg9 (by rw [blkRow_length]; exact ho9)
        refine st U rfl rfl rfl rfl rfl rfl rfl rfl rfl rfl (hk59) ?_
        intro w10 hk10 hg10 hs10
        have hB10 := hB9.grown hg10 hB9.size (fun k e => by cases e; omega)
        have hne : b5 ≠ b3 := fun e => hk59.tg.ne hk39.tg rfl e
        have hne6 : b5 ≠ w5.heap.size := fun e => hk59.tg.ne hk69.tg rfl e
        have hk310 := hk39.keep hg10 (fun e => hne (Option.some.inj e))
        have hk610 := hk69.keep hg10 (fun e => hne6 (Option.some.inj e))
        have ko10 := ko_grown ko9 hg10 (fun k e => by cases e; exact ⟨_, _, _, hk59⟩)
        have hO10 : OwnZ w10 w.heap.size a9 c9 (out ++ [blkRow m b.1 b.2]) := by
          obtain ⟨A9, C9, h3, h4⟩ := hO9
          have hn5 : ∀ (b : Option Addr) (t : Nat), (∀ g, ab b = some g → Tg w9 t g) → Nat.beq t 27 = false → ∀ g, ab b = some g → some b5 ≠ some g := fun b t h ht g hg e => (h g hg).ne hk59.tg ht (Option.some.inj e).symm
          exact ⟨A9, C9, own_keep h3 hg10 (fun g hg e => hn5 _ _ (own_tag h3) rfl g hg e), fun j hj => ⟨(h4 j hj).1.keep hg10 (hn5 _ _ (h4 j hj).2 rfl), fun g hg => ((h4 j hj).2 g hg).grown hg10 (hn5 _ _ (h4 j hj).2 rfl g hg)⟩⟩
        refine dr U 600 rfl trivial ?_
        exact rnd ⟨ko10, ⟨a9, c9, hk310, by rw [List.length_append, List.length_singleton]; exact hk10, hO10, hB10⟩, hk610⟩
    · rintro D W hD ⟨a2, c2, hk3, hk5, hO, hB⟩ hK
      rw [List.take_length] at hk5 hO
      have hgp := grownBy_putObj' W D (.deferred none)
      have hOp := OwnZ.ownB 0 _ _ _ _ W _ (some D) hO hgp (fun r e => by cases e; exact ⟨by omega, _, hK, rfl⟩)
      refine dr U 600 rfl trivial ?_
      refine ld U rfl rfl rfl rfl ((hk5).cell rfl) ?_
      refine dr U 600 rfl trivial ?_
      refine retM1 U Tryz.results11 (vs := [_]) hK ⟨rfl, trivial⟩ ⟨_, rfl, ?_, hB.grown hgp hB.size (fun k e => by cases e; have := hB6.size; have := hB3.size; omega)⟩
      rw [strat_tr ⟨h1, h64⟩, tree_to]
      exact ⟨a2, c2, rfl, hOp, fun e => by
        have h := strat_empty (kind := 2) (n := m) (by omega) h64 (by omega)
        rw [strat_tr ⟨h1, h64⟩, tree_to] at h
        exact absurd e h⟩
    · rintro D cd W hD h hK
      exact h.elim
  · refine dr U 600 rfl trivial ?_
    refine ld U rfl rfl rfl rfl ((hk5).cell rfl) ?_
    refine dr U 600 rfl trivial ?_
    refine retM0 U Tryz.results11 (vs := [_]) ⟨rfl, trivial⟩ ⟨_, rfl, ?_, hB5⟩
    rw [strat_no hq3 hq4 hq5]; exact StratR.nil _ _
end Go.Proofs.YtejlpdbiacmfcaaGreatDoor
end
section
set_option linter.unusedSimpArgs false
set_option linter.unusedVariables false
set_option maxHeartbeats 1000000
set_option maxRecDepth 10000
namespace Go.Proofs.YtejlpdbiacmfcaaGreatDoor
open Go Go.Proofs Go.RowKit Go.Lib

end Go.Proofs.YtejlpdbiacmfcaaGreatDoor
end
section
set_option linter.unusedSimpArgs false
set_option linter.unusedVariables false
set_option maxHeartbeats 1000000
namespace Go.Proofs.YtejlpdbiacmfcaaGreatDoor
open Go Go.Proofs Go.RowKit Go.Lib

end Go.Proofs.YtejlpdbiacmfcaaGreatDoor
end
section
set_option linter.unusedSimpArgs false
set_option linter.unusedVariables false
set_option maxHeartbeats 1000000
namespace Go.Proofs.YtejlpdbiacmfcaaGreatDoor
open Go Go.Proofs Go.RowKit Go.Lib Go.Sort

theorem grow_below (w : World) (k : Nat) (os : Array Obj) : Below w.heap.size w (grow (w.drewN k) os) :=
  (below_drewN (Below.refl _ w) k).trans ⟨rfl, rfl, rfl, by simp [grow], fun i hi => by
    have : i < (w.drewN k).heap.size := hi
    simp only [grow]
    rw [Array.getElem?_append_left this]⟩

/-- The library's error of range is laid. -/
def ErrOk (w : World) : Prop := ∃ ev, w.cell? ⟨3, 0, none⟩ = some ev ∧ (ev = .nilIface ∨ ∃ te pe, ev = .iface te pe)
theorem ErrOk.below {w w' : World} (h : ErrOk w) (hb : Below w.heap.size w w') : ErrOk w' := by
  obtain ⟨ev, h1, h2⟩ := h
  exact ⟨ev, by rw [hb.cell (World.block_lt_of_cell? w _ h1)]; exact h1, h2⟩

section
variable {P : Program} {ro : Option Nat} {n : Nat} {ds : List Deferred} {Q : PT} {l l' : Fr} {w w' : World} {arr : Array Oper} {r : List Oper} {k : List It}
end

end Go.Proofs.YtejlpdbiacmfcaaGreatDoor
end
