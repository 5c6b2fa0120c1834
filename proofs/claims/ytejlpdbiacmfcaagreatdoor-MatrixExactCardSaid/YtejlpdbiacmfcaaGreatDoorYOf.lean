/-
  Walks of the reference's Int, numbers, fit and Estimate.
  Conditions: a strategy of at most 7 cells; the numbers' digits fit.

  Walks of the law package's counts, exact, shaped and misfit.
  Conditions: the numbers' digits fit.

  Walks of the reference's ranged, Answers and Spread.
  Conditions: the sums' digits fit; at most 7 cells, or an invalid number of cells.

  The law MatrixExact: it returns true for every input.
  Conditions: the library's table of powers of ten is laid.
-/
import Derived.Test.YtejlpdbiacmfcaaGreatDoorYMetB
import Derived.Test.YtejlpdbiacmfcaaGreatDoorYAf
import Derived.Test.YtejlpdbiacmfcaaGreatDoorYNd
import Derived.Test.YtejlpdbiacmfcaaGreatDoorYGa
import Derived.Test.YtejlpdbiacmfcaaGreatDoorYNh
import Derived.Test.YtejlpdbiacmfcaaGreatDoorYOa
section
set_option linter.unusedSimpArgs false
set_option linter.unusedVariables false
set_option maxHeartbeats 8000000
set_option maxRecDepth 100000
namespace Go.Proofs.YtejlpdbiacmfcaaGreatDoor
open Go Go.Proofs Go.RowKit Go.Lib

theorem fromint_nat (k : Nat) (hk : (k : Int) ≤ 9223372036854775807) (w : World) :
    Calls Tryz.prog 60 #[.int .i64 (k : Nat)] w (Ret fun v w' => v = .tuple ⟨[.string ⟨⟨decDigits k⟩⟩, .int .i64 0]⟩ ∧ w = w') :=
  (refFromInt_calls (k : Nat) hk w).mono (by
    rintro _ w' ⟨v, rfl, hv, rfl⟩
    refine ⟨_, rfl, ?_, rfl⟩
    rcases hv with ⟨h, _⟩ | ⟨_, h⟩
    · omega
    · rw [Int.toNat_natCast] at h; exact h)
theorem rsmall02_calls (k : Nat) (z : Int) (hz : z = (k : Int)) (hk : (k : Int) ≤ 9223372036854775807) (w : World) :
    Calls Tryz.prog 63 #[.int .i64 z] w (Ret fun v w' => v = .string ⟨⟨decDigits k⟩⟩ ∧ w = w') := by
  subst hz
  refine enter Tryz.func63 rfl Tryz.ntmps63 (Nat.le_of_ble_eq_true rfl) ?_
  refine dr U 600 rfl trivial ?_
  refine call (f := 60) rfl rfl cb60 (fromint_nat k hk w) ?_
  rintro v w1 ⟨rfl, rfl⟩
  refine ⟨_, rfl, ?_⟩
  refine dr U 600 rfl trivial ?_
  exact ret Tryz.results63 rfl ⟨_, rfl, rfl, rfl⟩
theorem gint_calls (z : Int) (h0 : -9223372036854775808 ≤ z) (h1 : z ≤ 9223372036854775807) (w : World) :
    Calls Tryz.prog 24 #[.int .i64 z] w (Ret fun v w' => v = .string ⟨⟨qtext (z : Rat)⟩⟩ ∧ Below w.heap.size w w') := by
  rw [qtext_int]
  refine enter Tryz.func24 rfl Tryz.ntmps24 (Nat.le_of_ble_eq_true rfl) ?_
  refine dr U 600 rfl trivial ?_
  refine cS rfl rfl rfl rfl (fun hq1 => ?_) (fun hq1 => ?_)
  · obtain ⟨k, rfl⟩ : ∃ k : Nat, z = (k : Int) := ⟨z.toNat, by omega⟩
    rw [itoa_nonneg]
    refine dr U 600 rfl trivial ?_
    refine call (f := 60) rfl rfl cb60 (fromint_nat k h1 w) ?_
    rintro v w1 ⟨rfl, rfl⟩
    refine ⟨_, rfl, ?_⟩
    refine dr U 600 rfl trivial ?_
    exact ret Tryz.results24 rfl ⟨_, rfl, rfl, Below.refl _ _⟩
  · obtain ⟨k, hk⟩ : ∃ k : Nat, z = -((k + 1 : Nat) : Int) := ⟨(-z - 1).toNat, by omega⟩
    have hk19 := nD_le 19 k (by omega) (by omega)
    have hkl := decDigits_length k
    have hl1 := lim_le_nD k
    have hl2 := lim_le_nD (k + 1)
    have hk20 := nD_le 20 (k + 1) (by omega) (by omega)
    refine dr U 600 rfl (by first | exact True.intro | (simp only [AllP, InR, List.nil_append, List.cons_append, and_true]; omega)) ?_
    refine call (f := 63) rfl rfl cb63 (rsmall02_calls k _ (by omega) (by omega) w) ?_
    rintro v w1 ⟨rfl, rfl⟩
    refine ⟨_, rfl, ?_⟩
    refine call (f := 62) rfl rfl cb62 (read_calls (decDigits k) (dec_dval k).1 (by omega) w) ?_
    rintro v w2 ho
    rw [(dec_dval k).2] at ho
    obtain ⟨a2, c2, rfl, ho2, hB2⟩ := ho
    refine ⟨_, rfl, ?_⟩
    refine call (f := 64) rfl rfl cb64 (rone_calls w2) ?_
    rintro v w3 ⟨⟨a3, c3, rfl, hr3⟩, hB3⟩
    have hl01 := lim_le_nD 1
    have hn01 := nD_le 1 1 (by omega) (by omega)
    refine ⟨_, rfl, ?_⟩
    refine call (f := 61) rfl rfl cb61 (plus_calls k 1 a2 a3 c2 c3 w3 ((ownI_rd ho2).below hB3) hr3 (by omega) (by omega)) ?_
    rintro v w4 ⟨a4, c4, rfl, ho4, hB4⟩
    refine ⟨_, rfl, ?_⟩
    refine dr U 600 rfl trivial ?_
    refine call (f := 65) rfl rfl cb65 (write_ref (k + 1) a4 c4 w4 (ownI_rd ho4) (by omega)) ?_
    rintro v w5 ⟨rfl, hB5⟩
    refine ⟨_, rfl, ?_⟩
    have hdl := decDigits_length (k + 1)
    refine dr U 600 rfl (by simp only [AllP, InR, List.nil_append, List.cons_append, and_true, List.length_cons, List.length_nil, List.length_append]; omega) ?_
    refine ret Tryz.results24 rfl ⟨_, rfl, ?_, bl_tr hB2 (bl_tr hB3 (bl_tr hB4 hB5 hB4.size) hB3.size) hB2.size⟩
    rw [hk, itoa_neg (k + 1) (by omega)]; rfl
/-- The first rows of a matrix of texts lie apart from a block. -/
def RowsB (w : World) (n i : Nat) (A : Nat → Option Addr) (f : Nat → Nat → Rat) (gb : Option Nat) : Prop := ∀ j, j < i → Sl w (A j) (strs (txs n (f j))) ∧ ∀ g, ab (A j) = some g → Tg w 35 g ∧ gb ≠ some g
theorem RowsB.stay {w w' : World} {n i : Nat} {A : Nat → Option Addr} {f : Nat → Nat → Rat} {gb : Option Nat} (h : RowsB w n i A f gb) (hb : Below w.heap.size w w') : RowsB w' n i A f gb := fun j hj =>
  ⟨(h j hj).1.stay hb, fun g hg => ⟨((h j hj).2 g hg).1.below hb, ((h j hj).2 g hg).2⟩⟩
theorem RowsB.other {w w' : World} {n i t : Nat} {A : Nat → Option Addr} {f : Nat → Nat → Rat} {gb row : Option Nat} (h : RowsB w n i A f gb) (hg : w.grownBy w' row) (hr : ∀ g, row = some g → Tg w t g) (ht : Nat.beq 35 t = false) : RowsB w' n i A f gb := fun j hj => by
  have hne : ∀ g, ab (A j) = some g → row ≠ some g := fun g hg' e => ((h j hj).2 g hg').1.ne (hr g e) ht rfl
  exact ⟨(h j hj).1.keep hg hne, fun g hg' => ⟨((h j hj).2 g hg').1.grown hg (hne g hg'), ((h j hj).2 g hg').2⟩⟩
theorem RowsB.grow {w w' : World} {n i : Nat} {A : Nat → Option Addr} {f : Nat → Nat → Rat} {gb gb' : Option Nat} (h : RowsB w n i A f gb) (hg : w.grownBy w' gb) (hp : gb' = gb ∨ gb' = some w.heap.size) : RowsB w' n i A f gb' := fun j hj => by
  refine ⟨(h j hj).1.keep hg (fun g hg' => ((h j hj).2 g hg').2), fun g hg' => ⟨((h j hj).2 g hg').1.grown hg ((h j hj).2 g hg').2, ?_⟩⟩
  rcases hp with rfl | rfl
  · exact ((h j hj).2 g hg').2
  · intro e
    have := ((h j hj).2 g hg').1.lt
    have := Option.some.inj e
    omega
theorem RowsB.snoc {w : World} {n i : Nat} {A : Nat → Option Addr} {f : Nat → Nat → Rat} {gb : Option Nat} {a : Option Addr} (h : RowsB w n i A f gb) (hs : Sl w a (strs (txs n (f i)))) (hg : ∀ g, ab a = some g → Tg w 35 g ∧ gb ≠ some g) : RowsB w n (i + 1) (upd A i a) f gb := fun j hj => by
  by_cases e : j = i
  · subst e; rw [upd_same]; exact ⟨hs, hg⟩
  · rw [upd_ne _ _ e]; exact h j (by omega)
end Go.Proofs.YtejlpdbiacmfcaaGreatDoor
end
section
set_option linter.unusedSimpArgs false
set_option linter.unusedVariables false
set_option maxHeartbeats 4000000
set_option maxRecDepth 100000
namespace Go.Proofs.YtejlpdbiacmfcaaGreatDoor
open Go Go.Proofs Go.RowKit Go.Lib

theorem wthn_set {l : List Int} {B x : Int} (h : Wthn l B) (hx : -B ≤ x ∧ x ≤ B) (i : Nat) : Wthn (l.set i x) B := fun y hy => by
  rcases List.mem_or_eq_of_mem_set hy with h' | rfl
  · exact h y h'
  · exact hx
theorem wthn_zero (n : Nat) (B : Int) (hB : 0 ≤ B) : Wthn (List.replicate n 0) B := fun y hy => by
  have := List.eq_of_mem_replicate hy
  omega
theorem Wthn.mono {l : List Int} {B C : Int} (h : Wthn l B) (hC : B ≤ C) : Wthn l C := fun x hx => by have := h x hx; omega
/-- A histogram of small ints. -/
def CntR (B : Nat) (n : Nat) (v : Value) (w : World) : Prop := ∃ (h : List Int) (a : Option Addr) (c : Nat), v = .slice a n c ∧ h.length = n ∧ Wthn h 1000 ∧ w.ownsRow B 3 1 (.slice a n c) n (ivs h)
theorem counts_calls (l : List Int) (n : Nat) (hn : n ≤ 1000) (hl : l.length ≤ 17592186044416) (a : Option Addr) (c : Nat) (w : World) (hs : Sl w a (ivs l)) :
    Calls Tryz.prog 19 #[.slice a l.length c, .int .i64 (n : Nat)] w (Ret fun v w' => CntR w.heap.size n v w' ∧ Below w.heap.size w w') := by
  refine enter Tryz.func19 rfl Tryz.ntmps19 (Nat.le_of_ble_eq_true rfl) ?_
  refine dr U 600 rfl trivial ?_
  refine mkn U rfl rfl rfl rfl rfl rfl rfl n rfl rfl (by omega) (by omega) w.heap.size (Nat.le_refl _) ?_
  intro a1 w1 ho1 hg1
  have hB1 : Below w.heap.size w w1 := (Below.refl _ _).grown hg1 (Nat.le_refl _) (fun k e => by cases e)
  rw [ivs_zero] at ho1
  refine dr U 600 rfl trivial ?_
  refine loopR (fun fr w' m => ∃ (i : Nat) (h : List Int), fr = [(0, .slice a l.length c), (1, .int .i64 (n : Nat)), (5, .slice a1 n n), (6, .int .i64 (i : Nat))] ∧ i ≤ n ∧ h.length = n ∧ Wthn h 1000 ∧ w'.ownsRow w.heap.size 3 1 (.slice a1 n n) n (ivs h) ∧ Below w.heap.size w w' ∧ m = n - i)
    ⟨0, List.replicate n 0, rfl, by omega, by simp, wthn_zero n 1000 (by omega), ho1, hB1, rfl⟩ (by repeat' (first | exact True.intro | exact rfl | exact iv (by omega) | refine ⟨?_, ?_⟩)) ?_
  rintro fr w2 m ⟨i, h, rfl, hi, hlen, hw, ho, hB, rfl⟩
  refine dr U 600 rfl trivial ?_
  refine cS rfl rfl rfl rfl (fun hq1 => ?_) (fun hq1 => ?_)
  · have hin : i < n := by omega
    refine dr U 600 rfl trivial ?_
    refine cS rfl rfl rfl rfl (fun hq2 => ?_) (fun hq2 => ?_)
    · have hil : i < l.length := by omega
      refine dr U 600 rfl trivial ?_
      refine il U rfl rfl rfl rfl rfl rfl rfl (fun _ => rfl) rfl i rfl hil (hs.stay hB) (ivs_get hil) ?_
      refine call (f := 18) rfl rfl cb18 (pick_calls (l.getD i 0) 2001 (by omega) (by omega) w2) ?_
      rintro v _ ⟨⟨r, rfl, hr⟩, rfl⟩
      refine ⟨_, rfl, ?_⟩
      refine dr U 600 rfl (by first | exact True.intro | (simp only [AllP, InR, List.nil_append, List.cons_append, and_true]; omega)) ?_
      refine is U (v := (.int .i64 ((r : Int) - 1000))) rfl rfl rfl rfl rfl rfl rfl (fun _ => rfl) (fun _ => rfl) (fun _ => rfl) rfl rfl i rfl hin ho ?_
      intro p w3 ho3 hg3 hs3
      have hB3 := hB.grown hg3 hB.size (fun g e => (own_block ho g e).1)
      rw [ivs_set] at ho3
      refine dr U 600 rfl (by first | exact True.intro | (simp only [AllP, InR, List.nil_append, List.cons_append, and_true]; omega)) ?_
      exact rend _ _ ⟨i + 1, h.set i ((r : Int) - 1000), rfl, by omega, by simp [hlen], wthn_set hw (by omega) i, ho3, hB3, rfl⟩ (by omega) (by repeat' (first | exact True.intro | exact rfl | exact iv (by omega) | refine ⟨?_, ?_⟩))
    · refine dr U 600 rfl trivial ?_
      exact ret Tryz.results19 rfl ⟨_, rfl, ⟨h, a1, n, rfl, hlen, hw, ho⟩, hB⟩
  · refine dr U 600 rfl trivial ?_
    exact ret Tryz.results19 rfl ⟨_, rfl, ⟨h, a1, n, rfl, hlen, hw, ho⟩, hB⟩

theorem itx_get {l : List Int} {i : Nat} (h : i < l.length) : (itx l).getD i [] = qtext ((l.getD i 0 : Int) : Rat) := by
  unfold itx; rw [txs_getD h]; rfl
theorem exact_calls (ls : List Tx) (l : List Int) (hll : l.length ≤ 1000) (hI : ∀ i, -9223372036854775808 ≤ l.getD i 0 ∧ l.getD i 0 ≤ 9223372036854775807) (a b : Option Addr) (c d m q : Nat) (w : World) (h1 : Lit w (.slice a m c) ls) (h2 : LitI w (.slice b q d) l) :
    Calls Tryz.prog 20 #[.slice a m c, .slice b q d] w (Ret fun v w' => v = .bool (decide (ls = itx l)) ∧ Below w.heap.size w w') := by
  obtain ⟨hx, rfl⟩ := h1.sl
  obtain ⟨hy, rfl⟩ := h2.sl
  have hil : (itx l).length = l.length := by unfold itx; rw [txs_length]
  refine enter Tryz.func20 rfl Tryz.ntmps20 (Nat.le_of_ble_eq_true rfl) ?_
  refine dr U 600 rfl trivial ?_
  refine cS rfl rfl rfl rfl (fun hq => ?_) (fun hq => ?_)
  · refine dr U 600 rfl trivial ?_
    exact ret Tryz.results20 rfl ⟨_, rfl, by rw [decide_eq_false (fun e => hq (by rw [e, hil]))]; rfl, Below.refl _ _⟩
  have hl : ls.length = l.length := by omega
  refine dr U 600 rfl trivial ?_
  refine loopR (fun fr w' m => ∃ i : Nat, fr = [(0, .slice a ls.length c), (1, .slice b l.length d), (5, .int .i64 (i : Nat))] ∧ i ≤ ls.length ∧ (∀ j, j < i → ls.getD j [] = (itx l).getD j []) ∧ Below w.heap.size w w' ∧ m = ls.length - i)
    ⟨0, rfl, by omega, fun j hj => absurd hj (by omega), Below.refl _ _, rfl⟩ (by repeat' (first | exact True.intro | exact rfl | exact iv (by omega) | refine ⟨?_, ?_⟩)) ?_
  rintro fr w1 m ⟨i, rfl, hi, he, hB, rfl⟩
  refine dr U 600 rfl trivial ?_
  refine cS rfl rfl rfl rfl (fun hq => ?_) (fun hq => ?_)
  · have hix : i < ls.length := by omega
    have hiy : i < l.length := by omega
    have hIi := hI i
    have hgi := itx_get hiy
    obtain ⟨ga, oa, rfl, _⟩ := hx i _ (getS hix)
    obtain ⟨gb, ob, rfl, _⟩ := hy i _ (ivs_get hiy)
    refine dr U 600 rfl trivial ?_
    refine dwn 9 (fun W => Sl W (some ⟨ga, oa, none⟩) (strs ls) ∧ Sl W (some ⟨gb, ob, none⟩) (ivs l)) hmo ?_
    intro w2 hh2 hg2
    have hB2 : Below w.heap.size w w2 := hB.grown hg2 hB.size (fun k e => by cases e)
    have hl3 : ∀ W, (Sl W (some ⟨ga, oa, none⟩) (strs ls) ∧ Sl W (some ⟨gb, ob, none⟩) (ivs l)) → (loadVar 35 ((⟨ga, oa, none⟩ : Addr).add (((i : Nat) : Int).toNat * 1))).run Tryz.prog W = .ok (.string ⟨⟨ls.getD i []⟩⟩) W := fun W h => run_load_cell U rfl (by simpa [add_plain] using slc2 h.1 (getS hix))
    have hl7 : ∀ W, (Sl W (some ⟨ga, oa, none⟩) (strs ls) ∧ Sl W (some ⟨gb, ob, none⟩) (ivs l)) → (loadVar 3 ((⟨gb, ob, none⟩ : Addr).add (((i : Nat) : Int).toNat * 1))).run Tryz.prog W = .ok (.int .i64 (l.getD i 0)) W := fun W h => run_load_cell U rfl (by simpa [add_plain] using slc2 h.2 (ivs_get hiy))
    refine dq U [0,1,2,3,4,5,6,7] [(3, .string ⟨⟨ls.getD i []⟩⟩), (7, .int .i64 (l.getD i 0))] (by kernel_rfl) rfl rfl ⟨hx.stay hB2, hy.stay hB2⟩ (by simp only [AllP, InR, List.nil_append, List.cons_append]; (repeat' apply And.intro); all_goals first | exact True.intro | omega | (with_reducible exact hl3) | (with_reducible exact hl7)) ?_
    refine d1 rfl rfl (fun _ => ⟨hx.stay hB2, hy.stay hB2⟩) ?_
    refine call (f := 24) rfl rfl cb24 (gint_calls (l.getD i 0) hIi.1 hIi.2 w2) ?_
    rintro v w3 ⟨rfl, hB23⟩
    have hB3 := bl_tr hB2 hB23 hB2.size
    refine ⟨_, rfl, d2 ?_⟩
    refine d1 rfl rfl (fun _ => ⟨hx.stay hB3, hy.stay hB3⟩) ?_
    refine cS rfl rfl rfl rfl (fun hq2 => ?_) (fun hq2 => ?_)
    · refine d2 ?_; refine dend rfl (fun h => by cases h) ?_
      refine dr U 600 rfl trivial ?_
      refine ret Tryz.results20 rfl ⟨_, rfl, ?_, hB3⟩
      rw [decide_eq_false (fun e => hq2 (by rw [e, hgi]))]; rfl
    · refine d2 ?_; refine dend rfl (fun h => by cases h) ?_
      refine dr U 600 rfl (by first | exact True.intro | (simp only [AllP, InR, List.nil_append, List.cons_append, and_true]; omega)) ?_
      refine rend _ _ ⟨i + 1, rfl, by omega, fun j hj => ?_, hB3, rfl⟩ (by omega) (by repeat' (first | exact True.intro | exact rfl | exact iv (by omega) | refine ⟨?_, ?_⟩))
      rcases Nat.lt_succ_iff_lt_or_eq.1 hj with h' | rfl
      · exact he j h'
      · rw [hgi]; exact Classical.not_not.1 hq2
  · obtain rfl : i = ls.length := by omega
    refine dr U 600 rfl trivial ?_
    refine ret Tryz.results20 rfl ⟨_, rfl, ?_, hB⟩
    have : ls = itx l := by
      apply List.ext_getElem (by omega)
      intro j h1 h2
      have := he j h1
      simpa [List.getD, h1, h2] using this
    rw [decide_eq_true this]; rfl

end Go.Proofs.YtejlpdbiacmfcaaGreatDoor
end
section
set_option linter.unusedSimpArgs false
set_option linter.unusedVariables false
set_option maxHeartbeats 8000000
set_option maxRecDepth 100000
namespace Go.Proofs.YtejlpdbiacmfcaaGreatDoor
open Go Go.Proofs Go.RowKit Go.Lib

section
variable {P : Program} (U : Tys P) {ro : Option Nat} {n : Nat} {ds : List Deferred} {Q : PT} {l l' : Fr} {w w' : World} {arr : Array Oper} {r : List Oper} {k : List It}
end
theorem rsum_txs {n : Nat} {x : Nat → Rat} {r : Int × Int} (hS : ∀ i, i < n → Small 4000 (x i)) (hr : Rgd n r) : rsum (vval (txs n x)) r = rsum x r := by
  obtain ⟨h1, h2, h3⟩ := hr
  unfold rsum
  exact sm_congr fun j hj => txs_vval hS (by omega)
theorem ansS_txs {n : Nat} {x : Nat → Rat} {rs : List (Int × Int)} (h0 : 0 < n) (hn : n ≤ 64) (hS : ∀ i, i < n → Small 4000 (x i)) (hl : rs.length ≤ 64) (hall : ∀ r, r ∈ rs → Rgd n r) : AnsS rs (txs n x) (rs.map fun r => qtext (rsum x r)) 0 := by
  refine .inr (.inr (.inr ⟨txs_verr h0 hn hS, hl, fun r hr => by rw [txs_length]; exact hall r hr, ?_, rfl⟩))
  exact List.map_congr_left fun r hr => by rw [rsum_txs hS (hall r hr)]
theorem ans_fit {n K : Nat} {x : Nat → Rat} (hS : ∀ i, i < n → Small K (x i)) (hK4 : K ≤ 4000) (hK : 1 + n * (K + 1) ≤ 4000) : ∀ lo k, lo + k ≤ (txs n x).length → Small 4000 (sm k fun j => vval (txs n x) (lo + j)) := fun lo k hk => by
  rw [txs_length] at hk
  have e : sm k (fun j => vval (txs n x) (lo + j)) = sm k (fun j => x (lo + j)) := sm_congr fun j hj => txs_vval (fun i hi => small_mono (hS i hi) hK4) (by omega)
  rw [e]
  have h1 := sm_small1 (K := K) (n := k) (f := fun j => x (lo + j)) (fun j hj => hS (lo + j) (by omega)) k (Nat.le_refl _)
  refine small_mono h1 ?_
  have := Nat.mul_le_mul_right (K + 1) (show k ≤ n by omega)
  omega
theorem ans_small {n K : Nat} {x : Nat → Rat} (hS : ∀ i, i < n → Small K (x i)) (hK4 : K ≤ 4000) : ∀ j, j < (txs n x).length → Small 4000 (vval (txs n x) j) := fun j hj => by
  rw [txs_length] at hj
  rw [txs_vval (fun i hi => small_mono (hS i hi) hK4) hj]
  exact small_mono (hS j hj) hK4
end Go.Proofs.YtejlpdbiacmfcaaGreatDoor
end
section
set_option linter.unusedSimpArgs false
set_option linter.unusedVariables false
set_option maxHeartbeats 8000000
set_option maxRecDepth 100000
namespace Go.Proofs.YtejlpdbiacmfcaaGreatDoor
open Go Go.Proofs Go.RowKit Go.Lib

theorem strat_bit1 (kind n : Int) {r : List Int} (hr : r ∈ strat kind n) : Wthn r 1 := by
  intro x hx
  obtain ⟨i, hi, rfl⟩ := List.getElem_of_mem hr
  obtain ⟨j, hj, rfl⟩ := List.getElem_of_mem hx
  have := strat_bits kind n i j
  have e : (irow (strat kind n) i).getD j 0 = (strat kind n)[i][j] := by simp [irow, List.getD, hi, hj]
  rw [e] at this
  omega
theorem strat_apply {kind : Int} {n : Nat} {h : List Int} (hn : n ≤ 64) (hl : h.length = n) (hw : Wthn h 1000000) : applyF (strat kind n) h = (appTo (strat kind n) h (strat kind n).length, 0) := by
  have h1 := strat_len64 kind n
  unfold applyF
  rw [if_neg (by omega), if_neg (not_not_intro fun r hr => by rw [strat_length hr, hl]), if_neg (not_not_intro ⟨hw, fun r hr => strat_wthn _ _ hr⟩), appTo_all]
theorem appTo_get {rows : List (List Int)} {h : List Int} {m i : Nat} (hi : i < m) : (appTo rows h m).getD i 0 = dotI (irow rows i) h h.length := by simp [appTo, List.getD, hi]
theorem appTo_wthn {kind : Int} {n B : Nat} {h : List Int} (hl : h.length = n) (hw : Wthn h B) : Wthn (appTo (strat kind n) h (strat kind n).length) ((n * B : Nat) : Int) := by
  intro x hx
  unfold appTo at hx
  obtain ⟨i, hi, rfl⟩ := List.mem_map.1 hx
  have := dotI_le (strat_bit1 kind n (irow_mem (List.mem_range.1 hi))) hw (by omega) (by omega) h.length
  rw [hl] at this ⊢
  rw [Int.one_mul] at this
  push_cast
  exact this
/-- What exact answers give back: the histogram solves their normal equations. -/
theorem exact_back {kind : Int} {n : Nat} {h : List Int} (hl : h.length = n) : ∀ i, i < n → mapp n (nrm (strat kind n)) (ratsI h) i = rhs (strat kind n) (ratsI (appTo (strat kind n) h (strat kind n).length)) i (strat kind n).length := fun i hi => by
  show mapp n (mmul (strat kind n).length (trp (stM (strat kind n))) (stM (strat kind n))) (ratsI h) i = _
  rw [app_mul]
  unfold rhs
  show sm _ _ = _
  apply sm_congr
  intro t ht
  have e : ratsI (appTo (strat kind n) h (strat kind n).length) t = mapp n (stM (strat kind n)) (ratsI h) t := by
    show (((appTo (strat kind n) h (strat kind n).length).getD t 0 : Int) : Rat) = _
    rw [appTo_get ht, hl]
    exact dotI_rat (strat kind n) h t n
  rw [e]
/-- The sum of a range of ints. -/
def isum (h : List Int) (p : Nat) : Nat → Int
  | 0 => 0
  | k + 1 => isum h p k + h.getD (p + k) 0
theorem isum_rat (h : List Int) (p k : Nat) : ((isum h p k : Int) : Rat) = sm k (fun j => ratsI h (p + j)) := by
  induction k with
  | zero => rfl
  | succ k ih => rw [isum, sm, ← ih, Rat.intCast_add]; rfl
theorem isum_le {h : List Int} (hw : Wthn h 1000) (p : Nat) : ∀ k : Nat, -((k : Int) * 1000) ≤ isum h p k ∧ isum h p k ≤ (k : Int) * 1000
  | 0 => by simp [isum]
  | k + 1 => by
    have ih := isum_le hw p k
    have := wthn_get hw (by omega) (p + k)
    rw [isum]; push_cast; omega
theorem norm_want {kind n : Nat} (hk : kind < 3) (h0 : 0 < n) (hn : n ≤ 64) : [1, (n : Int), normF (strat kind n)].getD kind 0 = normF (strat kind n) := by
  have hs := strat_empty (kind := (kind : Int)) (n := n) h0 hn (by omega)
  have : kind = 0 ∨ kind = 1 ∨ kind = 2 := by omega
  rcases this with rfl | rfl | rfl
  · rw [strat_norm hs]
    have e : strat ((0 : Nat) : Int) n = idRows n := by show strat 0 n = _; rw [strat_id ⟨h0, hn⟩]; rfl
    rw [e, norm_id h0]; rfl
  · rw [strat_norm hs]
    have e : strat ((1 : Nat) : Int) n = preRows n := by show strat 1 n = _; rw [strat_pr ⟨h0, hn⟩]; rfl
    rw [e, norm_pre h0]; rfl
  · rfl
theorem matrixExact_calls (z1 z2 : Int) (l : List Int) (a1 : Option Addr) (c1 : Nat) (z3 z4 z5 : Int)
    (hz1 : -9223372036854775808 ≤ z1 ∧ z1 ≤ 9223372036854775807) (hz2 : -9223372036854775808 ≤ z2 ∧ z2 ≤ 9223372036854775807) (hz3 : -9223372036854775808 ≤ z3 ∧ z3 ≤ 9223372036854775807) (hz4 : -9223372036854775808 ≤ z4 ∧ z4 ≤ 9223372036854775807) (hz5 : -9223372036854775808 ≤ z5 ∧ z5 ≤ 9223372036854775807) (w : World) (ht : TabOk w)
    (hs : LitI w (.slice a1 l.length c1) l ∧ I64 l) (hll : l.length ≤ 17592186044416) :
    Calls Tryz.prog 4 #[.int .i64 z1, .int .i64 z2, .slice a1 l.length c1, .int .i64 z3, .int .i64 z4, .int .i64 z5] w (Ret fun v w' => v = .bool true ∧ Below w.heap.size w w') := by
  have hs := hs.1.sl.1
  refine enter Tryz.func4 rfl Tryz.ntmps4 (Nat.le_of_ble_eq_true rfl) ?_
  refine dr U 600 rfl trivial ?_
  refine call (f := 9) rfl rfl cb9 (lives28_calls w ht) ?_
  rintro v w1 ⟨rfl, hB1⟩
  refine ⟨_, rfl, ?_⟩
  refine dr U 600 rfl trivial ?_
  refine call (f := 18) rfl rfl cb18 (pick_calls z1 3 (by omega) (by omega) w1) ?_
  rintro v _ ⟨⟨kind, rfl, hkind⟩, rfl⟩
  refine ⟨_, rfl, ?_⟩
  refine dr U 600 rfl trivial ?_
  refine call (f := 18) rfl rfl cb18 (pick_calls z2 7 (by omega) (by omega) w1) ?_
  rintro v _ ⟨⟨n', rfl, hn'⟩, rfl⟩
  refine ⟨_, rfl, ?_⟩
  refine dr U 600 rfl (by first | exact True.intro | (simp only [AllP, InR, List.nil_append, List.cons_append, and_true]; omega)) ?_
  obtain ⟨n, hn0, hn7, en⟩ : ∃ n : Nat, 0 < n ∧ n ≤ 7 ∧ (1 + (n' : Int) : Int) = ((n : Nat) : Int) := ⟨1 + n', by omega, by omega, by omega⟩
  rw [en]
  refine cS rfl rfl rfl rfl (fun hq1 => ?_) (fun hq1 => ?_)
  · refine dr U 600 rfl trivial ?_
    exact ret Tryz.results4 rfl ⟨_, rfl, rfl, hB1⟩
  refine dr U 600 rfl trivial ?_
  refine call (f := 19) rfl rfl cb19 (counts_calls l n (by omega) hll a1 c1 w1 (hs.stay hB1)) ?_
  rintro v w2 ⟨⟨h, ah, ch, rfl, hlen, hw, hoh⟩, hB2⟩
  have hB2' := bl_tr hB1 hB2 hB1.size
  have hst := strat_empty (kind := (kind : Int)) (n := n) hn0 (by omega) (by omega)
  have hpos := List.length_pos_iff.2 hst
  have hml := strat_len7 (kind := (kind : Int)) (n := (n : Int)) (by omega)
  have hLZ := strat_lenz (kind : Int) (n : Int)
  refine ⟨_, rfl, ?_⟩
  refine dr U 600 rfl trivial ?_
  refine call (f := 11) rfl rfl cb11 (mstrat_calls kind n w2) ?_
  rintro v w3 ⟨⟨a3, c3, rfl, hO3, _⟩, hB3⟩
  have hB3' := bl_tr hB2' hB3 hB2'.size
  have hS3 := hO3.sz
  have hh3 := (own_sl hoh).stay hB3
  have hcalF := strat_apply (kind := (kind : Int)) (h := h) (by omega) hlen (hw.mono (by omega))
  have hyw := appTo_wthn (kind := (kind : Int)) (B := 1000) hlen hw
  have hback := exact_back (kind := (kind : Int)) hlen
  have hyl := appTo_len (strat kind n) h (strat kind n).length
  have hyg := fun (i : Nat) (hi : i < (strat kind n).length) => appTo_get (rows := strat kind n) (h := h) hi
  have hbits := strat_bits (kind : Int) (n : Int)
  have hnrmT := strat_norm hst
  have hwant := norm_want hkind hn0 (show n ≤ 64 by omega)
  have hcolp := fun (k : Nat) (hk : k < n) => colS_pos (kind := (kind : Int)) (n := n) (k := k) (by omega) (by omega) hk
  have hmapp := mapply_calls (strat kind n) h hLZ.l (fun i hi => by have := hLZ.r i hi; omega) (by omega) a3 ah c3 ch w3 hS3 hh3
  rw [hcalF, hlen] at hmapp
  refine ⟨_, rfl, ?_⟩
  refine dr U 600 rfl trivial ?_
  refine call (f := 10) rfl rfl cb10 hmapp ?_
  rintro v w4 ⟨⟨a4, c4, rfl, hy4⟩, hB4⟩
  rw [hyl]
  have hy4 : Sl w4 a4 (ivs (appTo (strat kind n) h (strat kind n).length)) := hy4
  have hB4' := bl_tr hB3' hB4 hB3'.size
  have hS4 := hS3.stay hB4
  have hh4 := hh3.stay hB4
  refine ⟨_, rfl, ?_⟩
  refine dr U 600 rfl trivial ?_
  have hx32 : (n * 1000 : Nat) ≤ 7000 := by omega
  refine call (f := 12) rfl rfl cb12 (mest_x kind n (appTo (strat kind n) h (strat kind n).length) (ratsI h) hst hyl (hyw.mono (by omega)) hn7 hback a4 (strat kind n).length c4 w4 ⟨a4, c4, by rw [hyl], hy4⟩ (ht.below hB4')) ?_
  rintro v w5 ⟨⟨a5, c5, rfl, hl5, hc5⟩, hB5⟩
  have hB5' := bl_tr hB4' hB5 hB4'.size
  have hS5 := hS4.stay hB5
  have hh5 := hh4.stay hB5
  have hy5 := hy4.stay hB5
  refine ⟨_, rfl, ?_⟩
  refine dr U 600 rfl trivial ?_
  refine call (f := 18) rfl rfl cb18 (pick_calls z3 n (by omega) (by omega) w5) ?_
  rintro v _ ⟨⟨p, rfl, hp⟩, rfl⟩
  refine ⟨_, rfl, ?_⟩
  refine dr U 600 rfl (by first | exact True.intro | (simp only [AllP, InR, List.nil_append, List.cons_append, and_true]; omega)) ?_
  have hpk := pick_calls z4 (n - p) (by omega) (by omega) w5
  rw [show ((n - p : Nat) : Int) = (n : Int) - (p : Int) by omega] at hpk
  refine call (f := 18) rfl rfl cb18 hpk ?_
  rintro v _ ⟨⟨q', rfl, hq'⟩, rfl⟩
  refine ⟨_, rfl, ?_⟩
  refine dr U 600 rfl (by first | exact True.intro | (simp only [AllP, InR, List.nil_append, List.cons_append, and_true]; omega)) ?_
  obtain ⟨q, hpq, hqn, eq_⟩ : ∃ q : Nat, p ≤ q ∧ q < n ∧ (p : Int) + (q' : Int) = ((q : Nat) : Int) := ⟨p + q', by omega, by omega, by omega⟩
  rw [eq_]
  refine bdp rfl rfl rfl rfl ?_
  refine bsS U [[.int .i64 (p : Nat), .int .i64 (q : Nat)]] rfl rfl rfl rfl rfl rfl (by decide) (by decide) (by intro cs h; simp at h; subst h; rfl) ?_
  intro w6 hk6 hs6 hg6
  have hB56 : Below w5.heap.size w5 w6 := (Below.refl _ _).grown hg6 (Nat.le_refl _) (fun k e => by cases e)
  have hB6 := bl_tr hB5' hB56 hB5'.size
  have hp6 := litp_bk (n := 1) (c := 1) (rs := [((p : Int), (q : Int))]) hk6 rfl rfl
  have hrg : Rgd n ((p : Int), (q : Int)) := ⟨by show (0 : Int) ≤ p; omega, by show (p : Int) ≤ q; omega, by show (q : Int) < n; omega⟩
  have hsm : ∀ i, i < n → Small 13 (ratsI h i) := fun i _ => ratsI_small hw (by omega) i
  have hsm4 : ∀ i, i < n → Small 4000 (ratsI h i) := fun i hi => small_mono (hsm i hi) (by omega)
  refine dr U 600 rfl trivial ?_
  refine call (f := 13) rfl rfl cb13 (mans_x (ansS_txs hn0 (by omega) hsm4 (rs := [((p : Int), (q : Int))]) (by simp) (by intro r hr; simp at hr; subst hr; exact hrg)) (by simp) (txs_lenv (by omega) hsm4) (fun _ => ans_small hsm (by omega)) (fun _ => ans_fit hsm (by omega) (by omega)) _ _ _ _ _ _ w6 hp6 (hl5.stay hB56) hc5 (ht.below hB6)) ?_
  rintro v w7 ⟨⟨a7, c7, rfl, hl7⟩, hB67⟩
  have hB7 := bl_tr hB6 hB67 hB6.size
  have hB57 := bl_tr hB56 hB67 hB56.size
  have hS7 := hS5.stay hB57
  have hh7 := hh5.stay hB57
  have hy7 := hy5.stay hB57
  have hl57 := hl5.stay hB57
  have hsumE : rsum (ratsI h) ((p : Int), (q : Int)) = ((isum h p (q - p + 1) : Int) : Rat) := by
    rw [isum_rat]
    unfold rsum
    simp only [Int.toNat_natCast]
    rw [show ((q : Int) - (p : Int) + 1).toNat = q - p + 1 by omega]
  rw [show (List.map (fun r => qtext (rsum (ratsI h) r)) [((p : Int), (q : Int))]).length = 1 from rfl] at hl7 ⊢
  simp only [List.map_cons, List.map_nil, hsumE] at hl7
  refine ⟨_, rfl, ?_⟩
  refine dr U 600 rfl trivial ?_
  refine cF rfl rfl rfl (fun e => e rfl) ?_
  refine dr U 600 rfl trivial ?_
  refine cF rfl rfl rfl (fun e => e rfl) ?_
  refine dr U 600 rfl trivial ?_
  refine cF rfl rfl rfl (fun e => e rfl) ?_
  refine dr U 600 rfl trivial ?_
  have hI : ∀ i, -9223372036854775808 ≤ h.getD i 0 ∧ h.getD i 0 ≤ 9223372036854775807 := fun i => by have := wthn_get hw (by omega) i; omega
  refine call (f := 20) rfl rfl cb20 (exact_calls _ h (by omega) hI _ _ _ _ _ _ w7 hl57 ⟨ah, ch, by rw [hlen], hh7⟩) ?_
  rintro v w8 ⟨rfl, hB8⟩
  have hB8' := bl_tr hB7 hB8 hB7.size
  have hS8 := hS7.stay hB8
  have hh8 := hh7.stay hB8
  have hy8 := hy7.stay hB8
  have hl78 := hl7.stay hB8
  refine ⟨_, rfl, ?_⟩
  rw [decide_eq_true (show txs n (ratsI h) = itx h by unfold itx; rw [hlen])]
  refine dr U 600 rfl trivial ?_
  refine loopR (fun fr w' m => ∃ (k : Nat), fr = [(0, .int .i64 (kind : Nat)), (1, .int .i64 (n : Nat)), (5, .int .i64 z5), (13, .slice ah n ch), (14, .slice a3 (strat kind n).length c3), (15, .slice a4 (strat kind n).length c4), (19, .slice a7 1 c7), (4, .int .i64 (q : Nat)), (21, .int .i64 (isum h p k)), (22, .int .i64 ((p + k : Nat) : Int))] ∧ k ≤ q - p + 1 ∧ w' = w8 ∧ m = q - p + 1 - k)
    ⟨0, rfl, by omega, rfl, rfl⟩ (by repeat' (first | exact True.intro | exact rfl | exact iv (by omega) | refine ⟨?_, ?_⟩)) ?_
  rintro fr w9 m ⟨k, rfl, hk, rfl, rfl⟩
  refine dr U 600 rfl trivial ?_
  refine cS rfl rfl rfl rfl (fun hqk => ?_) (fun hqk => ?_)
  · have hkq : p + k < n := by omega
    have hil := isum_le hw p k
    have hgk := wthn_get hw (by omega) (p + k)
    refine dr U 600 rfl trivial ?_
    refine il U rfl rfl rfl rfl rfl rfl rfl (fun _ => rfl) rfl (p + k) rfl hkq hh8 (ivs_get (by omega)) ?_
    refine dr U 600 rfl (by first | exact True.intro | (simp only [AllP, InR, List.nil_append, List.cons_append, and_true]; omega)) ?_
    exact rend _ _ ⟨k + 1, rfl, by omega, rfl, rfl⟩ (by omega) ⟨rfl, rfl, rfl, rfl, rfl, rfl, rfl, rfl, rfl, iv (by omega), trivial⟩
  obtain rfl : k = q - p + 1 := by omega
  have hsl := isum_le hw p (q - p + 1)
  refine dr U 600 rfl trivial ?_
  have hown := iown_calls h ah ch w9 hh8 (by omega)
  rw [hlen] at hown
  refine call (f := 21) rfl rfl cb21 hown ?_
  rintro v w10 ⟨⟨a10, c10, rfl, ho10⟩, hB10⟩
  have hB10' := bl_tr hB8' hB10 hB8'.size
  have hS10 := hS8.stay hB10
  have hy10 := hy8.stay hB10
  have hl710 := hl78.stay hB10
  refine ⟨_, rfl, ?_⟩
  refine dr U 600 rfl trivial ?_
  refine call (f := 18) rfl rfl cb18 (pick_calls z5 n (by omega) (by omega) w10) ?_
  rintro v _ ⟨⟨at_, rfl, hat⟩, rfl⟩
  have hgat := wthn_get hw (by omega) at_
  refine ⟨_, rfl, ?_⟩
  refine il U rfl rfl rfl rfl rfl rfl rfl (fun _ => rfl) rfl at_ rfl hat (own_sl ho10) (ivs_get (by omega)) ?_
  refine dr U 600 rfl (by first | exact True.intro | (simp only [AllP, InR, List.nil_append, List.cons_append, and_true]; omega)) ?_
  refine is U (v := (.int .i64 (h.getD at_ 0 + 1))) rfl rfl rfl rfl rfl rfl rfl (fun _ => rfl) (fun _ => rfl) (fun _ => rfl) rfl rfl at_ rfl hat ho10 ?_
  intro p11 w11 ho11 hg11 hs11
  have hB1011 : Below w9.heap.size w9 w11 := hB10.grown hg11 hB10.size (fun g e => (own_block ho10 g e).1)
  have hB11 := bl_tr hB8' hB1011 hB8'.size
  rw [ivs_set] at ho11
  have ho11 : w11.ownsRow w9.heap.size 3 1 (.slice a10 n c10) n (ivs (inc h at_)) := ho11
  have hS11 := hS8.stay hB1011
  have hy11 := hy8.stay hB1011
  have hl711 := hl78.stay hB1011
  have hil2 : (inc h at_).length = n := by rw [inc_length, hlen]
  have hiw : Wthn (inc h at_) ((1001 : Nat) : Int) := wthn_set (hw.mono (by omega)) (by omega) at_
  have hcalF2 := strat_apply (kind := (kind : Int)) (h := inc h at_) (by omega) hil2 (hiw.mono (by omega))
  have hmapp2 := mapply_calls (strat kind n) (inc h at_) hLZ.l (fun i hi => by have := hLZ.r i hi; omega) (by omega) a3 a10 c3 c10 w11 hS11 (own_sl ho11)
  rw [hcalF2, hil2] at hmapp2
  have hyl2 := appTo_len (strat kind n) (inc h at_) (strat kind n).length
  have hdiff : ∀ i, i < (strat kind n).length → (appTo (strat kind n) (inc h at_) (strat kind n).length).getD i 0 = (appTo (strat kind n) h (strat kind n).length).getD i 0 + (irow (strat kind n) i).getD at_ 0 := fun i hi => by
    rw [appTo_get hi, appTo_get hi, hil2, hlen, dotI_inc _ (by omega), if_pos hat]
  refine dr U 600 rfl trivial ?_
  refine call (f := 10) rfl rfl cb10 hmapp2 ?_
  rintro v w12 ⟨⟨a12, c12, rfl, hz12⟩, hB12⟩
  rw [hyl2]
  have hz12 : Sl w12 a12 (ivs (appTo (strat kind n) (inc h at_) (strat kind n).length)) := hz12
  have hB12' := bl_tr hB11 hB12 hB11.size
  have hS12 := hS11.stay hB12
  have hy12 := hy11.stay hB12
  have hl712 := hl711.stay hB12
  refine ⟨_, rfl, ?_⟩
  refine dr U 600 rfl trivial ?_
  refine cF rfl rfl rfl (fun e => e rfl) ?_
  refine dr U 600 rfl trivial ?_
  refine cF rfl rfl rfl (fun e => e rfl) ?_
  refine dr U 600 rfl trivial ?_
  refine bsv U (ivs [isum h p (q - p + 1)]) rfl rfl rfl rfl rfl rfl (by decide) (by decide) rfl ?_
  intro w13 hk13 hs13 hg13
  have hB1213 : Below w12.heap.size w12 w13 := (Below.refl _ _).grown hg13 (Nat.le_refl _) (fun k e => by cases e)
  have hB13 := bl_tr hB12' hB1213 hB12'.size
  have hl13 := liti_bk (n := 1) (c := 1) (xs := [isum h p (q - p + 1)]) hk13 rfl
  refine call (f := 20) rfl rfl cb20 (exact_calls _ [isum h p (q - p + 1)] (by simp) (fun i => by
    cases i with
    | zero => show _ ≤ isum h p (q - p + 1) ∧ isum h p (q - p + 1) ≤ _; omega
    | succ i => show _ ≤ (0 : Int) ∧ (0 : Int) ≤ _; omega) _ _ _ _ _ _ w13 (hl712.stay hB1213) hl13) ?_
  rintro v w14 ⟨rfl, hB14⟩
  have hB1214 := bl_tr hB1213 hB14 hB1213.size
  have hB14' := bl_tr hB12' hB1214 hB12'.size
  have hS14 := hS12.stay hB1214
  have hy14 := hy12.stay hB1214
  have hz14 := hz12.stay hB1214
  refine ⟨_, rfl, ?_⟩
  rw [decide_eq_true (show [qtext ((isum h p (q - p + 1) : Int) : Rat)] = itx [isum h p (q - p + 1)] from rfl)]
  refine dr U 600 rfl trivial ?_
  -- the change
  have hyb := fun (i : Nat) (hi : i < (strat kind n).length) => wthn_get hyw (by omega) i
  have hchg := fun (k : Nat) => colS_take_le (rows := strat kind n) k at_
  have hcb := colS_bits hbits at_
  have hcn := fun (k : Nat) => colS_nonneg ((strat kind n).take k) at_
  have hctk := fun (k : Nat) (hk : k < (strat kind n).length) => colS_take hk at_
  have hbk := fun (k : Nat) => hbits k at_
  have hcol1 := hcolp at_ hat
  have hcoln := colS_le (rows := strat kind n) hat
  rw [← hnrmT] at hcoln
  have hz14' := hz14
  have hy14' := hy14
  generalize hY : appTo (strat kind n) h (strat kind n).length = Y at *
  generalize hZ : appTo (strat kind n) (inc h at_) (strat kind n).length = Z at *
  generalize hrows : strat (kind : Int) (n : Int) = rows at *
  obtain ⟨gz, oz, rfl, _⟩ := hz14 0 _ (ivs_get (by omega))
  obtain ⟨gy, oy, rfl, _⟩ := hy14 0 _ (ivs_get (by omega))
  refine loopR (fun fr w' m => ∃ (k : Nat), fr = [(0, .int .i64 (kind : Nat)), (1, .int .i64 (n : Nat)), (14, .slice a3 rows.length c3), (15, .slice (some ⟨gy, oy, none⟩) rows.length c4), (24, .slice (some ⟨gz, oz, none⟩) rows.length c12), (26, .int .i64 (colS (rows.take k) at_)), (27, .int .i64 (k : Nat))] ∧ k ≤ rows.length ∧ Below w14.heap.size w14 w' ∧ m = rows.length - k)
    ⟨0, rfl, by omega, Below.refl _ _, rfl⟩ (by repeat' (first | exact True.intro | exact rfl | exact iv (by omega) | refine ⟨?_, ?_⟩)) ?_
  rintro fr w15 m ⟨k, rfl, hk, hB15, rfl⟩
  refine dr U 600 rfl trivial ?_
  refine cS rfl rfl rfl rfl (fun hqk => ?_) (fun hqk => ?_)
  · have hkm : k < rows.length := by omega
    have hyk := hyb k hkm
    have hd := hdiff k hkm
    have hb := hbk k
    have hc1 := hchg k
    have hc2 := hcn k
    have hc3 := hctk k hkm
    have hC1 := hz14.stay hB15
    have hC2 := hy14.stay hB15
    refine dr U 600 rfl trivial ?_
    refine dwn 21 (fun W => Sl W (some ⟨gz, oz, none⟩) (ivs Z) ∧ Sl W (some ⟨gy, oy, none⟩) (ivs Y)) hmo ?_
    intro w16 hh16 hg16
    have hB1516 : Below w15.heap.size w15 w16 := (Below.refl _ _).grown hg16 (Nat.le_refl _) (fun k e => by cases e)
    have hmz : ∀ W, (Sl W (some ⟨gz, oz, none⟩) (ivs Z) ∧ Sl W (some ⟨gy, oy, none⟩) (ivs Y)) → (loadVar 3 ((⟨gz, oz, none⟩ : Addr).add (((k : Nat) : Int).toNat * 1))).run Tryz.prog W = .ok (.int .i64 (Z.getD k 0)) W := fun W h => run_load_cell U rfl (by simpa [add_plain] using slc2 h.1 (ivs_get (i := k) (by omega)))
    have hmy : ∀ W, (Sl W (some ⟨gz, oz, none⟩) (ivs Z) ∧ Sl W (some ⟨gy, oy, none⟩) (ivs Y)) → (loadVar 3 ((⟨gy, oy, none⟩ : Addr).add (((k : Nat) : Int).toNat * 1))).run Tryz.prog W = .ok (.int .i64 (Y.getD k 0)) W := fun W h => run_load_cell U rfl (by simpa [add_plain] using slc2 h.2 (ivs_get (i := k) (by omega)))
    refine dq U [0,1,2,3,4,5,6,7,8,9,10,11,12,13,14,15,16,17,18,19,20] [(4, .int .i64 (Z.getD k 0)), (8, .int .i64 (Y.getD k 0)), (13, .int .i64 (Y.getD k 0)), (17, .int .i64 (Z.getD k 0))] (by kernel_rfl) rfl rfl ⟨hC1.stay hB1516, hC2.stay hB1516⟩ (by simp only [AllP, InR, List.nil_append, List.cons_append]; (repeat' apply And.intro); all_goals first | exact True.intro | omega | (with_reducible exact hmz) | (with_reducible exact hmy)) ?_
    refine d1 rfl rfl (fun _ => ⟨hC1.stay hB1516, hC2.stay hB1516⟩) ?_
    refine dr U 600 rfl trivial ?_
    refine d3 ?_; refine dend rfl (fun h => by cases h) ?_
    refine dr U 600 rfl (by first | exact True.intro | (simp only [AllP, InR, List.nil_append, List.cons_append, and_true]; omega)) ?_
    exact rend _ _ ⟨k + 1, rfl, by omega, bl_tr hB15 hB1516 hB15.size, rfl⟩ (by omega) ⟨rfl, rfl, rfl, rfl, rfl, iv (by rw [hc3, hd]; omega), iv (by omega), trivial⟩
  obtain rfl : k = rows.length := by omega
  rw [List.take_length]
  have hB15' := bl_tr hB14' hB15 hB14'.size
  have hnrm := mnorm_x (xss := rows) (n := normF rows) rfl hLZ a3 c3 rows.length w15 (hS14.stay hB15) rfl
  refine dr U 600 rfl trivial ?_
  refine call (f := 17) rfl rfl cb17 hnrm ?_
  rintro v w16 ⟨rfl, hB16⟩
  have hB16' := bl_tr hB15' hB16 hB15'.size
  refine ⟨_, rfl, ?_⟩
  refine dr U 600 rfl trivial ?_
  refine bsv U (ivs [1, (n : Int), normF rows]) rfl rfl rfl rfl rfl rfl (by decide) (by decide) rfl ?_
  intro w17 hk17 hs17 hg17
  have hB17 : Below w.heap.size w w17 := hB16'.grown hg17 hB16'.size (fun k e => by cases e)
  refine dr U 600 rfl trivial ?_
  refine cT rfl rfl rfl (by omega) ?_
  refine dr U 600 rfl trivial ?_
  refine cT rfl rfl rfl (by omega) ?_
  refine dr U 600 rfl trivial ?_
  refine il U rfl rfl rfl rfl rfl rfl rfl (fun _ => rfl) rfl kind rfl (by omega) (hk17.sl 0) (ivs_get (l := [1, (n : Int), normF rows]) (i := kind) (by simp; omega)) ?_
  rw [hwant]
  refine cT rfl rfl rfl rfl ?_
  refine dr U 600 rfl trivial ?_
  exact ret Tryz.results4 rfl ⟨_, rfl, rfl, hB17⟩
end Go.Proofs.YtejlpdbiacmfcaaGreatDoor
end
