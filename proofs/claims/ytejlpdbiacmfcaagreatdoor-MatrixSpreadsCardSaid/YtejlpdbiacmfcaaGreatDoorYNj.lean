/-
  Walk of package matrix's Estimate.
  Conditions: at most 7 cells, or an invalid number of cells; the library's table of powers of ten is laid.

  Pairs of ints in memory: the engine's rules for arrays of two ints; full slice expressions; walks of ranged, Answers.
  Conditions: the numbers' digits fit; the library's table of powers of ten is laid.

  Walk of package matrix's Answers.
  Conditions: the sums' digits fit; the cells' capacity reaches over them; the library's table of powers of ten is laid.
-/
import Derived.Test.YtejlpdbiacmfcaaGreatDoorYSs
import Derived.Test.YtejlpdbiacmfcaaGreatDoorYVb
import Derived.Test.YtejlpdbiacmfcaaGreatDoorYVe
import Derived.Test.YtejlpdbiacmfcaaGreatDoorYHs
import Derived.Test.YtejlpdbiacmfcaaGreatDoorYNi
section
set_option linter.unusedSimpArgs false
set_option linter.unusedVariables false
set_option maxHeartbeats 2000000
namespace Go.Proofs.YtejlpdbiacmfcaaGreatDoor
open Go Go.Proofs Go.RowKit Go.Lib

theorem irow_strat {kind n : Int} {i : Nat} (h : i < (strat kind n).length) : (irow (strat kind n) i).length = n.toNat := by
  have hs : strat kind n ≠ [] := fun e => by rw [e] at h; simp at h
  have h1 := (strat_kind hs).1
  obtain ⟨m, rfl⟩ : ∃ m : Nat, n = (m : Int) := ⟨n.toNat, by omega⟩
  rw [Int.toNat_natCast]
  exact strat_length (irow_mem h)
theorem sysP_of {kind n : Int} {b : Nat → Rat} (hs : strat kind n ≠ []) (hn : n ≤ 7) (hb : ∀ i, i < n.toNat → Isn 13000000000000 (b i)) : SysP (strat kind n) n.toNat b := by
  have h1 := (strat_kind hs).1
  exact ⟨by omega, by omega, List.length_pos_iff.2 hs, strat_len7 hn, fun i hi => irow_strat hi, strat_bits kind n, strat_reg hs, fun x hx i hi => small_mono (stsol_small hs hn hb x hx i hi) (by omega), fun i hi => isn_small (hb i hi) (by omega) (by omega)⟩
theorem ratsI_small {l : List Int} {B : Int} (h : Wthn l B) (hB : 0 ≤ B ∧ B ≤ 1000000000000) (i : Nat) : Small 13 (ratsI l i) := by
  have := wthn_get h hB.1 i
  exact small_int (by omega) (by omega)
/-- What an estimate of numbers is. -/
def EstR (kind n : Int) (noisy : List Int) (v : Value) (w : World) : Prop :=
  (strat kind n = [] ∧ v = .tuple ⟨[.slice none 0 0, .int .i64 2]⟩) ∨ (strat kind n ≠ [] ∧ noisy.length ≠ (strat kind n).length ∧ v = .tuple ⟨[.slice none 0 0, .int .i64 10]⟩) ∨
  (strat kind n ≠ [] ∧ noisy.length = (strat kind n).length ∧ ¬ Wthn noisy 1000000000000 ∧ v = .tuple ⟨[.slice none 0 0, .int .i64 2]⟩) ∨
  (strat kind n ≠ [] ∧ noisy.length = (strat kind n).length ∧ Wthn noisy 1000000000000 ∧ FitR (strat kind n) n.toNat (fun i => rhs (strat kind n) (ratsI noisy) i (strat kind n).length) v w)
theorem rhs_small {kind n : Int} (hn : n ≤ 7) {y : List Int} (hy : Wthn y 1000000000000) (i j : Nat) (hj : j ≤ (strat kind n).length) : Isn 13000000000000 (rhs (strat kind n) (ratsI y) i j) :=
  rhs_isn (B := 1000000000000) (M := 13) (strat_len7 hn) hy (by omega) i j hj
theorem mest_calls (kind n : Int) (noisy : List Int) (hn : n ≤ 7 ∨ 64 < n) (hl : noisy.length ≤ 1099511627776) (a : Option Addr) (c : Nat) (w : World) (hs : Sl w a (ivs noisy)) (ht : TabOk w) :
    Calls Tryz.prog 12 #[.int .i64 kind, .int .i64 n, .slice a noisy.length c] w (Ret fun v w' => EstR kind n noisy v w' ∧ Below w.heap.size w w') := by
  refine enter Tryz.func12 rfl Tryz.ntmps12 (Nat.le_of_ble_eq_true rfl) ?_
  refine dr U 600 rfl trivial ?_
  refine call (f := 11) rfl rfl cb11 (mstrat_calls kind n w) ?_
  rintro v w1 ⟨⟨a1, c1, rfl, hO, hnil⟩, hB1⟩
  refine ⟨_, rfl, ?_⟩
  refine dr U 600 rfl trivial ?_
  refine eqNil U rfl rfl rfl rfl rfl ?_
  by_cases hst : strat kind n = []
  · rw [(hnil hst).1]
    refine dr U 600 rfl trivial ?_
    exact ret Tryz.results12 rfl ⟨_, rfl, .inl ⟨hst, rfl⟩, hB1⟩
  have hn7 : n ≤ 7 := by
    rcases hn with h | h
    · exact h
    · exact absurd (strat_out (.inr h)) hst
  have hpos := List.length_pos_iff.2 hst
  have hOs := hO.sz
  obtain ⟨ga, rfl⟩ : ∃ ga, a1 = some ga := by
    obtain ⟨A, C, h1, _⟩ := hO
    obtain ⟨go, h⟩ := own_go h1 hpos
    exact ⟨_, h⟩
  have hln := strat_len7 (kind := kind) hn7
  have hPb := fun hw : Wthn noisy 1000000000000 => fun (i : Nat) (_ : i < n.toNat) => rhs_small (kind := kind) hn7 hw i (strat kind n).length (Nat.le_refl _)
  have hPr := fun hw : Wthn noisy 1000000000000 => fun (i : Nat) (_ : i < n.toNat) (j : Nat) (hj : j ≤ (strat kind n).length) => isn_small (K := 15) (rhs_small (kind := kind) hn7 hw i j hj) (by omega) (by omega)
  have hP := fun hw => sysP_of (b := fun i => rhs (strat kind n) (ratsI noisy) i (strat kind n).length) hst hn7 (hPb hw)
  have hE := fun (v : Value) (w' : World) => show ((strat kind n = [] ∧ v = .tuple ⟨[.slice none 0 0, .int .i64 2]⟩) ∨ (strat kind n ≠ [] ∧ noisy.length ≠ (strat kind n).length ∧ v = .tuple ⟨[.slice none 0 0, .int .i64 10]⟩) ∨
    (strat kind n ≠ [] ∧ noisy.length = (strat kind n).length ∧ ¬ Wthn noisy 1000000000000 ∧ v = .tuple ⟨[.slice none 0 0, .int .i64 2]⟩) ∨
    (strat kind n ≠ [] ∧ noisy.length = (strat kind n).length ∧ Wthn noisy 1000000000000 ∧ FitR (strat kind n) n.toNat (fun i => rhs (strat kind n) (ratsI noisy) i (strat kind n).length) v w')) → EstR kind n noisy v w' from fun h => h
  refine dr U 600 rfl trivial ?_
  refine cS rfl rfl rfl rfl (fun hq1 => ?_) (fun hq1 => ?_)
  · refine dr U 600 rfl trivial ?_
    exact ret Tryz.results12 rfl ⟨_, rfl, .inr (.inl ⟨hst, by omega, rfl⟩), hB1⟩
  have hlen : noisy.length = (strat kind n).length := by omega
  refine dr U 600 rfl trivial ?_
  refine call (f := 38) rfl rfl cb38 (within_calls noisy 1000000000000 (by omega) hl a c w1 (hs.stay hB1)) ?_
  rintro v w2 ⟨rfl, hB2⟩
  have hB2' := bl_tr hB1 hB2 hB1.size
  refine ⟨_, rfl, ?_⟩
  by_cases hw : Wthn noisy 1000000000000
  case neg =>
    rw [decide_eq_false hw]
    refine dr U 600 rfl trivial ?_
    exact ret Tryz.results12 rfl ⟨_, rfl, .inr (.inr (.inl ⟨hst, hlen, hw, rfl⟩)), hB2'⟩
  rw [decide_eq_true hw]
  have hsm := ratsI_small hw (by omega)
  refine dr U 600 rfl trivial ?_
  refine loopR (fun fr w' m => ∃ (i : Nat) (a2 : Option Addr) (c2 : Nat), fr = [(8, .slice (some ga) (strat kind n).length c1), (9, .slice a2 i c2), (28, .slice a noisy.length c), (29, .int .i64 (noisy.length : Nat)), (30, .int .i64 (i : Nat))] ∧ i ≤ noisy.length ∧ w'.ownsRow w2.heap.size 35 1 (.slice a2 i c2) i (strs (txs i (ratsI noisy))) ∧ Below w2.heap.size w2 w' ∧ m = noisy.length - i)
    ⟨0, none, 0, rfl, by omega, ⟨rfl, .inl ⟨rfl, rfl⟩⟩, Below.refl _ _, rfl⟩ (by repeat' (first | exact True.intro | exact rfl | exact iv (by omega) | refine ⟨?_, ?_⟩)) ?_
  rintro fr w3 m ⟨i, a2, c2, rfl, hi, ho, hB3, rfl⟩
  have hB3' := bl_tr hB2' hB3 hB2'.size
  refine dr U 600 rfl trivial ?_
  refine cS rfl rfl rfl rfl (fun hq2 => ?_) (fun hq2 => ?_)
  · have hil : i < noisy.length := by omega
    have hwi := wthn_get hw (by omega) i
    refine dr U 600 rfl trivial ?_
    refine il U rfl rfl rfl rfl rfl rfl rfl (fun _ => rfl) rfl i rfl hil (hs.stay hB3') (ivs_get hil) ?_
    refine dr U 600 rfl trivial ?_
    refine call (f := 43) rfl rfl cb43 (mint_calls (noisy.getD i 0) (by omega) (by omega) w3 (ht.below hB3')) ?_
    rintro v w4 ⟨rfl, hB4⟩
    have hB4' := bl_tr hB3 hB4 hB3.size
    have ho4 := own_bw ho hB4
    refine ⟨_, rfl, ?_⟩
    refine ap U (v := (.string ⟨⟨qtext ((noisy.getD i 0 : Int) : Rat)⟩⟩)) rfl rfl rfl rfl rfl rfl (fun _ => rfl) rfl (fun _ => rfl) rfl rfl rfl ho4 hB4'.size (by omega) (by decide) ?_
    intro a5 c5 w5 ho5 hg5
    have hB5 := hB4'.grown hg5 hB4'.size (fun g e => (own_block ho4 g e).1)
    have ho5 : w5.ownsRow w2.heap.size 35 1 (.slice a5 (i + 1) c5) (i + 1) (strs (txs (i + 1) (ratsI noisy))) := by rw [← strs_txs_snoc]; exact ho5
    refine dr U 600 rfl (by first | exact True.intro | (simp only [AllP, InR, List.nil_append, List.cons_append, and_true]; omega)) ?_
    exact rend _ _ ⟨i + 1, a5, c5, rfl, by omega, ho5, hB5, rfl⟩ (by omega) (by repeat' (first | exact True.intro | exact rfl | exact iv (by omega) | refine ⟨?_, ?_⟩))
  · obtain rfl : i = noisy.length := by omega
    rw [hlen] at ho ⊢
    have hfit := mfit_calls (strat kind n) n.toNat (ratsI noisy) _ (fun _ => rfl) (hP hw) (fun j _ => small_mono (hsm j) (by omega)) (hPr hw) (some ga) a2 c1 c2 w3 (hOs.stay (bl_tr hB2 hB3 hB2.size)) ⟨a2, c2, by rw [txs_length], own_sl ho⟩ (ht.below hB3')
    refine dr U 600 rfl trivial ?_
    refine call (f := 44) rfl rfl cb44 hfit ?_
    rintro v w4 ⟨hf, hB4⟩
    have hf0 := hf
    obtain ⟨x, ax, cx, hx1, hx2, rfl, hx3, hx4⟩ := hf0
    refine ⟨_, rfl, ?_⟩
    refine dr U 600 rfl trivial ?_
    exact ret Tryz.results12 rfl ⟨_, rfl, .inr (.inr (.inr ⟨hst, hlen, hw, hf⟩)), bl_tr hB3' hB4 hB3'.size⟩
end Go.Proofs.YtejlpdbiacmfcaaGreatDoor
end
section
set_option linter.unusedSimpArgs false
set_option linter.unusedVariables false
set_option maxHeartbeats 2000000
namespace Go.Proofs.YtejlpdbiacmfcaaGreatDoor
open Go Go.Proofs Go.RowKit Go.Lib

section
variable {P : Program} (U : Tys P) {ro : Option Nat} {n : Nat} {ds : List Deferred} {Q : PT} {l l' : Fr} {w w' : World} {arr : Array Oper} {r : List Oper} {k : List It}
/-- A slice of a slice up to a bound that is its capacity too. -/
theorem s3 {x1 : Nat} {t e ty : TypeId} {x lo hi mx : Operand} {ps : String} {af : Array Edge} {g1 : Option (Nat × Bool)} {a : Option Addr} {m c : Nat} {kl kh km : IntKind} {lv hv mv : Int}
    (hx : ev l x = some (.slice a m c)) (hlo : ev l lo = some (.int kl lv)) (hhi : ev l hi = some (.int kh hv)) (hmx : ev l mx = some (.int km mv)) (ht : U.tb.u t = some (.slice e)) (hz : U.tb.sz e = some 1) (hg1 : gd arr l g1 = some true) (hx1 : Nat.blt x1 n = true)
    (p q : Nat) (hp : lv = (p : Int)) (hq : hv = (q : Int)) (hq2 : mv = (q : Int)) (hpq : p ≤ q) (hqc : q ≤ c)
    (t' : T P ro n ds Q ((x1, .slice (sadd a q p 1) (q - p) (q - p)) :: l) w (.ops arr r) k) :
    T P ro n ds Q l w (.ops arr (⟨some x1, .slice t x (some lo) (some hi) (some mx), ty, ps, af, g1⟩ :: r)) k := by
  subst hp; subst hq; subst hq2
  obtain ⟨ii, hi0, hz0⟩ := U.hs _ _ hz
  refine op1 (w' := w) (v := .slice (sadd a q p 1) (q - p) (q - p)) (by intro c h; cases h) hg1 (put1_some hx1) (fun act hf => ?_) t'
  have h1 : (0 : Int) ≤ (q : Int) ∧ (q : Int) ≤ (c : Int) := by omega
  have h2 : (0 : Int) ≤ (q : Int) ∧ (q : Int) ≤ (q : Int) := by omega
  have h3 : (0 : Int) ≤ (p : Int) ∧ (p : Int) ≤ (q : Int) := by omega
  simp [execOp, hf.ev hx, hf.ev hlo, hf.ev hhi, hf.ev hmx, Instr.sliceAt, Instr.slice, run_under (U.hu _ _ ht), Instr.sliceBounds, Instr.sliceBound, asIntOf, sizeOf, typeInfo, program, hi0, hz0, Sem.run, h1, h2, h3, sadd, hqc, hpq]
end

/-- Pairs as values. -/
def pvs (rs : List (Int × Int)) : List Value := rs.flatMap fun r => [.int .i64 r.1, .int .i64 r.2]
theorem mranged_calls (lo hi n : Int) (w : World) : Calls Tryz.prog 48 #[.int .i64 lo, .int .i64 hi, .int .i64 n] w (Ret fun v w' => v = .bool (decide (0 ≤ lo ∧ lo ≤ hi ∧ hi < n)) ∧ w = w') := by
  refine enter Tryz.func48 rfl Tryz.ntmps48 (Nat.le_of_ble_eq_true rfl) ?_
  refine dr U 600 rfl trivial ?_
  refine cS rfl rfl rfl rfl (fun hq1 => ?_) (fun hq1 => ?_)
  · refine dr U 600 rfl trivial ?_
    refine cS rfl rfl rfl rfl (fun hq2 => ?_) (fun hq2 => ?_)
    · refine dr U 600 rfl trivial ?_
      refine cS rfl rfl rfl rfl (fun hq3 => ?_) (fun hq3 => ?_)
      · refine dr U 600 rfl trivial ?_
        exact ret Tryz.results48 rfl ⟨_, rfl, by rw [decide_eq_true ⟨hq1, hq2, hq3⟩]; rfl, rfl⟩
      · refine dr U 600 rfl trivial ?_
        exact ret Tryz.results48 rfl ⟨_, rfl, by rw [decide_eq_false (fun h => hq3 h.2.2)]; rfl, rfl⟩
    · refine dr U 600 rfl trivial ?_
      exact ret Tryz.results48 rfl ⟨_, rfl, by rw [decide_eq_false (fun h => hq2 h.2.1)]; rfl, rfl⟩
  · refine dr U 600 rfl trivial ?_
    exact ret Tryz.results48 rfl ⟨_, rfl, by rw [decide_eq_false (fun h => hq1 h.1)]; rfl, rfl⟩
end Go.Proofs.YtejlpdbiacmfcaaGreatDoor
end
section
set_option linter.unusedSimpArgs false
set_option linter.unusedVariables false
set_option maxHeartbeats 2000000
namespace Go.Proofs.YtejlpdbiacmfcaaGreatDoor
open Go Go.Proofs Go.RowKit Go.Lib

end Go.Proofs.YtejlpdbiacmfcaaGreatDoor
end
