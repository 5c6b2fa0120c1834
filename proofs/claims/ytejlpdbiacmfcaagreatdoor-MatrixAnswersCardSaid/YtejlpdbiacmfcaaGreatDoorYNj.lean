/-
  Walk of package matrix's Estimate.
  Conditions: at most 7 cells, or an invalid number of cells; the library's table of powers of ten is laid.
  Pairs of ints in memory: the engine's rules for arrays of two ints; full slice expressions; walks of ranged, Answers.
  Conditions: the numbers' digits fit; the library's table of powers of ten is laid.
  Walk of package matrix's Answers.
  Conditions: the sums' digits fit; the cells' capacity reaches over them; the library's table of powers of ten is laid.
-/
import Derived.Test.YtejlpdbiacmfcaaGreatDoorYSs
import Derived.Test.YtejlpdbiacmfcaaGreatDoorYLa
import Derived.Test.YtejlpdbiacmfcaaGreatDoorYLb
import Derived.Test.YtejlpdbiacmfcaaGreatDoorYGg
import Derived.Test.YtejlpdbiacmfcaaGreatDoorYNi
set_option linter.unusedSimpArgs false
set_option linter.unusedVariables false
namespace Go.Proofs.YtejlpdbiacmfcaaGreatDoor
section
set_option maxHeartbeats 2000000
open Go Go.Proofs Go.RowKit Go.Lib

theorem irow_strat {kind n : Int} {i : Nat} (h : i < (strat kind n).length) : (irow (strat kind n) i).length = n.toNat := by
 have hs : strat kind n ≠ [] := fun e => by rw [e] at h; simp at h
 have h1 := (strat_kind hs).1
 obtain ⟨m, rfl⟩ : ∃ m : Nat, n = (m : Int) := ⟨n.toNat, by omega⟩
 rw [Int.toNat_natCast]
 exact strat_length (irow_mem h)
theorem sysP_of {kind n : Int} {b : Nat → Rat} (hs : strat kind n ≠ []) (hn : n ≤ 7) (hb : ∀ i, i < n.toNat → Isn 13000000000000 (b i)) : SysP (strat kind n) n.toNat b := by
 have h1 := (strat_kind hs).1
 exact ⟨by omega, by omega, List.length_pos_iff.2 hs, strat_len7 hn, fun i hi => irow_strat hi, strat_bits kind n, strat_reg hs, fun x hx i hi => small_mono (stsol_small hs hn hb x hx i hi) (by omega), fun i hi => isn_small (hb i hi) (by omega) (by omega)⟩
theorem ratsI_small {l : List Int} {B : Int} (h : Wthn l B) (hB : 0 ≤ B ∧ B ≤ 1000000000000) (i : Nat) : Small 13 (ratsI l i) := by
 have := wthn_get h hB.1 i
 exact small_int (by omega) (by omega)
def EstR (kind n : Int) (noisy : List Int) (v : Value) (w : World) : Prop :=
 (strat kind n = [] ∧ v = .tuple ⟨[.slice none 0 0, .int .i64 2]⟩) ∨ (strat kind n ≠ [] ∧ noisy.length ≠ (strat kind n).length ∧ v = .tuple ⟨[.slice none 0 0, .int .i64 10]⟩) ∨
 (strat kind n ≠ [] ∧ noisy.length = (strat kind n).length ∧ ¬ Wthn noisy 1000000000000 ∧ v = .tuple ⟨[.slice none 0 0, .int .i64 2]⟩) ∨
 (strat kind n ≠ [] ∧ noisy.length = (strat kind n).length ∧ Wthn noisy 1000000000000 ∧ FitR (strat kind n) n.toNat (fun i => rhs (strat kind n) (ratsI noisy) i (strat kind n).length) v w)
theorem rhs_small {kind n : Int} (hn : n ≤ 7) {y : List Int} (hy : Wthn y 1000000000000) (i j : Nat) (hj : j ≤ (strat kind n).length) : Isn 13000000000000 (rhs (strat kind n) (ratsI y) i j) :=
 rhs_isn (B := 1000000000000) (M := 13) (strat_len7 hn) hy (by omega) i j hj
theorem mest_calls (kind n : Int) (noisy : List Int) (hn : n ≤ 7 ∨ 64 < n) (hl : noisy.length ≤ 1099511627776) (a : Option Addr) (c : Nat) (w : World) (hs : Sl w a (ivs noisy)) (ht : TabOk w) :
  Calls Tryz.prog 12 #[.int .i64 kind, .int .i64 n, .slice a noisy.length c] w (Ret fun v w' => EstR kind n noisy v w' ∧ Below w.heap.size w w') := by
 refine enter Tryz.func12 rfl Tryz.ntmps12 (Nat.le_of_ble_eq_true rfl) ?_
 refine dT rfl ?_
 refine call (f := 11) rfl rfl cb11 (mstrat_calls kind n w) ?_
 rintro v w1 ⟨⟨a1, c1, rfl, hO, hnil⟩, hB1⟩
 refine ⟨_, rfl, ?_⟩
 refine dT rfl ?_
 refine eqNil U rfl rfl rfl rfl rfl ?_
 by_cases hst : strat kind n = []
 ·rw [(hnil hst).1]
  refine dT rfl ?_
  exact ret Tryz.results12 rfl ⟨_, rfl, .inl ⟨hst, rfl⟩, hB1⟩
 have hn7 : n ≤ 7 := by
  rcases hn with h | h
  ·exact h
  ·exact absurd (strat_out (.inr h)) hst
 have hpos := List.length_pos_iff.2 hst
 have hOs := hO.sz
 obtain ⟨ga, rfl⟩ : ∃ ga, a1 = some ga := by
  obtain ⟨A, C, h1, _⟩ := hO
  obtain ⟨go, h⟩ := own_go h1 hpos
  exact ⟨_, h⟩
 have hln := strat_len7 (kind := kind) hn7
 have hPb := fun hw : Wthn noisy 1000000000000 => fun (i : Nat) (_ : i < n.toNat) => rhs_small (kind := kind) hn7 hw i (strat kind n).length (Nat.le_refl _)
 have hPr := fun hw : Wthn noisy 1000000000000 => fun (i : Nat) (_ : i < n.toNat) (j : Nat) (hj : j ≤ (strat kind n).length) => isn_small (K := 15) (rhs_small (kind := kind) hn7 hw i j hj) (by omega) (by omega)
 have hP := fun hw => sysP_of (b := fun i => rhs (strat kind n) (ratsI noisy) i (strat kind n).length) hst hn7 (hPb hw)
 have hE := fun (v : Value) (w' : World) => show ((strat kind n = [] ∧ v = .tuple ⟨[.slice none 0 0, .int .i64 2]⟩) ∨ (strat kind n ≠ [] ∧ noisy.length ≠ (strat kind n).length ∧ v = .tuple ⟨[.slice none 0 0, .int .i64 10]⟩) ∨
  (strat kind n ≠ [] ∧ noisy.length = (strat kind n).length ∧ ¬ Wthn noisy 1000000000000 ∧ v = .tuple ⟨[.slice none 0 0, .int .i64 2]⟩) ∨
  (strat kind n ≠ [] ∧ noisy.length = (strat kind n).length ∧ Wthn noisy 1000000000000 ∧ FitR (strat kind n) n.toNat (fun i => rhs (strat kind n) (ratsI noisy) i (strat kind n).length) v w')) → EstR kind n noisy v w' from fun h => h
 refine dT rfl ?_
 refine cS rfl rfl rfl rfl (fun hq1 => ?_) (fun hq1 => ?_)
 ·refine dT rfl ?_
  exact ret Tryz.results12 rfl ⟨_, rfl, .inr (.inl ⟨hst, by omega, rfl⟩), hB1⟩
 have hlen : noisy.length = (strat kind n).length := by omega
 refine dT rfl ?_
 refine call (f := 38) rfl rfl cb38 (within_calls noisy 1000000000000 (by omega) hl a c w1 (hs.stay hB1)) ?_
 rintro v w2 ⟨rfl, hB2⟩
 have hB2' := bl_tr hB1 hB2 hB1.size
 refine ⟨_, rfl, ?_⟩
 by_cases hw : Wthn noisy 1000000000000
 case neg =>
  rw [decide_eq_false hw]
  refine dT rfl ?_
  exact ret Tryz.results12 rfl ⟨_, rfl, .inr (.inr (.inl ⟨hst, hlen, hw, rfl⟩)), hB2'⟩
 rw [decide_eq_true hw]
 have hsm := ratsI_small hw (by omega)
 refine dT rfl ?_
 refine loopR (fun fr w' m => ∃ (i : Nat) (a2 : Option Addr) (c2 : Nat), fr = [(8, .slice (some ga) (strat kind n).length c1), (9, .slice a2 i c2), (28, .slice a noisy.length c), (29, .int .i64 (noisy.length : Nat)), (30, .int .i64 (i : Nat))] ∧ i ≤ noisy.length ∧ w'.ownsRow w2.heap.size 35 1 (.slice a2 i c2) i (strs (txs i (ratsI noisy))) ∧ Below w2.heap.size w2 w' ∧ m = noisy.length - i)
  ⟨0, none, 0, rfl, by omega, ⟨rfl, .inl ⟨rfl, rfl⟩⟩, Below.refl _ _, rfl⟩ (by repeat' (first | exact True.intro | exact rfl | exact iv (by omega) | refine ⟨?_, ?_⟩)) ?_
 rintro fr w3 m ⟨i, a2, c2, rfl, hi, ho, hB3, rfl⟩
 have hB3' := bl_tr hB2' hB3 hB2'.size
 refine dT rfl ?_
 refine cS rfl rfl rfl rfl (fun hq2 => ?_) (fun hq2 => ?_)
 ·have hil : i < noisy.length := by omega
  have hwi := wthn_get hw (by omega) i
  refine dT rfl ?_
  refine il U rfl rfl rfl rfl rfl rfl rfl (fun _ => rfl) rfl i rfl hil (hs.stay hB3') (ivs_get hil) ?_
  refine dT rfl ?_
  refine call (f := 43) rfl rfl cb43 (mint_calls (noisy.getD i 0) (by omega) (by omega) w3 (ht.below hB3')) ?_
  rintro v w4 ⟨rfl, hB4⟩
  have hB4' := bl_tr hB3 hB4 hB3.size
  have ho4 := own_bw ho hB4
  refine ⟨_, rfl, ?_⟩
  refine ap U (v := (.string ⟨⟨qtext ((noisy.getD i 0 : Int) : Rat)⟩⟩)) rfl rfl rfl rfl rfl rfl (fun _ => rfl) rfl (fun _ => rfl) rfl rfl rfl ho4 hB4'.size (by omega) (by decide) ?_
  intro a5 c5 w5 ho5 hg5
  have hB5 := hB4'.grown hg5 hB4'.size (fun g e => (own_block ho4 g e).1)
  have ho5 : w5.ownsRow w2.heap.size 35 1 (.slice a5 (i + 1) c5) (i + 1) (strs (txs (i + 1) (ratsI noisy))) := by rw [← strs_txs_snoc]; exact ho5
  refine dS rfl ?_
  exact rend _ _ ⟨i + 1, a5, c5, rfl, by omega, ho5, hB5, rfl⟩ (by omega) (by repeat' (first | exact True.intro | exact rfl | exact iv (by omega) | refine ⟨?_, ?_⟩))
 ·obtain rfl : i = noisy.length := by omega
  rw [hlen] at ho ⊢
  have hfit := mfit_calls (strat kind n) n.toNat (ratsI noisy) _ (fun _ => rfl) (hP hw) (fun j _ => small_mono (hsm j) (by omega)) (hPr hw) (some ga) a2 c1 c2 w3 (hOs.stay (bl_tr hB2 hB3 hB2.size)) ⟨a2, c2, by rw [txs_length], own_sl ho⟩ (ht.below hB3')
  refine dT rfl ?_
  refine call (f := 44) rfl rfl cb44 hfit ?_
  rintro v w4 ⟨hf, hB4⟩
  have hf0 := hf
  obtain ⟨x, ax, cx, hx1, hx2, rfl, hx3, hx4⟩ := hf0
  refine ⟨_, rfl, ?_⟩
  refine dT rfl ?_
  exact ret Tryz.results12 rfl ⟨_, rfl, .inr (.inr (.inr ⟨hst, hlen, hw, hf⟩)), bl_tr hB3' hB4 hB3'.size⟩
end
section
set_option maxHeartbeats 2000000
open Go Go.Proofs Go.RowKit Go.Lib

def ArrOk (P : Program) (t s : Nat) : Prop := (∃ n e, P.underlying t = some (.array n e)) ∧ ∃ i, P.info? t = some i ∧ i.size = s
theorem ar_pair : ArrOk Tryz.prog 33 2 := ⟨⟨_, _, Tryz.underlying33⟩, inf33.sz⟩
section
variable {P : Program} (U : Tys P) {ro : Option Nat} {n : Nat} {ds : List Deferred} {Q : PT} {l l' : Fr} {w w' : World} {arr : Array Oper} {r : List Oper} {k : List It}
theorem run_load_arr {t : TypeId} {s b off : Nat} {cs : List Value} (h : ArrOk P t s) (hc : ∀ j v, cs[j]? = some v → w.cell? ⟨b, off + j, none⟩ = some v) (hs : cs.length = s) :
  (loadVar t ⟨b, off, none⟩).run P w = .ok (.agg ⟨cs⟩) w := by
 obtain ⟨⟨m, e, hu⟩, i, hi, hz⟩ := h
 exact run_loadVar_mid w b off t cs (.array m e) hc hu rfl (by rw [hi]; simp [hz, hs])
theorem lgr {dst : Option Nat} {t ty : TypeId} {x : Operand} {ps : String} {af : Array Edge} {g : Option (Nat × Bool)} {p : Addr} {b off s : Nat} {cs : List Value} (hx : ev l x = some (.pointer (some p))) (hp : p = ⟨b, off, none⟩) (ht : ArrOk P t s) (hg : gd arr l g = some true)
  (hl : put1 n l dst (.agg ⟨cs⟩) = some l') (hc : ∀ j v, cs[j]? = some v → w.cell? ⟨b, off + j, none⟩ = some v) (hs : cs.length = s) (t' : T P ro n ds Q l' w (.ops arr r) k) : T P ro n ds Q l w (.ops arr (⟨dst, .load t x, ty, ps, af, g⟩ :: r)) k := by
 subst hp
 exact op1 (by intro c h; cases h) hg hl (fun a hf => by
  simp only [execOp, hf.ev hx, Instr.loadAt, Instr.sureAddr]
  simp [run_load_arr ht hc hs]) t'
theorem igr {x1 d2 : Nat} {t e t2 ty ty2 : TypeId} {x i : Operand} {ps ps2 : String} {af af2 : Array Edge} {g1 g2 : Option (Nat × Bool)} {a : Option Addr} {m c s : Nat} {ki : IntKind} {iv : Int} {vs cs : List Value}
  (hx : ev l x = some (.slice a m c)) (hi : ev l i = some (.int ki iv)) (ht : U.tb.u t = some (.slice e)) (hz : U.tb.sz e = some s) (h2 : ArrOk P t2 s)
  (hg1 : gd arr l g1 = some true) (hx1 : Nat.blt x1 n = true) (hg2 : ∀ p, gd arr ((x1, p) :: l) g2 = some true) (hd2 : Nat.blt d2 n = true)
  (j : Nat) (hj : iv = (j : Int)) (hm : j < m) (hs : Sl w a vs) (hcs : ∀ i v, cs[i]? = some v → vs[j * s + i]? = some v) (hlen : cs.length = s) (hpos : 0 < s)
  (t' : T P ro n ds Q ((d2, .agg ⟨cs⟩) :: (x1, .pointer (a.map (·.add (j * s)))) :: l) w (.ops arr r) k) :
  T P ro n ds Q l w (.ops arr (⟨some x1, .indexAddr t x i, ty, ps, af, g1⟩ :: ⟨some d2, .load t2 (.tmp x1), ty2, ps2, af2, g2⟩ :: r)) k := by
 have hlt : j * s < vs.length := by
  have := hcs 0 cs[0] (List.getElem?_eq_getElem (by omega))
  have := (List.getElem?_eq_some_iff.1 this).1
  omega
 obtain ⟨g, off, rfl, hc⟩ := hs.at hlt
 refine ia U hx hi ht hz hg1 hx1 j hj hm ?_
 refine lgr (p := ⟨g, off + j * s, none⟩) (by simp [ev, look_cons]) rfl h2 (hg2 _) (put1_some hd2) (cs := cs) (fun i v hv => by rw [Nat.add_assoc]; exact hc _ v (hcs i v hv)) hlen ?_
 simpa [add_plain] using t'
theorem ja {x1 : Nat} {t e ty : TypeId} {x i : Operand} {ps : String} {af : Array Edge} {g1 : Option (Nat × Bool)} {g off m : Nat} {ki : IntKind} {iv : Int}
  (hx : ev l x = some (.pointer (some ⟨g, off, none⟩))) (hi : ev l i = some (.int ki iv)) (ht : U.tb.u t = some (.array m e)) (hz : U.tb.sz e = some 1) (hg1 : gd arr l g1 = some true) (hx1 : Nat.blt x1 n = true)
  (j : Nat) (hj : iv = (j : Int)) (hm : j < m)
  (t' : T P ro n ds Q ((x1, .pointer (some ⟨g, off + j, none⟩)) :: l) w (.ops arr r) k) :
  T P ro n ds Q l w (.ops arr (⟨some x1, .indexAddr t x i, ty, ps, af, g1⟩ :: r)) k := by
 subst hj
 obtain ⟨ii, hi0, hz0⟩ := U.hs _ _ hz
 refine op1 (w' := w) (v := .pointer (some ⟨g, off + j, none⟩)) (by intro c h; cases h) hg1 (put1_some hx1) (fun a hf => ?_) t'
 have h1 : (0 : Int) ≤ (j : Int) ∧ (j : Int) < (m : Int) := by omega
 have hrun : (Instr.indexAt t (.pointer (some ⟨g, off, none⟩)) (.int ki (j : Int))).run P w = .ok (.pointer (some ⟨g, off + j, none⟩)) w := by
  simp only [Instr.indexAt, Sem.run_bind, asIntOf, Instr.sureAddr, Sem.run_pure, Result.andThen, run_under (U.hu _ _ ht), if_pos h1]
  simp [sizeOf, typeInfo, program, hi0, hz0, Sem.run, add_plain]
 simp [execOp, hf.ev hx, hf.ev hi, hrun]
theorem s3 {x1 : Nat} {t e ty : TypeId} {x lo hi mx : Operand} {ps : String} {af : Array Edge} {g1 : Option (Nat × Bool)} {a : Option Addr} {m c : Nat} {kl kh km : IntKind} {lv hv mv : Int}
  (hx : ev l x = some (.slice a m c)) (hlo : ev l lo = some (.int kl lv)) (hhi : ev l hi = some (.int kh hv)) (hmx : ev l mx = some (.int km mv)) (ht : U.tb.u t = some (.slice e)) (hz : U.tb.sz e = some 1) (hg1 : gd arr l g1 = some true) (hx1 : Nat.blt x1 n = true)
  (p q : Nat) (hp : lv = (p : Int)) (hq : hv = (q : Int)) (hq2 : mv = (q : Int)) (hpq : p ≤ q) (hqc : q ≤ c)
  (t' : T P ro n ds Q ((x1, .slice (sadd a q p 1) (q - p) (q - p)) :: l) w (.ops arr r) k) :
  T P ro n ds Q l w (.ops arr (⟨some x1, .slice t x (some lo) (some hi) (some mx), ty, ps, af, g1⟩ :: r)) k := by
 subst hp; subst hq; subst hq2
 obtain ⟨ii, hi0, hz0⟩ := U.hs _ _ hz
 refine op1 (w' := w) (v := .slice (sadd a q p 1) (q - p) (q - p)) (by intro c h; cases h) hg1 (put1_some hx1) (fun act hf => ?_) t'
 have h1 : (0 : Int) ≤ (q : Int) ∧ (q : Int) ≤ (c : Int) := by omega
 have h2 : (0 : Int) ≤ (q : Int) ∧ (q : Int) ≤ (q : Int) := by omega
 have h3 : (0 : Int) ≤ (p : Int) ∧ (p : Int) ≤ (q : Int) := by omega
 simp [execOp, hf.ev hx, hf.ev hlo, hf.ev hhi, hf.ev hmx, Instr.sliceAt, Instr.slice, run_under (U.hu _ _ ht), Instr.sliceBounds, Instr.sliceBound, asIntOf, sizeOf, typeInfo, program, hi0, hz0, Sem.run, h1, h2, h3, sadd, hqc, hpq]
end

def pvs (rs : List (Int × Int)) : List Value := rs.flatMap fun r => [.int .i64 r.1, .int .i64 r.2]
theorem pvs_len : ∀ rs : List (Int × Int), (pvs rs).length = rs.length * 2
 | [] => rfl
 | r :: rs => by
  have := pvs_len rs
  unfold pvs at *
  rw [List.flatMap_cons, List.length_append, this, List.length_cons, List.length_cons, List.length_cons, List.length_nil]; omega
def pget (rs : List (Int × Int)) (i : Nat) : Int × Int := rs.getD i (0, 0)
theorem pvs_get : ∀ {rs : List (Int × Int)} {j : Nat}, j < rs.length → ∀ i v, [Value.int .i64 (pget rs j).1, Value.int .i64 (pget rs j).2][i]? = some v → (pvs rs)[j * 2 + i]? = some v
 | [], j, h => absurd h (by simp)
 | r :: rs, 0, _ => fun i v hv => by
  have hi : i < 2 := by simpa using (List.getElem?_eq_some_iff.1 hv).1
  unfold pvs
  rw [List.flatMap_cons, Nat.zero_mul, Nat.zero_add, List.getElem?_append_left (by simpa using hi)]
  exact hv
 | r :: rs, j + 1, h => fun i v hv => by
  have ih := pvs_get (rs := rs) (j := j) (by simpa using h) i v hv
  have e : pvs (r :: rs) = [.int .i64 r.1, .int .i64 r.2] ++ pvs rs := by unfold pvs; rw [List.flatMap_cons]
  rw [e, List.getElem?_append_right (by simp; omega)]
  rw [← ih]; congr 1; simp; omega
theorem mranged_calls (lo hi n : Int) (w : World) : Calls Tryz.prog 48 #[.int .i64 lo, .int .i64 hi, .int .i64 n] w (Ret fun v w' => v = .bool (decide (0 ≤ lo ∧ lo ≤ hi ∧ hi < n)) ∧ w = w') := by
 refine enter Tryz.func48 rfl Tryz.ntmps48 (Nat.le_of_ble_eq_true rfl) ?_
 refine dT rfl ?_
 refine cS rfl rfl rfl rfl (fun hq1 => ?_) (fun hq1 => ?_)
 ·refine dT rfl ?_
  refine cS rfl rfl rfl rfl (fun hq2 => ?_) (fun hq2 => ?_)
  ·refine dT rfl ?_
   refine cS rfl rfl rfl rfl (fun hq3 => ?_) (fun hq3 => ?_)
   ·refine dT rfl ?_
    exact ret Tryz.results48 rfl ⟨_, rfl, by rw [decide_eq_true ⟨hq1, hq2, hq3⟩]; rfl, rfl⟩
   ·refine dT rfl ?_
    exact ret Tryz.results48 rfl ⟨_, rfl, by rw [decide_eq_false (fun h => hq3 h.2.2)]; rfl, rfl⟩
  ·refine dT rfl ?_
   exact ret Tryz.results48 rfl ⟨_, rfl, by rw [decide_eq_false (fun h => hq2 h.2.1)]; rfl, rfl⟩
 ·refine dT rfl ?_
  exact ret Tryz.results48 rfl ⟨_, rfl, by rw [decide_eq_false (fun h => hq1 h.1)]; rfl, rfl⟩
theorem ans1_calls (lo hi : Int) (b : Option Addr) (n d q : Nat) (w : World) (hk : Bk w q 29 [.slice b n d]) :
  Calls Tryz.prog 47 #[.agg ⟨[.int .i64 lo, .int .i64 hi]⟩, .pointer (some ⟨q, 0, none⟩)] w (Ret fun v w' => v = .bool (decide (¬ Rgd n (lo, hi))) ∧ Below w.heap.size w w') := by
 refine enter Tryz.func47 rfl Tryz.ntmps47 (Nat.le_of_ble_eq_true rfl) ?_
 refine dT rfl ?_
 refine bx rfl rfl rfl rfl ?_
 intro b1 wa hb1 hsa hk1 hga
 have hB0 : Below w.heap.size w wa := (Below.refl _ _).grown hga (Nat.le_refl _) (fun k e => by cases e)
 have hk := hk.keep hga (by simp)
 refine dT rfl ?_
 refine ja U rfl rfl rfl rfl rfl rfl 0 rfl (by omega) ?_
 refine ld U rfl rfl rfl rfl (hk1.cell (off := 0) rfl) ?_
 refine ja U rfl rfl rfl rfl rfl rfl 1 rfl (by omega) ?_
 refine ld U rfl rfl rfl rfl (hk1.cell (off := 1) rfl) ?_
 refine ld U rfl rfl rfl rfl ((hk).cell rfl) ?_
 refine dT rfl ?_
 refine call (f := 48) rfl rfl cb48 (mranged_calls lo hi n wa) ?_
 rintro v w1 ⟨rfl, rfl⟩
 refine ⟨_, rfl, ?_⟩
 by_cases h : 0 ≤ lo ∧ lo ≤ hi ∧ hi < (n : Int)
 ·rw [decide_eq_true h]
  refine dT rfl ?_
  exact ret Tryz.results47 rfl ⟨_, rfl, by rw [decide_eq_false (not_not_intro (show Rgd n (lo, hi) from h))]; rfl, hB0⟩
 ·rw [decide_eq_false h]
  refine dT rfl ?_
  exact ret Tryz.results47 rfl ⟨_, rfl, by rw [decide_eq_true (show ¬ Rgd n (lo, hi) from h)]; rfl, hB0⟩
theorem ansI_calls (rs : List (Int × Int)) (hl : rs.length ≤ 1099511627776) (b : Option Addr) (n d q : Nat) (a : Option Addr) (c : Nat) (w : World) (hs : Sl w a (pvs rs)) (hk : Bk w q 29 [.slice b n d]) :
  Calls Tryz.prog 84 #[.slice a rs.length c, .func (.func 47) ⟨[]⟩ ⟨[.pointer (some ⟨q, 0, none⟩)]⟩] w (Ret fun v w' => (((∀ r, r ∈ rs → Rgd n r) ∧ v = .int .i64 (-1)) ∨ ((¬ ∀ r, r ∈ rs → Rgd n r) ∧ ∃ i : Nat, v = .int .i64 (i : Nat))) ∧ Below w.heap.size w w') := by
 have hlt := hk.lt
 refine enter Tryz.func84 rfl Tryz.ntmps84 (Nat.le_of_ble_eq_true rfl) ?_
 refine dT rfl ?_
 refine loopR (fun fr w' m => ∃ i : Nat, fr = [(0, .slice a rs.length c), (1, .func (.func 47) ⟨[]⟩ ⟨[.pointer (some ⟨q, 0, none⟩)]⟩), (7, .int .i64 (rs.length : Nat)), (8, .int .i64 (i : Nat))] ∧ i ≤ rs.length ∧ (∀ j, j < i → Rgd n (pget rs j)) ∧ Below w.heap.size w w' ∧ m = rs.length - i)
  ⟨0, rfl, by omega, fun j hj => absurd hj (by omega), Below.refl _ _, rfl⟩ (by repeat' (first | exact True.intro | exact rfl | exact iv (by omega) | refine ⟨?_, ?_⟩)) ?_
 rintro fr w1 m ⟨i, rfl, hi, hin, hB, rfl⟩
 refine dT rfl ?_
 refine cS rfl rfl rfl rfl (fun hq => ?_) (fun hq => ?_)
 ·have hil : i < rs.length := by omega
  have hm : pget rs i ∈ rs := by unfold pget; simp [List.getD, hil]
  refine dT rfl ?_
  refine igr U rfl rfl rfl rfl ar_pair rfl rfl (fun _ => rfl) rfl i rfl hil (hs.stay hB) (pvs_get hil) rfl (by decide) ?_
  refine call (f := 47) rfl rfl cb47 (ans1_calls (pget rs i).1 (pget rs i).2 b n d q w1 (hk.below hB hlt)) ?_
  rintro v w2 ⟨rfl, hB2⟩
  have hB2' := bl_tr hB hB2 hB.size
  refine ⟨_, rfl, ?_⟩
  by_cases h : Rgd n (pget rs i)
  ·rw [decide_eq_false (not_not_intro (show Rgd n ((pget rs i).1, (pget rs i).2) from h))]
   refine dS rfl ?_
   refine rend _ _ ⟨i + 1, rfl, by omega, fun j hj => ?_, hB2', rfl⟩ (by omega) (by repeat' (first | exact True.intro | exact rfl | exact iv (by omega) | refine ⟨?_, ?_⟩))
   rcases Nat.lt_succ_iff_lt_or_eq.1 hj with h' | rfl
   ·exact hin j h'
   ·exact h
  ·rw [decide_eq_true (show ¬ Rgd n ((pget rs i).1, (pget rs i).2) from h)]
   refine dT rfl ?_
   exact ret Tryz.results84 rfl ⟨_, rfl, .inr ⟨fun hall => h (hall _ hm), i, rfl⟩, hB2'⟩
 ·obtain rfl : i = rs.length := by omega
  refine dT rfl ?_
  refine ret Tryz.results84 rfl ⟨_, rfl, .inl ⟨fun x hx => ?_, rfl⟩, hB⟩
  obtain ⟨j, hj, rfl⟩ := List.getElem_of_mem hx
  have := hin j hj
  unfold pget at this
  simpa [List.getD, hj] using this
theorem ansC_calls (rs : List (Int × Int)) (hl : rs.length ≤ 1099511627776) (b : Option Addr) (n d q : Nat) (a : Option Addr) (c : Nat) (w : World) (hs : Sl w a (pvs rs)) (hk : Bk w q 29 [.slice b n d]) :
  Calls Tryz.prog 46 #[.slice a rs.length c, .func (.func 47) ⟨[]⟩ ⟨[.pointer (some ⟨q, 0, none⟩)]⟩] w (Ret fun v w' => v = .bool (decide (¬ ∀ r, r ∈ rs → Rgd n r)) ∧ Below w.heap.size w w') := by
 refine enter Tryz.func46 rfl Tryz.ntmps46 (Nat.le_of_ble_eq_true rfl) ?_
 refine dT rfl ?_
 refine call (f := 84) rfl rfl cb84 (ansI_calls rs hl b n d q a c w hs hk) ?_
 rintro v w1 ⟨h | h, hB⟩
 ·obtain ⟨h, rfl⟩ := h
  refine ⟨_, rfl, ?_⟩
  refine cF rfl rfl rfl (by omega) ?_
  refine dT rfl ?_
  exact ret Tryz.results46 rfl ⟨_, rfl, by rw [decide_eq_false (not_not_intro h)]; rfl, hB⟩
 ·obtain ⟨h, i, rfl⟩ := h
  refine ⟨_, rfl, ?_⟩
  refine cT rfl rfl rfl (by omega) ?_
  refine dT rfl ?_
  exact ret Tryz.results46 rfl ⟨_, rfl, by rw [decide_eq_true h]; rfl, hB⟩
end
section
set_option maxHeartbeats 2000000
open Go Go.Proofs Go.RowKit Go.Lib

def ansTo (rs : List (Int × Int)) (x : Nat → Rat) (i : Nat) : List Tx := (List.range i).map fun j => qtext (rsum x (pget rs j))
theorem ansTo_len (rs : List (Int × Int)) (x : Nat → Rat) (i : Nat) : (ansTo rs x i).length = i := by simp [ansTo]
theorem ansTo_snoc (rs : List (Int × Int)) (x : Nat → Rat) (i : Nat) : strs (ansTo rs x i) ++ [.string ⟨⟨qtext (rsum x (pget rs i))⟩⟩] = strs (ansTo rs x (i + 1)) := by
 unfold ansTo strs
 rw [List.range_succ, List.map_append, List.map_append]; rfl
theorem ansTo_all (rs : List (Int × Int)) (x : Nat → Rat) : ansTo rs x rs.length = rs.map fun r => qtext (rsum x r) := by
 apply List.ext_getElem?
 intro i
 by_cases hi : i < rs.length
 ·simp [ansTo, hi, pget, List.getD]
 ·simp [ansTo, hi]
theorem part_get {vs : List Value} {p q k : Nat} (h : p + k < q) : ((vs.take q).drop p)[k]? = vs[p + k]? := by
 rw [List.getElem?_drop, List.getElem?_take, if_pos h]
theorem verr_ok {xs : List Tx} (h : VErr xs 0) : ∀ j, j < xs.length → QErr (xs.getD j []) 0 := by
 rcases h with ⟨_, h⟩ | ⟨_, h⟩ | ⟨_, _, _, _, _, _, h⟩ | ⟨_, _, h, _⟩
 ·omega
 ·omega
 ·exact absurd rfl h
 ·exact h
theorem mans_calls (rs : List (Int × Int)) (xs : List Tx) (hrl : rs.length ≤ 1099511627776) (hx : LenV xs) (hv : VErr xs 0 → ∀ j, j < xs.length → Small 4000 (vval xs j)) (hfit : VErr xs 0 → ∀ lo k, lo + k ≤ xs.length → Small 4000 (sm k fun j => vval xs (lo + j)))
  (a b : Option Addr) (c d : Nat) (w : World) (hs : Sl w a (pvs rs)) (hb : Sl w b (strs xs)) (hd : xs.length ≤ d) (ht : TabOk w) :
  Calls Tryz.prog 13 #[.slice a rs.length c, .slice b xs.length d] w (Ret fun v w' => (∃ ys e, AnsS rs xs ys e ∧ VOut ys e v w') ∧ Below w.heap.size w w') := by
 refine enter Tryz.func13 rfl Tryz.ntmps13 (Nat.le_of_ble_eq_true rfl) ?_
 refine dT rfl ?_
 refine bx rfl rfl rfl rfl ?_
 intro b3 wa hb3 hsa hk3 hga
 have hB0 : Below w.heap.size w wa := (Below.refl _ _).grown hga (Nat.le_refl _) (fun k e => by cases e)
 have hs := hs.stay hB0
 have hb := hb.stay hB0
 refine dT rfl ?_
 refine ld U rfl rfl rfl rfl ((hk3).cell rfl) ?_
 refine call (f := 45) rfl rfl cb45 (lVector_calls xs b d wa hb hx.l hx.x) ?_
 rintro v w1 ⟨⟨e, rfl, he⟩, hB1⟩
 have hs := hs.stay hB1
 have hb := hb.stay hB1
 have hk3 := hk3.below hB1 hk3.lt
 have hB1' := bl_tr hB0 hB1 hB0.size
 refine ⟨_, rfl, ?_⟩
 refine dT rfl ?_
 refine cS rfl rfl rfl rfl (fun hq1 => ?_) (fun hq1 => ?_)
 ·refine dT rfl ?_
  exact ret Tryz.results13 rfl ⟨_, rfl, ⟨[], e, .inl ⟨hq1, he, rfl⟩, VOut.nil _ _⟩, hB1'⟩
 obtain rfl := Classical.not_not.1 hq1
 refine dT rfl ?_
 refine cS rfl rfl rfl rfl (fun hq2 => ?_) (fun hq2 => ?_)
 ·refine dT rfl ?_
  exact ret Tryz.results13 rfl ⟨_, rfl, ⟨[], 4, .inr (.inl ⟨he, by omega, rfl, rfl⟩), VOut.nil _ _⟩, hB1'⟩
 refine dT rfl ?_
 refine call (f := 46) rfl rfl cb46 (ansC_calls rs hrl b xs.length d b3 a c w1 hs hk3) ?_
 rintro v w2 ⟨rfl, hB2⟩
 have hs := hs.stay hB2
 have hb := hb.stay hB2
 have hk3 := hk3.below hB2 hk3.lt
 have hB2' := bl_tr hB1' hB2 hB1'.size
 refine ⟨_, rfl, ?_⟩
 by_cases hall : ∀ r, r ∈ rs → Rgd xs.length r
 case neg =>
  rw [decide_eq_true hall]
  refine dT rfl ?_
  exact ret Tryz.results13 rfl ⟨_, rfl, ⟨[], 2, .inr (.inr (.inl ⟨he, by omega, hall, rfl, rfl⟩)), VOut.nil _ _⟩, hB2'⟩
 rw [decide_eq_false (not_not_intro hall)]
 have hok := verr_ok he
 have hfit := hfit he
 have hv := hv he
 refine dT rfl ?_
 refine loopR (fun fr w' m => ∃ (i : Nat) (a2 : Option Addr) (c2 : Nat), fr = [(3, .pointer (some ⟨b3, 0, none⟩)), (7, .slice a2 i c2), (25, .slice a rs.length c), (26, .int .i64 (rs.length : Nat)), (27, .int .i64 (i : Nat))] ∧ i ≤ rs.length ∧ w'.ownsRow w2.heap.size 35 1 (.slice a2 i c2) i (strs (ansTo rs (vval xs) i)) ∧ Below w2.heap.size w2 w' ∧ m = rs.length - i)
  ⟨0, none, 0, rfl, by omega, ⟨rfl, .inl ⟨rfl, rfl⟩⟩, Below.refl _ _, rfl⟩ (by repeat' (first | exact True.intro | exact rfl | exact iv (by omega) | refine ⟨?_, ?_⟩)) ?_
 rintro fr w3 m ⟨i, a2, c2, rfl, hi, ho, hB3, rfl⟩
 refine dT rfl ?_
 refine cS rfl rfl rfl rfl (fun hq3 => ?_) (fun hq3 => ?_)
 ·have hil : i < rs.length := by omega
  obtain ⟨hr1, hr2, hr3⟩ := hall (pget rs i) (by unfold pget; simp [List.getD, hil])
  have hk33 := hk3.below hB3 hk3.lt
  obtain ⟨p, hp⟩ : ∃ p : Nat, (pget rs i).1 = (p : Int) := ⟨(pget rs i).1.toNat, by omega⟩
  obtain ⟨q, hq⟩ : ∃ q : Nat, (pget rs i).2 + 1 = (q : Int) := ⟨((pget rs i).2 + 1).toNat, by omega⟩
  have hrs : rsum (vval xs) (pget rs i) = sm (q - p) (fun j => vval xs (p + j)) := by
   unfold rsum
   rw [hp, show ((pget rs i).2 - (p : Int) + 1).toNat = q - p by omega, Int.toNat_natCast]
  have hxl := hx.l
  refine dT rfl ?_
  refine igr U rfl rfl rfl rfl ar_pair rfl rfl (fun _ => rfl) rfl i rfl hil (hs.stay hB3) (pvs_get hil) rfl (by decide) ?_
  refine dT rfl ?_
  refine al U rfl rfl rfl rfl ?_
  intro b9 w4 hb9 hs4 hk9 hg4
  have hB34 : Below w3.heap.size w3 w4 := (Below.refl _ _).grown hg4 (Nat.le_refl _) (fun k e => by cases e)
  refine dT rfl ?_
  refine st U rfl rfl rfl rfl rfl rfl rfl rfl rfl rfl (hk9) ?_
  intro w5 hk9 hg5 hs5
  have hB35 := hB34.grown hg5 hB34.size (fun k e => by cases e; omega)
  have hB5 := bl_tr hB3 hB35 hB3.size
  have hk35 := hk33.below hB35 hk33.lt
  have ho5 := own_bw ho hB35
  refine dT rfl ?_
  refine ld U rfl rfl rfl rfl ((hk35).cell rfl) ?_
  refine ja U rfl rfl rfl rfl rfl rfl 0 rfl (by omega) ?_
  refine ld U rfl rfl rfl rfl (hk9.cell (off := 0) rfl) ?_
  refine ja U rfl rfl rfl rfl rfl rfl 1 rfl (by omega) ?_
  refine ld U rfl rfl rfl rfl (hk9.cell (off := 1) rfl) ?_
  refine dS rfl ?_
  refine ja U rfl rfl rfl rfl rfl rfl 1 rfl (by omega) ?_
  refine ld U rfl rfl rfl rfl (hk9.cell (off := 1) rfl) ?_
  refine dS rfl ?_
  refine s3 U rfl rfl rfl rfl rfl rfl rfl rfl p q hp hq hq (by omega) (by omega) ?_
  have hpart := ((hb.stay hB5).take q).drop p q (by simp; omega)
  generalize sadd b q p 1 = ap_ at *
  refine dT rfl ?_
  refine loopR (fun fr w' m2 => ∃ (k : Nat), fr = [(3, .pointer (some ⟨b3, 0, none⟩)), (7, .slice a2 i c2), (25, .slice a rs.length c), (26, .int .i64 (rs.length : Nat)), (27, .int .i64 (i : Nat)), (10, .string ⟨⟨qtext (sm k (fun j => vval xs (p + j)))⟩⟩), (40, .slice ap_ (q - p) (q - p)), (41, .int .i64 ((q - p : Nat) : Int)), (42, .int .i64 (k : Nat))] ∧ k ≤ q - p ∧ Below w5.heap.size w5 w' ∧ m2 = q - p - k)
   ⟨0, rfl, by omega, Below.refl _ _, rfl⟩ (by rw [sm, qtext_zero]; repeat' (first | exact True.intro | exact rfl | exact iv (by omega) | refine ⟨?_, ?_⟩)) ?_
  rintro fr w6 m2 ⟨k, rfl, hk, hB56, rfl⟩
  have hB6 := bl_tr hB5 hB56 hB5.size
  refine dT rfl ?_
  refine cS rfl rfl rfl rfl (fun hq4 => ?_) (fun hq4 => ?_)
  ·have hkq : k < q - p := by omega
   have hqe := q_text_back (hok (p + k) (by omega))
   have hqe : qtext (vval xs (p + k)) = xs.getD (p + k) [] := hqe
   have hadd := madd_q (hfit p k (by omega)) (hv (p + k) (by omega)) (hfit p (k + 1) (by omega)) w6 (ht.below (bl_tr hB2' hB6 hB2'.size))
   rw [hqe] at hadd
   refine dT rfl ?_
   refine il U rfl rfl rfl rfl rfl rfl rfl (fun _ => rfl) rfl k rfl hkq (hpart.stay hB56) (v := .string ⟨⟨xs.getD (p + k) []⟩⟩) (by rw [part_get (by omega)]; exact getS (by omega)) ?_
   refine dT rfl ?_
   refine call (f := 49) rfl rfl cb49 hadd ?_
   rintro v w7 ⟨rfl, hB67⟩
   refine ⟨_, rfl, ?_⟩
   refine dT rfl ?_
   refine cF rfl rfl rfl (fun h => h rfl) ?_
   refine dS rfl ?_
   exact rend _ _ ⟨k + 1, rfl, by omega, bl_tr hB56 hB67 hB56.size, rfl⟩ (by omega) (by repeat' (first | exact True.intro | exact rfl | exact iv (by omega) | refine ⟨?_, ?_⟩))
  ·obtain rfl : k = q - p := by omega
   rw [← hrs]
   have hB36 := bl_tr hB35 hB56 hB35.size
   have ho6 := own_bw ho hB36
   refine dT rfl ?_
   refine ap U (v := (.string ⟨⟨qtext (rsum (vval xs) (pget rs i))⟩⟩)) rfl rfl rfl rfl rfl rfl (fun _ => rfl) rfl (fun _ => rfl) rfl rfl rfl ho6 hB6.size (by omega) (by decide) ?_
   intro a5 c5 w7 ho7 hg7
   have hB7 := hB6.grown hg7 hB6.size (fun g e => (own_block ho6 g e).1)
   rw [ansTo_snoc] at ho7
   refine dS rfl ?_
   exact rend _ _ ⟨i + 1, a5, c5, rfl, by omega, ho7, hB7, rfl⟩ (by omega) (by repeat' (first | exact True.intro | exact rfl | exact iv (by omega) | refine ⟨?_, ?_⟩))
 ·obtain rfl : i = rs.length := by omega
  refine dT rfl ?_
  refine ret Tryz.results13 rfl ⟨_, rfl, ⟨ansTo rs (vval xs) rs.length, 0, .inr (.inr (.inr ⟨he, by omega, hall, ansTo_all _ _, rfl⟩)), a2, c2, by rw [ansTo_len]; rfl, own_sl ho, by rw [ansTo_len]; exact own_cap ho, fun g hg => (own_block ho g hg).2⟩, bl_tr hB2' hB3 hB2'.size⟩
end
end Go.Proofs.YtejlpdbiacmfcaaGreatDoor
