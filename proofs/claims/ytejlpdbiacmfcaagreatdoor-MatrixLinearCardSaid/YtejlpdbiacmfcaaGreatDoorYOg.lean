/-
  Walks of the reference's ranged, Answers and Spread.
  Conditions: the sums' digits fit; at most 7 cells, or an invalid number of cells.

  The law MatrixLinear: it returns true for every input.
  Conditions: the library's table of powers of ten is laid.
-/
import Derived.Test.YtejlpdbiacmfcaaGreatDoorYGa
import Derived.Test.YtejlpdbiacmfcaaGreatDoorYOa
section
set_option linter.unusedSimpArgs false
set_option linter.unusedVariables false
set_option maxHeartbeats 8000000
set_option maxRecDepth 100000
namespace Go.Proofs.YtejlpdbiacmfcaaGreatDoor
open Go Go.Proofs Go.RowKit Go.Lib

section
variable {P : Program} (U : Tys P) {ro : Option Nat} {n : Nat} {ds : List Deferred} {Q : PT} {l l' : Fr} {w w' : World} {arr : Array Oper} {r : List Oper} {k : List It}
end
end Go.Proofs.YtejlpdbiacmfcaaGreatDoor
end
section
set_option linter.unusedSimpArgs false
set_option linter.unusedVariables false
set_option maxHeartbeats 8000000
set_option maxRecDepth 100000
namespace Go.Proofs.YtejlpdbiacmfcaaGreatDoor
open Go Go.Proofs Go.RowKit Go.Lib

/-- The sums of two lists' ints, so far. -/
def addI (x y : List Int) (m i : Nat) : List Int := (List.range m).map fun j => if j < i then x.getD j 0 + y.getD j 0 else 0
theorem addI_len (x y : List Int) (m i : Nat) : (addI x y m i).length = m := by simp [addI]
theorem addI_get {x y : List Int} {m i j : Nat} (h : j < m) : (addI x y m i).getD j 0 = if j < i then x.getD j 0 + y.getD j 0 else 0 := by simp [addI, List.getD, h]
theorem addI_zero (x y : List Int) (m : Nat) : addI x y m 0 = List.replicate m 0 := by
  apply List.ext_getElem (by simp [addI])
  intro j h1 h2
  simp [addI]
theorem addI_set {x y : List Int} {m i : Nat} (h : i < m) : (addI x y m i).set i (x.getD i 0 + y.getD i 0) = addI x y m (i + 1) := by
  apply List.ext_getElem (by simp [addI])
  intro j h1 h2
  simp only [List.length_set] at h1
  rw [List.getElem_set]
  simp only [addI, List.getElem_map, List.getElem_range]
  by_cases e : i = j
  · subst e; rw [if_pos rfl, if_pos (by omega)]
  · rw [if_neg e]
    by_cases h : j < i
    · rw [if_pos h, if_pos (by omega)]
    · rw [if_neg h, if_neg (by omega)]
theorem addI_wthn {x y : List Int} {m : Nat} (hx : Wthn x 1000) (hy : Wthn y 1000) : Wthn (addI x y m m) 2000 := by
  intro v hv
  unfold addI at hv
  obtain ⟨j, hj, rfl⟩ := List.mem_map.1 hv
  have h1 := wthn_get hx (by omega) j
  have h2 := wthn_get hy (by omega) j
  rw [if_pos (List.mem_range.1 hj)]
  omega
theorem mest_ex (kind : Int) (n : Nat) (noisy : List Int) (hs : strat kind n ≠ []) (hl : noisy.length = (strat kind n).length) (hw : Wthn noisy 1000000000000) (hn : n ≤ 7) (a : Option Addr) (m c : Nat) (w : World) (hli : LitI w (.slice a m c) noisy) (ht : TabOk w) :
    Calls Tryz.prog 12 #[.int .i64 kind, .int .i64 (n : Nat), .slice a m c] w (Ret fun v w' => (∃ x a c, v = .tuple ⟨[.slice a n c, .int .i64 0]⟩ ∧ (∀ i, i < n → mapp n (nrm (strat kind n)) x i = rhs (strat kind n) (ratsI noisy) i (strat kind n).length) ∧ (∀ i, i < n → Small 4000 (x i)) ∧ Lit w' (.slice a n c) (txs n x)) ∧ Below w.heap.size w w') := by
  obtain ⟨h1, rfl⟩ := hli.sl
  have hlen := strat_len7 (kind := kind) (n := (n : Int)) (by omega)
  refine (mest_calls kind n noisy (by omega) (by omega) a c w h1 ht).mono ?_
  rintro _ w' ⟨v, rfl, hE, hB⟩
  rcases hE with ⟨h, _⟩ | ⟨_, h, _⟩ | ⟨_, _, h, _⟩ | ⟨_, _, _, x, a', c', hx1, hx2, rfl, hx3, hx4⟩
  · exact absurd h hs
  · exact absurd hl h
  · exact absurd hw h
  · rw [Int.toNat_natCast] at hx1 hx2 hx3 hx4
    exact ⟨_, rfl, ⟨x, a', c', rfl, hx1, hx2, hx3⟩, hB⟩
theorem rhs_add {rows : List (List Int)} {x y s : List Int} (h : ∀ j, j < rows.length → s.getD j 0 = x.getD j 0 + y.getD j 0) (i : Nat) : rhs rows (ratsI s) i rows.length = rhs rows (ratsI x) i rows.length + rhs rows (ratsI y) i rows.length := by
  unfold rhs
  rw [← sm_add]
  apply sm_congr
  intro j hj
  unfold ratsI
  rw [h j hj, Rat.intCast_add]
  grind
theorem mapp_add' (n : Nat) (f : Mx) (x y : Nat → Rat) (i : Nat) : mapp n f (fun k => x k + y k) i = mapp n f x i + mapp n f y i := by
  unfold mapp
  rw [← sm_add]
  exact sm_congr fun j _ => by grind

theorem lit_of {w : World} {a : Option Addr} {n c : Nat} {f : Nat → Rat} (h : Sl w a (strs (txs n f))) : Lit w (.slice a n c) (txs n f) := ⟨a, c, by rw [txs_length], h⟩
theorem mis_small {rows : List (List Int)} {n : Nat} {l y : Nat → Rat} (hb : Bits rows) (hm : rows.length ≤ 11) (hn : n ≤ 6) (hy : ∀ i, Small 4 (y i)) (hl : ∀ k, k < n → Small 28 (l k)) :
    (∀ i, i < rows.length → ∀ k, k ≤ n → Small 4000 (drs rows l y i k)) ∧ (∀ i, i < rows.length → Small 4000 (drs rows l y i n * drs rows l y i n)) ∧ (∀ i, i ≤ rows.length → Small 4000 (mft rows n l y i)) := by
  have hd : ∀ i, ∀ k, k ≤ n → Small 178 (drs rows l y i k) := fun i k hk => small_mono (drs_small (n := n) hb (hy i) hl k hk) (by omega)
  refine ⟨fun i _ k hk => small_mono (hd i k hk) (by omega), fun i _ => small_mono (small_mul (hd i n (Nat.le_refl _)) (hd i n (Nat.le_refl _))) (by omega), fun i hi => small_mono (mft_small (fun j _ => hd j n (Nat.le_refl _)) i hi) (by omega)⟩
theorem ratsI_small4 {l : List Int} (h : Wthn l 1000) (i : Nat) : Small 4 (ratsI l i) := by
  have := wthn_get h (by omega) i
  exact small_int (by omega) (by omega)
theorem matrixLinear_calls (z1 z2 : Int) (l1 : List Int) (a1 : Option Addr) (c1 : Nat) (l2 : List Int) (a2 : Option Addr) (c2 : Nat) (l3 : List Int) (a3 : Option Addr) (c3 : Nat)
    (hz1 : -9223372036854775808 ≤ z1 ∧ z1 ≤ 9223372036854775807) (hz2 : -9223372036854775808 ≤ z2 ∧ z2 ≤ 9223372036854775807) (w : World) (ht : TabOk w)
    (hs1 : LitI w (.slice a1 l1.length c1) l1 ∧ I64 l1) (hl1 : l1.length ≤ 17592186044416) (hs2 : LitI w (.slice a2 l2.length c2) l2 ∧ I64 l2) (hl2 : l2.length ≤ 17592186044416) (hs3 : LitI w (.slice a3 l3.length c3) l3 ∧ I64 l3) (hl3 : l3.length ≤ 17592186044416) :
    Calls Tryz.prog 5 #[.int .i64 z1, .int .i64 z2, .slice a1 l1.length c1, .slice a2 l2.length c2, .slice a3 l3.length c3] w (Ret fun v w' => v = .bool true ∧ Below w.heap.size w w') := by
  have hs1 := hs1.1.sl.1
  have hs2 := hs2.1.sl.1
  have hs3 := hs3.1.sl.1
  refine enter Tryz.func5 rfl Tryz.ntmps5 (Nat.le_of_ble_eq_true rfl) ?_
  refine dr U 600 rfl trivial ?_
  refine call (f := 9) rfl rfl cb9 (lives28_calls w ht) ?_
  rintro v w1 ⟨rfl, hB1⟩
  refine ⟨_, rfl, ?_⟩
  refine dr U 600 rfl trivial ?_
  refine call (f := 18) rfl rfl cb18 (pick_calls z1 3 (by omega) (by omega) w1) ?_
  rintro v _ ⟨⟨kind, rfl, hkind⟩, rfl⟩
  refine ⟨_, rfl, ?_⟩
  refine dr U 600 rfl trivial ?_
  refine call (f := 18) rfl rfl cb18 (pick_calls z2 6 (by omega) (by omega) w1) ?_
  rintro v _ ⟨⟨n', rfl, hn'⟩, rfl⟩
  refine ⟨_, rfl, ?_⟩
  refine dr U 600 rfl (by first | exact True.intro | (simp only [AllP, InR, List.nil_append, List.cons_append, and_true]; omega)) ?_
  obtain ⟨n, hn0, hn6, en⟩ : ∃ n : Nat, 0 < n ∧ n ≤ 6 ∧ (1 + (n' : Int) : Int) = ((n : Nat) : Int) := ⟨1 + n', by omega, by omega, by omega⟩
  rw [en]
  refine cS rfl rfl rfl rfl (fun hq1 => ?_) (fun hq1 => ?_)
  · refine dr U 600 rfl trivial ?_
    exact ret Tryz.results5 rfl ⟨_, rfl, rfl, hB1⟩
  refine dr U 600 rfl trivial ?_
  refine cS rfl rfl rfl rfl (fun hq2 => ?_) (fun hq2 => ?_)
  · refine dr U 600 rfl trivial ?_
    exact ret Tryz.results5 rfl ⟨_, rfl, rfl, hB1⟩
  refine dr U 600 rfl trivial ?_
  refine cS rfl rfl rfl rfl (fun hq3 => ?_) (fun hq3 => ?_)
  · refine dr U 600 rfl trivial ?_
    exact ret Tryz.results5 rfl ⟨_, rfl, rfl, hB1⟩
  refine dr U 600 rfl trivial ?_
  have hst := strat_empty (kind := (kind : Int)) (n := n) hn0 (by omega) (by omega)
  have hpos := List.length_pos_iff.2 hst
  have hml := strat_len6 (kind := (kind : Int)) (n := (n : Int)) (by omega)
  have hLZ := strat_lenz (kind : Int) (n : Int)
  have hbits := strat_bits (kind : Int) (n : Int)
  have hrowl : ∀ i, i < (strat kind n).length → (irow (strat kind n) i).length = n := fun i hi => strat_length (irow_mem hi)
  have hreg := strat_reg hst
  rw [Int.toNat_natCast] at hreg
  refine call (f := 11) rfl rfl cb11 (mstrat_calls kind n w1) ?_
  rintro v w2 ⟨⟨ae, ce, rfl, hO2, _⟩, hB2⟩
  have hB2' := bl_tr hB1 hB2 hB1.size
  have hS2 := hO2.sz
  refine ⟨_, rfl, ?_⟩
  refine dr U 600 rfl trivial ?_
  refine call (f := 22) rfl rfl cb22 (shaped_calls (strat kind n) n hpos (by omega) hrowl ae ce w2 hS2) ?_
  rintro v _ ⟨rfl, rfl⟩
  refine ⟨_, rfl, ?_⟩
  refine dr U 600 rfl trivial ?_
  refine call (f := 19) rfl rfl cb19 (counts_calls l1 (strat kind n).length (by omega) hl1 a1 c1 w2 (hs1.stay hB2')) ?_
  rintro v w3 ⟨⟨x, ax, cx, rfl, hxl, hxw, hox⟩, hB3⟩
  have hB3' := bl_tr hB2' hB3 hB2'.size
  refine ⟨_, rfl, ?_⟩
  refine dr U 600 rfl trivial ?_
  refine call (f := 19) rfl rfl cb19 (counts_calls l2 (strat kind n).length (by omega) hl2 a2 c2 w3 (hs2.stay hB3')) ?_
  rintro v w4 ⟨⟨y, ay, cy, rfl, hyl, hyw, hoy⟩, hB4⟩
  have hB4' := bl_tr hB3' hB4 hB3'.size
  have hS4 := (hS2.stay hB3).stay hB4
  have hx4 := (own_sl hox).stay hB4
  have hy4 := own_sl hoy
  refine ⟨_, rfl, ?_⟩
  refine dr U 600 rfl trivial ?_
  refine mkn U rfl rfl rfl rfl rfl rfl rfl (strat kind n).length rfl rfl (by omega) (by omega) w4.heap.size (Nat.le_refl _) ?_
  intro ad w5 ho5 hg5
  have hB45 : Below w4.heap.size w4 w5 := (Below.refl _ _).grown hg5 (Nat.le_refl _) (fun k e => by cases e)
  obtain ⟨gd, rfl⟩ := own_go ho5 hpos
  rw [ivs_zero, ← addI_zero x y] at ho5
  obtain ⟨gx, ox, rfl, _⟩ := hx4 0 _ (ivs_get (by omega))
  obtain ⟨gy, oy, rfl, _⟩ := hy4 0 _ (ivs_get (by omega))
  have hrows : ∃ rows, rows = strat (kind : Int) (n : Int) := ⟨_, rfl⟩
  obtain ⟨rows, hrows⟩ := hrows
  rw [← hrows] at hst hpos hml hLZ hbits hrowl hreg hS4 hxl hyl ho5 ⊢
  refine dr U 600 rfl trivial ?_
  refine loopR (fun fr w' m => ∃ i : Nat, fr = [(0, .int .i64 (kind : Nat)), (1, .int .i64 (n : Nat)), (4, .slice a3 l3.length c3), (11, .slice ae rows.length ce), (12, .slice (some ⟨gx, ox, none⟩) rows.length cx), (13, .slice (some ⟨gy, oy, none⟩) rows.length cy), (14, .slice (some ⟨gd, 0, none⟩) rows.length rows.length), (15, .int .i64 (i : Nat))] ∧ i ≤ rows.length ∧ w'.ownsRow w4.heap.size 3 1 (.slice (some ⟨gd, 0, none⟩) rows.length rows.length) rows.length (ivs (addI x y rows.length i)) ∧ Below w4.heap.size w4 w' ∧ m = rows.length - i)
    ⟨0, rfl, by omega, ho5, hB45, rfl⟩ (by repeat' (first | exact True.intro | exact rfl | exact iv (by omega) | refine ⟨?_, ?_⟩)) ?_
  rintro fr w6 m ⟨i, rfl, hi, ho6, hB46, rfl⟩
  refine dr U 600 rfl trivial ?_
  refine cS rfl rfl rfl rfl (fun hq4 => ?_) (fun hq4 => ?_)
  · have hil : i < rows.length := by omega
    have hxi := wthn_get hxw (by omega) i
    have hyi := wthn_get hyw (by omega) i
    refine dr U 600 rfl trivial ?_
    refine dwn 12 (fun W => Sl W (some ⟨gx, ox, none⟩) (ivs x) ∧ Sl W (some ⟨gy, oy, none⟩) (ivs y)) hmo ?_
    intro w7 hh7 hg7
    have hB67 : Below w6.heap.size w6 w7 := (Below.refl _ _).grown hg7 (Nat.le_refl _) (fun k e => by cases e)
    have hB47 := bl_tr hB46 hB67 hB46.size
    have ho7 := own_bw ho6 hB67
    have hl5 : ∀ W, (Sl W (some ⟨gx, ox, none⟩) (ivs x) ∧ Sl W (some ⟨gy, oy, none⟩) (ivs y)) → (loadVar 3 ((⟨gx, ox, none⟩ : Addr).add (((i : Nat) : Int).toNat * 1))).run Tryz.prog W = .ok (.int .i64 (x.getD i 0)) W := fun W h => run_load_cell U rfl (by simpa [add_plain] using slc2 h.1 (ivs_get (i := i) (by omega)))
    have hl9 : ∀ W, (Sl W (some ⟨gx, ox, none⟩) (ivs x) ∧ Sl W (some ⟨gy, oy, none⟩) (ivs y)) → (loadVar 3 ((⟨gy, oy, none⟩ : Addr).add (((i : Nat) : Int).toNat * 1))).run Tryz.prog W = .ok (.int .i64 (y.getD i 0)) W := fun W h => run_load_cell U rfl (by simpa [add_plain] using slc2 h.2 (ivs_get (i := i) (by omega)))
    refine dq U [0,1,2,3,4,5,6,7,8,9,10,11] [(5, .int .i64 (x.getD i 0)), (9, .int .i64 (y.getD i 0))] (by kernel_rfl) rfl rfl ⟨hx4.stay hB47, hy4.stay hB47⟩ (by simp only [AllP, InR, List.nil_append, List.cons_append]; (repeat' apply And.intro); all_goals first | exact True.intro | omega | (with_reducible exact hl5) | (with_reducible exact hl9)) ?_
    refine d1 rfl rfl (fun _ => ⟨hx4.stay hB47, hy4.stay hB47⟩) ?_
    refine so U (v := (.int .i64 (x.getD i 0 + y.getD i 0))) rfl rfl rfl rfl rfl rfl rfl i (by simp [add_plain]) hil ho7 ?_
    intro w8 ho8 hg8 hs8
    rw [ivs_set, addI_set hil] at ho8
    have hB48 := hB47.grown hg8 hB47.size (fun q e => by cases e; exact (own_block ho7 gd rfl).1)
    refine d2 ?_; refine dend rfl (fun h => by cases h) ?_
    refine dr U 600 rfl (by first | exact True.intro | (simp only [AllP, InR, List.nil_append, List.cons_append, and_true]; omega)) ?_
    exact rend _ _ ⟨i + 1, rfl, by omega, ho8, hB48, rfl⟩ (by omega) (by repeat' (first | exact True.intro | exact rfl | exact iv (by omega) | refine ⟨?_, ?_⟩))
  obtain rfl : i = rows.length := by omega
  have hdl := addI_len x y rows.length rows.length
  have hdw := addI_wthn (m := rows.length) hxw hyw
  have hdg : ∀ j, j < rows.length → (addI x y rows.length rows.length).getD j 0 = x.getD j 0 + y.getD j 0 := fun j hj => by rw [addI_get hj, if_pos hj]
  generalize addI x y rows.length rows.length = s at *
  have hB6 := bl_tr hB4' hB46 hB4'.size
  have hx6 := hx4.stay hB46
  have hy6 := hy4.stay hB46
  have hS6 := hS4.stay hB46
  have hs6 := own_sl ho6
  refine dr U 600 rfl trivial ?_
  subst hrows
  refine call (f := 12) rfl rfl cb12 (mest_ex kind n x hst hxl (hxw.mono (by omega)) (by omega) _ (strat kind n).length cx w6 ⟨_, cx, by rw [hxl], hx6⟩ (ht.below hB6)) ?_
  rintro v w7 ⟨⟨p, ap, cp, rfl, hp1, hp2, hp7⟩, hB67⟩
  have hB7 := bl_tr hB6 hB67 hB6.size
  have hS7 := hS6.stay hB67
  have hx7 := hx6.stay hB67
  have hy7 := hy6.stay hB67
  have hs7 := hs6.stay hB67
  refine ⟨_, rfl, ?_⟩
  refine dr U 600 rfl trivial ?_
  refine call (f := 12) rfl rfl cb12 (mest_ex kind n y hst hyl (hyw.mono (by omega)) (by omega) _ (strat kind n).length cy w7 ⟨_, cy, by rw [hyl], hy7⟩ (ht.below hB7)) ?_
  rintro v w8 ⟨⟨q, aq, cq, rfl, hq1', hq2', hq8⟩, hB78⟩
  have hB8 := bl_tr hB7 hB78 hB7.size
  have hS8 := hS7.stay hB78
  have hx8 := hx7.stay hB78
  have hs8 := hs7.stay hB78
  have hp8 := hp7.stay hB78
  refine ⟨_, rfl, ?_⟩
  refine dr U 600 rfl trivial ?_
  refine call (f := 12) rfl rfl cb12 (mest_ex kind n s hst hdl (hdw.mono (by omega)) (by omega) _ (strat kind n).length (strat kind n).length w8 ⟨_, (strat kind n).length, by rw [hdl], hs8⟩ (ht.below hB8)) ?_
  rintro v w9 ⟨⟨r, ar, cr, rfl, hr1, hr2, hr9⟩, hB89⟩
  have hB9 := bl_tr hB8 hB89 hB8.size
  have hS9 := hS8.stay hB89
  have hx9 := hx8.stay hB89
  have hp9 := (hp8.stay hB89).sl.1
  have hq9 := (hq8.stay hB89).sl.1
  have hr9 := hr9.sl.1
  have hsum : ∀ i, i < n → p i + q i = r i := fun i hi => sol_same (x := fun k => p k + q k) hreg (b := fun i => rhs (strat kind n) (ratsI s) i (strat kind n).length) (fun j hj => by rw [mapp_add', hp1 j hj, hq1' j hj, rhs_add hdg]) hr1 i hi
  have hp28 : ∀ i, i < n → Small 28 (p i) := by
    have := stsol_six (kind := (kind : Int)) (n := (n : Int)) hst (by omega) (b := fun i => rhs (strat kind n) (ratsI x) i (strat kind n).length) (fun i _ => rhs_isn (B := 1000) (M := 11) hml hxw (by omega) i _ (Nat.le_refl _)) p
    rw [Int.toNat_natCast] at this
    exact this hp1
  refine ⟨_, rfl, ?_⟩
  refine dr U 600 rfl trivial ?_
  refine cF rfl rfl rfl (fun e => e rfl) ?_
  refine dr U 600 rfl trivial ?_
  refine cF rfl rfl rfl (fun e => e rfl) ?_
  refine dr U 600 rfl trivial ?_
  refine cF rfl rfl rfl (fun e => e rfl) ?_
  refine dr U 600 rfl trivial ?_
  refine cF rfl rfl rfl (fun e => e rfl) ?_
  refine dr U 600 rfl trivial ?_
  refine cF rfl rfl rfl (fun e => e rfl) ?_
  refine dr U 600 rfl trivial ?_
  refine cF rfl rfl rfl (fun e => e rfl) ?_
  refine dr U 600 rfl trivial ?_
  obtain ⟨gp, op, rfl, _⟩ := hp9 0 _ (txs_get hn0)
  obtain ⟨gq, oq, rfl, _⟩ := hq9 0 _ (txs_get hn0)
  refine loopR (fun fr w' m => ∃ i : Nat, fr = [(1, .int .i64 (n : Nat)), (4, .slice a3 l3.length c3), (11, .slice ae (strat kind n).length ce), (12, .slice (some ⟨gx, ox, none⟩) (strat kind n).length cx), (16, .slice (some ⟨gp, op, none⟩) n cp), (18, .slice (some ⟨gq, oq, none⟩) n cq), (20, .slice ar n cr), (22, .int .i64 (i : Nat))] ∧ i ≤ n ∧ Below w9.heap.size w9 w' ∧ m = n - i)
    ⟨0, rfl, by omega, Below.refl _ _, rfl⟩ (by repeat' (first | exact True.intro | exact rfl | exact iv (by omega) | refine ⟨?_, ?_⟩)) ?_
  rintro fr w10 m ⟨i, rfl, hi, hB10, rfl⟩
  refine dr U 600 rfl trivial ?_
  refine cS rfl rfl rfl rfl (fun hq4 => ?_) (fun hq4 => ?_)
  · have hin : i < n := by omega
    have hsi := hsum i hin
    refine dr U 600 rfl trivial ?_
    refine dwn 13 (fun W => Sl W (some ⟨gp, op, none⟩) (strs (txs n p)) ∧ Sl W (some ⟨gq, oq, none⟩) (strs (txs n q))) hmo ?_
    intro w11 hh11 hg11
    have hB1011 : Below w10.heap.size w10 w11 := (Below.refl _ _).grown hg11 (Nat.le_refl _) (fun k e => by cases e)
    have hB11 := bl_tr hB10 hB1011 hB10.size
    have hl3 : ∀ W, (Sl W (some ⟨gp, op, none⟩) (strs (txs n p)) ∧ Sl W (some ⟨gq, oq, none⟩) (strs (txs n q))) → (loadVar 35 ((⟨gp, op, none⟩ : Addr).add (((i : Nat) : Int).toNat * 1))).run Tryz.prog W = .ok (.string ⟨⟨qtext (p i)⟩⟩) W := fun W h => run_load_cell U rfl (by simpa [add_plain] using slc2 h.1 (txs_get hin))
    have hl7 : ∀ W, (Sl W (some ⟨gp, op, none⟩) (strs (txs n p)) ∧ Sl W (some ⟨gq, oq, none⟩) (strs (txs n q))) → (loadVar 35 ((⟨gq, oq, none⟩ : Addr).add (((i : Nat) : Int).toNat * 1))).run Tryz.prog W = .ok (.string ⟨⟨qtext (q i)⟩⟩) W := fun W h => run_load_cell U rfl (by simpa [add_plain] using slc2 h.2 (txs_get hin))
    refine dq U [0,1,2,3,4,5,6,7] [(3, .string ⟨⟨qtext (p i)⟩⟩), (7, .string ⟨⟨qtext (q i)⟩⟩)] (by kernel_rfl) rfl rfl ⟨hp9.stay hB11, hq9.stay hB11⟩ (by simp only [AllP, InR, List.nil_append, List.cons_append]; (repeat' apply And.intro); all_goals first | exact True.intro | omega | (with_reducible exact hl3) | (with_reducible exact hl7)) ?_
    refine d1 rfl rfl (fun _ => ⟨hp9.stay hB11, hq9.stay hB11⟩) ?_
    refine call (f := 23) rfl rfl cb23 (radd_q (hp2 i hin) (hq2' i hin) (by rw [hsi]; exact hr2 i hin) w11) ?_
    rintro v w12 ⟨rfl, hB1112⟩
    have hB12 := bl_tr hB11 hB1112 hB11.size
    rw [hsi]
    refine ⟨_, rfl, d2 ?_⟩
    refine dq U [9,10,11,12] [] (by kernel_rfl) rfl rfl ⟨hp9.stay hB12, hq9.stay hB12⟩ (by simp only [AllP, InR, List.nil_append, List.cons_append]; (repeat' apply And.intro); all_goals first | exact True.intro | omega | (simp only [List.length_cons, List.length_nil]; omega) | (intro w_ hw_; refine ldC U rfl hw_ ?_; first | assumption | (simp [add_plain]; assumption)) | (intro w_ hw_; refine run_load_cell U rfl ?_; first | exact hw_ | exact hw_.1 | exact hw_.2 | exact hw_.2.1 | exact hw_.2.2 | exact hw_.2.2.1 | exact hw_.2.2.2 | (simp [add_plain]; first | exact hw_.1 | exact hw_.2.1 | exact hw_.2.2))) ?_
    refine d1 rfl rfl (fun _ => ⟨hp9.stay hB12, hq9.stay hB12⟩) ?_
    refine dr U 600 rfl trivial ?_
    refine d3 ?_; refine dend rfl (fun h => by cases h) ?_
    refine dr U 600 rfl trivial ?_
    refine cF rfl rfl rfl (fun e => e rfl) ?_
    refine dr U 600 rfl trivial ?_
    refine il U rfl rfl rfl rfl rfl rfl rfl (fun _ => rfl) rfl i rfl hin (hr9.stay hB12) (txs_get hin) ?_
    refine cF rfl rfl rfl (fun e => e rfl) ?_
    refine dr U 600 rfl (by first | exact True.intro | (simp only [AllP, InR, List.nil_append, List.cons_append, and_true]; omega)) ?_
    exact rend _ _ ⟨i + 1, rfl, by omega, hB12, rfl⟩ (by omega) (by repeat' (first | exact True.intro | exact rfl | exact iv (by omega) | refine ⟨?_, ?_⟩))
  have hB10' := bl_tr hB9 hB10 hB9.size
  have hS10 := hS9.stay hB10
  have hx10 := hx9.stay hB10
  have hp10 := hp9.stay hB10
  refine dr U 600 rfl trivial ?_
  refine call (f := 19) rfl rfl cb19 (counts_calls l3 n (by omega) hl3 a3 c3 w10 (hs3.stay hB10')) ?_
  rintro v w11 ⟨⟨h, ah, ch, rfl, hhl, hhw, hoh⟩, hB11⟩
  have hB11' := bl_tr hB10' hB11 hB10'.size
  have hS11 := hS10.stay hB11
  have hx11 := hx10.stay hB11
  have hp11 := hp10.stay hB11
  have hh11 := own_sl hoh
  refine ⟨_, rfl, ?_⟩
  refine dr U 600 rfl trivial ?_
  refine loopR (fun fr w' m => ∃ (i : Nat) (a2 : Option Addr) (c2 : Nat), fr = [(1, .int .i64 (n : Nat)), (11, .slice ae (strat kind n).length ce), (12, .slice (some ⟨gx, ox, none⟩) (strat kind n).length cx), (16, .slice (some ⟨gp, op, none⟩) n cp), (25, .slice ah n ch), (26, .slice a2 i c2), (27, .int .i64 (i : Nat))] ∧ i ≤ n ∧ w'.ownsRow w11.heap.size 35 1 (.slice a2 i c2) i (strs (txs i (ratsI h))) ∧ Below w11.heap.size w11 w' ∧ m = n - i)
    ⟨0, none, 0, rfl, by omega, ⟨rfl, .inl ⟨rfl, rfl⟩⟩, Below.refl _ _, rfl⟩ (by repeat' (first | exact True.intro | exact rfl | exact iv (by omega) | refine ⟨?_, ?_⟩)) ?_
  rintro fr w12 m ⟨i, a2', c2', rfl, hi, ho12, hB12, rfl⟩
  refine dr U 600 rfl trivial ?_
  refine cS rfl rfl rfl rfl (fun hq5 => ?_) (fun hq5 => ?_)
  · have hin : i < n := by omega
    have hhi := wthn_get hhw (by omega) i
    refine dr U 600 rfl trivial ?_
    refine il U rfl rfl rfl rfl rfl rfl rfl (fun _ => rfl) rfl i rfl hin (hh11.stay hB12) (ivs_get (by omega)) ?_
    refine call (f := 24) rfl rfl cb24 (gint_calls (h.getD i 0) (by omega) (by omega) w12) ?_
    rintro v w13 ⟨rfl, hB13⟩
    have hB13' := bl_tr hB12 hB13 hB12.size
    have ho13 := own_bw ho12 hB13
    refine ⟨_, rfl, ?_⟩
    refine ap U (v := (.string ⟨⟨qtext ((h.getD i 0 : Int) : Rat)⟩⟩)) rfl rfl rfl rfl rfl rfl (fun _ => rfl) rfl (fun _ => rfl) rfl rfl rfl ho13 hB13'.size (by omega) (by decide) ?_
    intro a5 c5 w14 ho14 hg14
    have hB14 := hB13'.grown hg14 hB13'.size (fun g e => (own_block ho13 g e).1)
    have ho14 : w14.ownsRow w11.heap.size 35 1 (.slice a5 (i + 1) c5) (i + 1) (strs (txs (i + 1) (ratsI h))) := by rw [← strs_txs_snoc]; exact ho14
    refine dr U 600 rfl (by first | exact True.intro | (simp only [AllP, InR, List.nil_append, List.cons_append, and_true]; omega)) ?_
    exact rend _ _ ⟨i + 1, a5, c5, rfl, by omega, ho14, hB14, rfl⟩ (by omega) (by repeat' (first | exact True.intro | exact rfl | exact iv (by omega) | refine ⟨?_, ?_⟩))
  obtain rfl : i = n := by omega
  have hB12' := bl_tr hB11' hB12 hB11'.size
  have hS12 := hS11.stay hB12
  have hx12 := hx11.stay hB12
  have hp12 := hp11.stay hB12
  have hH12 := own_sl ho12
  have hmp := mis_small (l := p) (y := ratsI x) hbits hml hn6 (ratsI_small4 hxw) hp28
  have hmh := mis_small (l := ratsI h) (y := ratsI x) hbits hml hn6 (ratsI_small4 hxw) (fun k _ => small_mono (ratsI_small4 hhw k) (by omega))
  have hm1 := misfit_calls (strat kind i) i p x hbits (by omega) (by omega) hrowl hxl (hxw.mono (by omega)) hp2 hmp.1 hmp.2.1 hmp.2.2 ae (some ⟨gp, op, none⟩) (some ⟨gx, ox, none⟩) ce cp cx w12 hS12 (lit_of hp12) hx12
  rw [hxl] at hm1
  refine dr U 600 rfl trivial ?_
  refine call (f := 26) rfl rfl cb26 hm1 ?_
  rintro v w13 ⟨rfl, hB13⟩
  have hB13' := bl_tr hB12' hB13 hB12'.size
  refine ⟨_, rfl, ?_⟩
  have hm2 := misfit_calls (strat kind i) i (ratsI h) x hbits (by omega) (by omega) hrowl hxl (hxw.mono (by omega)) (fun k _ => small_mono (ratsI_small4 hhw k) (by omega)) hmh.1 hmh.2.1 hmh.2.2 ae a2' (some ⟨gx, ox, none⟩) ce c2' cx w13 (hS12.stay hB13) (lit_of (hH12.stay hB13)) (hx12.stay hB13)
  rw [hxl] at hm2
  refine dr U 600 rfl trivial ?_
  refine call (f := 26) rfl rfl cb26 hm2 ?_
  rintro v w14 ⟨rfl, hB14⟩
  have hB14' := bl_tr hB13' hB14 hB13'.size
  refine ⟨_, rfl, ?_⟩
  refine dr U 600 rfl trivial ?_
  refine call (f := 25) rfl rfl cb25 (rcmp_q (hmp.2.2 _ (Nat.le_refl _)) (hmh.2.2 _ (Nat.le_refl _)) w14) ?_
  rintro v w15 ⟨rfl, hB15⟩
  have hB15' := bl_tr hB14' hB15 hB14'.size
  have hfin := cmpQ_le (mft_le (rows := strat kind i) (n := i) (y := ratsI x) (z := p) (h := ratsI h) hp1)
  refine ⟨_, rfl, ?_⟩
  refine dr U 600 rfl trivial ?_
  refine cT rfl rfl rfl rfl ?_
  refine dr U 600 rfl trivial ?_
  refine cT rfl rfl rfl hfin ?_
  refine dr U 600 rfl trivial ?_
  exact ret Tryz.results5 rfl ⟨_, rfl, rfl, hB15'⟩
end Go.Proofs.YtejlpdbiacmfcaaGreatDoor
end
