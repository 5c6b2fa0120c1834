/-
  Walk of package matrix's Strategy.
  Conditions: none but that the arguments are ints.
  Walk of the law package's lives: the chapter's examples come out as it says.
  Conditions: the library's table of powers of ten is laid.
  Walks of the reference: FromInt, ToInt, Bits.
  Conditions: texts are no longer than an int can tell.
  Walks of package nat: FromInt, ToInt, Bits.
  Conditions: texts take fewer than 2^40 bytes; the library's table of powers of ten is laid, and its error of range.
  Walks of package rat's Int and Add, at numbers; frac.Must.
  Conditions: the numbers' digits fit; the library's table of powers of ten is laid.
-/
import Derived.Test.YtejlpdbiacmfcaaGreatDoorYPar
import Derived.Test.YtejlpdbiacmfcaaGreatDoorYRF
import Derived.Test.YtejlpdbiacmfcaaGreatDoorYR5
import Derived.Test.YtejlpdbiacmfcaaGreatDoorYFa
import Derived.Test.YtejlpdbiacmfcaaGreatDoorYPs
import Derived.Test.YtejlpdbiacmfcaaGreatDoorYLa
import Derived.Test.YtejlpdbiacmfcaaGreatDoorYKa
import Derived.Test.YtejlpdbiacmfcaaGreatDoorYMj
import Derived.WalkSmall
import Derived.WideLaws
set_option linter.unusedSimpArgs false
set_option linter.unusedVariables false
namespace Go.Proofs.YtejlpdbiacmfcaaGreatDoor
section
set_option maxHeartbeats 4000000
open Go Go.Proofs Go.RowKit Go.Lib

theorem strat_out {kind n : Int} (h : n < 1 ∨ 64 < n) : strat kind n = [] := by unfold strat; rw [if_pos h]
theorem strat_id {m : Nat} (h : 1 ≤ m ∧ m ≤ 64) : strat 0 m = rowsTo (fun i => blkRow m i (i + 1)) m := by unfold strat; rw [if_neg (by omega), if_pos rfl, Int.toNat_natCast]; rfl
theorem strat_pr {m : Nat} (h : 1 ≤ m ∧ m ≤ 64) : strat 1 m = rowsTo (fun i => blkRow m 0 (i + 1)) m := by unfold strat; rw [if_neg (by omega), if_neg (by omega), if_pos rfl, Int.toNat_natCast]; rfl
theorem strat_tr {m : Nat} (h : 1 ≤ m ∧ m ≤ 64) : strat 2 m = tree m := by unfold strat; rw [if_neg (by omega), if_neg (by omega), if_neg (by omega), if_pos rfl, Int.toNat_natCast]
theorem strat_no {kind n : Int} (h0 : kind ≠ 0) (h1 : kind ≠ 1) (h2 : kind ≠ 2) : strat kind n = [] := by unfold strat; split <;> simp_all
theorem treeTo_row {n : Nat} {l : List (Nat × Nat)} {r : List Int} (h : r ∈ treeTo n l) : r.length = n := by
 unfold treeTo at h
 rw [fold_mem] at h
 rcases h with h | h
 ·simp at h
 ·obtain ⟨b, _, rfl⟩ := List.mem_map.1 h
  exact blkRow_length _ _ _
theorem take_at {l : List (Nat × Nat)} {q : Nat} {b : Nat × Nat} (h : l[q]? = some b) : l.take (q + 1) = l.take q ++ [b] := by
 obtain ⟨h1, rfl⟩ := List.getElem?_eq_some_iff.1 h
 exact List.take_succ_eq_append_getElem h1

theorem mstrat_calls (kind n : Int) (w : World) :
  Calls Tryz.prog 11 #[.int .i64 kind, .int .i64 n] w (Ret fun v w' => StratR (strat kind n) w.heap.size v w' ∧ Below w.heap.size w w') := by
 refine enterM Tryz.func11 rfl Tryz.ntmps11 (Nat.le_of_ble_eq_true rfl) ?_
 refine dT rfl ?_
 refine bx rfl rfl rfl rfl ?_
 intro b3 w3 hb3 hs3 hk3 hg3
 have hB3 : Below w.heap.size w w3 := (Below.refl _ _).grown hg3 (Nat.le_refl _) (fun k e => by cases e)
 refine dT rfl ?_
 refine ld U rfl rfl rfl rfl ((hk3).cell rfl) ?_
 refine cS rfl rfl rfl rfl (fun hq1 => ?_) (fun hq1 => ?_)
 ·refine dT rfl ?_
  refine retM0 U Tryz.results11 (vs := [_]) ⟨rfl, trivial⟩ ⟨_, rfl, ?_, hB3⟩
  rw [strat_out (.inl hq1)]; exact StratR.nil _ _
 refine dT rfl ?_
 refine ld U rfl rfl rfl rfl ((hk3).cell rfl) ?_
 refine cS rfl rfl rfl rfl (fun hq2 => ?_) (fun hq2 => ?_)
 ·refine dT rfl ?_
  refine retM0 U Tryz.results11 (vs := [_]) ⟨rfl, trivial⟩ ⟨_, rfl, ?_, hB3⟩
  rw [strat_out (.inr hq2)]; exact StratR.nil _ _
 obtain ⟨m, rfl⟩ : ∃ m : Nat, n = (m : Int) := ⟨n.toNat, by omega⟩
 have h1 : 1 ≤ m := by omega
 have h64 : m ≤ 64 := by omega
 refine dT rfl ?_
 refine al U rfl rfl rfl rfl ?_
 intro b5 w5 hb5 hs5 hk5 hg5
 have hB5 := hB3.grown hg5 hB3.size (fun k e => by cases e)
 have hk3 := hk3.keep hg5 (by simp)
 refine dT rfl ?_
 refine cS rfl rfl rfl rfl (fun hq3 => ?_) (fun hq3 => ?_)
 ·subst hq3
  refine dT rfl ?_
  refine ld U rfl rfl rfl rfl ((hk3).cell rfl) ?_
  refine dT rfl ?_
  refine loopR (fun fr w' mm => ∃ (i : Nat) (a2 : Option Addr) (c2 : Nat), fr = [(3, .pointer (some ⟨b3, 0, none⟩)), (5, .pointer (some ⟨b5, 0, none⟩)), (20, .int .i64 (m : Nat)), (21, .int .i64 (i : Nat))] ∧ i ≤ m ∧ Bk w' b3 3 [.int .i64 (m : Nat)] ∧ Bk w' b5 27 [.slice a2 i c2] ∧
    OwnZ w' w.heap.size a2 c2 (rowsTo (fun i => blkRow m i (i + 1)) i) ∧ Below w.heap.size w w' ∧ mm = m - i)
   ⟨0, none, 0, rfl, by omega, hk3, hk5, OwnZ.nil _ _, hB5, rfl⟩ ⟨rfl, rfl, rfl, rfl, trivial⟩ ?_
  rintro fr w1 mm ⟨i, a2, c2, rfl, hi, hk3, hk5, hO, hB, rfl⟩
  refine dT rfl ?_
  refine cS rfl rfl rfl rfl (fun hq => ?_) (fun hq => ?_)
  ·have him : i < m := by omega
   obtain ⟨A, C, ho, h2⟩ := hO
   rw [rowsTo_len] at ho h2
   refine dT rfl ?_
   refine dwn 8 (fun W => Bk W b3 3 [.int .i64 (m : Nat)] ∧ Bk W b5 27 [.slice a2 i c2]) hmo ?_
   intro w5 hh5 hg5
   have hB5 := hB.grown hg5 hB.size (fun k e => by cases e)
   have hB15 : Below w1.heap.size w1 w5 := (Below.refl _ _).grown hg5 (Nat.le_refl _) (fun k e => by cases e)
   have hk35 := heap_bk hh5 hk3
   have hk55 := heap_bk hh5 hk5
   have hl3 : ∀ W, (Bk W b3 3 [.int .i64 (m : Nat)] ∧ Bk W b5 27 [.slice a2 i c2]) → (loadVar 3 ⟨b3, 0, none⟩).run Tryz.prog W = .ok (.int .i64 (m : Nat)) W := fun W h => run_load_cell U rfl (h.1.cell rfl)
   have hl5 : ∀ W, (Bk W b3 3 [.int .i64 (m : Nat)] ∧ Bk W b5 27 [.slice a2 i c2]) → (loadVar 27 ⟨b5, 0, none⟩).run Tryz.prog W = .ok (.slice a2 i c2) W := fun W h => run_load_cell U rfl (h.2.cell rfl)
   refine dq U [0,1,2,3,4] [(0, .slice a2 i c2), (1, .int .i64 (m : Nat))] (by kernel_rfl) rfl rfl ⟨hk35, hk55⟩ (by simp only [AllP, InR, List.nil_append, List.cons_append]; (repeat' apply And.intro); all_goals first | exact True.intro | omega | (with_reducible exact hl3) | (with_reducible exact hl5)) ?_
   refine d1 rfl rfl (fun _ => ⟨hk35, hk55⟩) ?_
   refine call (f := 40) rfl rfl cb40 (mrow_calls m i (i + 1) (by omega) (by omega) (by omega) w5) ?_
   rintro v w6 ⟨⟨a3, c3, rfl, hr3⟩, hB56⟩
   have hB6 := bl_tr hB5 hB56 hB5.size
   have hB16 := bl_tr hB15 hB56 hB15.size
   have hk36 := hk35.below hB56 hk35.lt
   have hk56 := hk55.below hB56 hk55.lt
   refine ⟨_, rfl, d2 ?_⟩
   refine d1 rfl rfl (fun _ => ⟨hk36, hk56⟩) ?_
   refine bs1 U (v := .slice a3 m c3) rfl rfl rfl rfl rfl rfl rfl ?_
   intro w7 hk7 hs7 hg7
   have hB67 : Below w6.heap.size w6 w7 := (Below.refl _ _).grown hg7 (Nat.le_refl _) (fun k e => by cases e)
   have hB7 := bl_tr hB6 hB67 hB6.size
   have hB17 := bl_tr hB16 hB67 hB16.size
   have hk37 := hk36.below hB67 hk36.lt
   have hk57 := hk56.below hB67 hk56.lt
   have ho7 := own_bw ho hB17
   have hr7 := own_bw hr3 hB67
   refine d2 ?_
   refine d1 rfl rfl (fun _ => ⟨hk37, hk57⟩) ?_
   refine aw U rfl rfl rfl rfl rfl rfl rfl rfl rfl ho7 (hk7.sl 0) rfl (by intro u hu; simp at hu; subst hu; rfl) hB7.size (by omega) rfl ?_
   intro a9 c9 w9 ho9 hg9
   have hB9 := hB7.grown hg9 hB7.size (fun g e => (own_block ho7 g e).1)
   have hk39 := hk37.keep hg9 (fun e => (own_tag ho7 b3 e).ne hk37.tg rfl rfl)
   have hk59 := hk57.keep hg9 (fun e => (own_tag ho7 b5 e).ne hk57.tg rfl rfl)
   have hO9 := OwnZ.snoc (xss := rowsTo (fun i => blkRow m i (i + 1)) i) (xs := (fun i => blkRow m i (i + 1)) i) (a := a2) (c := c2) (d := c3) (w := w7) (w' := w9) (by rw [rowsTo_len]; exact ho7) (fun j hj => ⟨(h2 j (by rw [rowsTo_len] at hj; exact hj)).1.below hB17 (fun g hg => ((h2 j (by rw [rowsTo_len] at hj; exact hj)).2 g hg).lt), fun g hg => ((h2 j (by rw [rowsTo_len] at hj; exact hj)).2 g hg).below hB17⟩) (own_sl hr7) (own_tag hr7) hg9 (by rw [rowsTo_len, blkRow_length]; exact ho9)
   rw [rowsTo_snoc] at hO9
   refine d2 ?_
   refine d1 rfl rfl (fun _ => ⟨hk39, hk59⟩) ?_
   refine st U rfl rfl rfl rfl rfl rfl rfl rfl rfl rfl (hk59) ?_
   intro w10 hk10 hg10 hs10
   have hB10 := hB9.grown hg10 hB9.size (fun k e => by cases e; omega)
   have hne : b5 ≠ b3 := fun e => hk59.tg.ne hk39.tg rfl e
   have hk310 := hk39.keep hg10 (fun e => hne (Option.some.inj e))
   have hO10 : OwnZ w10 w.heap.size a9 c9 (rowsTo (fun i => blkRow m i (i + 1)) (i + 1)) := by
    obtain ⟨A9, C9, h3, h4⟩ := hO9
    have hn5 : ∀ (b : Option Addr) (t : Nat), (∀ g, ab b = some g → Tg w9 t g) → Nat.beq t 27 = false → ∀ g, ab b = some g → some b5 ≠ some g := fun b t h ht g hg e => (h g hg).ne hk59.tg ht (Option.some.inj e).symm
    exact ⟨A9, C9, own_keep h3 hg10 (fun g hg e => hn5 _ _ (own_tag h3) rfl g hg e), fun j hj => ⟨(h4 j hj).1.keep hg10 (hn5 _ _ (h4 j hj).2 rfl), fun g hg => ((h4 j hj).2 g hg).grown hg10 (hn5 _ _ (h4 j hj).2 rfl g hg)⟩⟩
   refine d3 ?_; refine dend rfl (fun h => by cases h) ?_
   refine dS rfl ?_
   exact rend _ _ ⟨i + 1, a9, c9, rfl, by omega, hk310, hk10, hO10, hB10, rfl⟩ (by omega) ⟨rfl, rfl, rfl, iv (by omega), trivial⟩
  ·obtain rfl : i = m := by omega
   refine dT rfl ?_
   refine ld U rfl rfl rfl rfl ((hk5).cell rfl) ?_
   refine dT rfl ?_
   refine retM0 U Tryz.results11 (vs := [_]) ⟨rfl, trivial⟩ ⟨_, rfl, ?_, hB⟩
   rw [strat_id ⟨h1, h64⟩]
   exact ⟨a2, c2, by rw [rowsTo_len]; rfl, hO, fun e => by have := congrArg List.length e; rw [rowsTo_len] at this; simp at this; omega⟩
 refine dT rfl ?_
 refine cS rfl rfl rfl rfl (fun hq4 => ?_) (fun hq4 => ?_)
 ·subst hq4
  refine dT rfl ?_
  refine ld U rfl rfl rfl rfl ((hk3).cell rfl) ?_
  refine dT rfl ?_
  refine loopR (fun fr w' mm => ∃ (i : Nat) (a2 : Option Addr) (c2 : Nat), fr = [(3, .pointer (some ⟨b3, 0, none⟩)), (5, .pointer (some ⟨b5, 0, none⟩)), (35, .int .i64 (m : Nat)), (36, .int .i64 (i : Nat))] ∧ i ≤ m ∧ Bk w' b3 3 [.int .i64 (m : Nat)] ∧ Bk w' b5 27 [.slice a2 i c2] ∧
    OwnZ w' w.heap.size a2 c2 (rowsTo (fun i => blkRow m 0 (i + 1)) i) ∧ Below w.heap.size w w' ∧ mm = m - i)
   ⟨0, none, 0, rfl, by omega, hk3, hk5, OwnZ.nil _ _, hB5, rfl⟩ ⟨rfl, rfl, rfl, rfl, trivial⟩ ?_
  rintro fr w1 mm ⟨i, a2, c2, rfl, hi, hk3, hk5, hO, hB, rfl⟩
  refine dT rfl ?_
  refine cS rfl rfl rfl rfl (fun hq => ?_) (fun hq => ?_)
  ·have him : i < m := by omega
   obtain ⟨A, C, ho, h2⟩ := hO
   rw [rowsTo_len] at ho h2
   refine dT rfl ?_
   refine dwn 7 (fun W => Bk W b3 3 [.int .i64 (m : Nat)] ∧ Bk W b5 27 [.slice a2 i c2]) hmo ?_
   intro w5 hh5 hg5
   have hB5 := hB.grown hg5 hB.size (fun k e => by cases e)
   have hB15 : Below w1.heap.size w1 w5 := (Below.refl _ _).grown hg5 (Nat.le_refl _) (fun k e => by cases e)
   have hk35 := heap_bk hh5 hk3
   have hk55 := heap_bk hh5 hk5
   have hl3 : ∀ W, (Bk W b3 3 [.int .i64 (m : Nat)] ∧ Bk W b5 27 [.slice a2 i c2]) → (loadVar 3 ⟨b3, 0, none⟩).run Tryz.prog W = .ok (.int .i64 (m : Nat)) W := fun W h => run_load_cell U rfl (h.1.cell rfl)
   have hl5 : ∀ W, (Bk W b3 3 [.int .i64 (m : Nat)] ∧ Bk W b5 27 [.slice a2 i c2]) → (loadVar 27 ⟨b5, 0, none⟩).run Tryz.prog W = .ok (.slice a2 i c2) W := fun W h => run_load_cell U rfl (h.2.cell rfl)
   refine dq U [0,1,2,3] [(0, .slice a2 i c2), (1, .int .i64 (m : Nat))] (by kernel_rfl) rfl rfl ⟨hk35, hk55⟩ (by simp only [AllP, InR, List.nil_append, List.cons_append]; (repeat' apply And.intro); all_goals first | exact True.intro | omega | (with_reducible exact hl3) | (with_reducible exact hl5)) ?_
   refine d1 rfl rfl (fun _ => ⟨hk35, hk55⟩) ?_
   refine call (f := 40) rfl rfl cb40 (mrow_calls m 0 (i + 1) (by omega) (by omega) (by omega) w5) ?_
   rintro v w6 ⟨⟨a3, c3, rfl, hr3⟩, hB56⟩
   have hB6 := bl_tr hB5 hB56 hB5.size
   have hB16 := bl_tr hB15 hB56 hB15.size
   have hk36 := hk35.below hB56 hk35.lt
   have hk56 := hk55.below hB56 hk55.lt
   refine ⟨_, rfl, d2 ?_⟩
   refine d1 rfl rfl (fun _ => ⟨hk36, hk56⟩) ?_
   refine bs1 U (v := .slice a3 m c3) rfl rfl rfl rfl rfl rfl rfl ?_
   intro w7 hk7 hs7 hg7
   have hB67 : Below w6.heap.size w6 w7 := (Below.refl _ _).grown hg7 (Nat.le_refl _) (fun k e => by cases e)
   have hB7 := bl_tr hB6 hB67 hB6.size
   have hB17 := bl_tr hB16 hB67 hB16.size
   have hk37 := hk36.below hB67 hk36.lt
   have hk57 := hk56.below hB67 hk56.lt
   have ho7 := own_bw ho hB17
   have hr7 := own_bw hr3 hB67
   refine d2 ?_
   refine d1 rfl rfl (fun _ => ⟨hk37, hk57⟩) ?_
   refine aw U rfl rfl rfl rfl rfl rfl rfl rfl rfl ho7 (hk7.sl 0) rfl (by intro u hu; simp at hu; subst hu; rfl) hB7.size (by omega) rfl ?_
   intro a9 c9 w9 ho9 hg9
   have hB9 := hB7.grown hg9 hB7.size (fun g e => (own_block ho7 g e).1)
   have hk39 := hk37.keep hg9 (fun e => (own_tag ho7 b3 e).ne hk37.tg rfl rfl)
   have hk59 := hk57.keep hg9 (fun e => (own_tag ho7 b5 e).ne hk57.tg rfl rfl)
   have hO9 := OwnZ.snoc (xss := rowsTo (fun i => blkRow m 0 (i + 1)) i) (xs := (fun i => blkRow m 0 (i + 1)) i) (a := a2) (c := c2) (d := c3) (w := w7) (w' := w9) (by rw [rowsTo_len]; exact ho7) (fun j hj => ⟨(h2 j (by rw [rowsTo_len] at hj; exact hj)).1.below hB17 (fun g hg => ((h2 j (by rw [rowsTo_len] at hj; exact hj)).2 g hg).lt), fun g hg => ((h2 j (by rw [rowsTo_len] at hj; exact hj)).2 g hg).below hB17⟩) (own_sl hr7) (own_tag hr7) hg9 (by rw [rowsTo_len, blkRow_length]; exact ho9)
   rw [rowsTo_snoc] at hO9
   refine d2 ?_
   refine d1 rfl rfl (fun _ => ⟨hk39, hk59⟩) ?_
   refine st U rfl rfl rfl rfl rfl rfl rfl rfl rfl rfl (hk59) ?_
   intro w10 hk10 hg10 hs10
   have hB10 := hB9.grown hg10 hB9.size (fun k e => by cases e; omega)
   have hne : b5 ≠ b3 := fun e => hk59.tg.ne hk39.tg rfl e
   have hk310 := hk39.keep hg10 (fun e => hne (Option.some.inj e))
   have hO10 : OwnZ w10 w.heap.size a9 c9 (rowsTo (fun i => blkRow m 0 (i + 1)) (i + 1)) := by
    obtain ⟨A9, C9, h3, h4⟩ := hO9
    have hn5 : ∀ (b : Option Addr) (t : Nat), (∀ g, ab b = some g → Tg w9 t g) → Nat.beq t 27 = false → ∀ g, ab b = some g → some b5 ≠ some g := fun b t h ht g hg e => (h g hg).ne hk59.tg ht (Option.some.inj e).symm
    exact ⟨A9, C9, own_keep h3 hg10 (fun g hg e => hn5 _ _ (own_tag h3) rfl g hg e), fun j hj => ⟨(h4 j hj).1.keep hg10 (hn5 _ _ (h4 j hj).2 rfl), fun g hg => ((h4 j hj).2 g hg).grown hg10 (hn5 _ _ (h4 j hj).2 rfl g hg)⟩⟩
   refine d3 ?_; refine dend rfl (fun h => by cases h) ?_
   refine dS rfl ?_
   exact rend _ _ ⟨i + 1, a9, c9, rfl, by omega, hk310, hk10, hO10, hB10, rfl⟩ (by omega) ⟨rfl, rfl, rfl, iv (by omega), trivial⟩
  ·obtain rfl : i = m := by omega
   refine dT rfl ?_
   refine ld U rfl rfl rfl rfl ((hk5).cell rfl) ?_
   refine dT rfl ?_
   refine retM0 U Tryz.results11 (vs := [_]) ⟨rfl, trivial⟩ ⟨_, rfl, ?_, hB⟩
   rw [strat_pr ⟨h1, h64⟩]
   exact ⟨a2, c2, by rw [rowsTo_len]; rfl, hO, fun e => by have := congrArg List.length e; rw [rowsTo_len] at this; simp at this; omega⟩
 refine dT rfl ?_
 refine cS rfl rfl rfl rfl (fun hq5 => ?_) (fun hq5 => ?_)
 ·subst hq5
  refine dT rfl ?_
  refine ld U rfl rfl rfl rfl ((hk3).cell rfl) ?_
  refine call (f := 41) rfl rfl cb41 (blocks_calls m w5) ?_
  rintro v w6 ⟨rfl, hs6, hk6, hg6⟩
  refine ⟨_, rfl, ?_⟩
  have hB6 := hB5.grown hg6 hB5.size (fun k e => by cases e)
  have hk36 := hk3.keep hg6 (by simp)
  have hk56 := hk5.keep hg6 (by simp)
  refine dT rfl ?_
  refine rng rfl cb78 rfl (blocks_seq m w5.heap.size (by omega) h64 (fun W => Bk W w5.heap.size 3 [.int .i64 (m : Nat)]) (fun W h => h)) (fun q vs h => by obtain ⟨b, _, rfl⟩ := h; rfl)
   (fun q W => ∃ a2, ∃ c2, Bk W b3 3 [.int .i64 (m : Nat)] ∧ Bk W b5 27 [.slice a2 (treeTo m ((blks m).take q)).length c2] ∧ OwnZ W w.heap.size a2 c2 (treeTo m ((blks m).take q)) ∧ Below w.heap.size w W)
   (fun _ _ => False)
   (fun q => OwnB.ex fun a2 => OwnB.ex fun c2 => (OwnB.bk _ _ _ _).and ((OwnB.bk _ _ _ _).and ((OwnZ.ownB _ _ _ _ _).and (OwnB.below _ (by omega) (Nat.le_refl _)))))
   (fun _ => OwnB.pure _ _) (OwnB.bk _ _ _ _) ⟨none, 0, hk36, hk56, OwnZ.nil _ _, hB6⟩ hk6
   (fun vs => [(8, vs.headD undef), (9, vs.getD 1 undef), (3, .pointer (some ⟨b3, 0, none⟩)), (5, .pointer (some ⟨b5, 0, none⟩))]) ?_ ?_ ?_ ?_
  ·rintro L q vs W ⟨b, _, rfl⟩
   refine dT rfl ?_
   exact asg ⟨rfl, rfl, rfl, rfl, trivial⟩
  ·rintro L q vs W hq ⟨b, hb, rfl⟩ ⟨a2, c2, hk3, hk5, hO, hB⟩ hk6 hsz
   obtain ⟨hb1, hb2⟩ := blks_mem (List.mem_of_getElem? hb)
   have hbl := blks_len (n := m) (by omega) h64
   have htl := treeTo_len m ((blks m).take q)
   rw [List.length_take] at htl
   have htk := take_at hb
   have hrow := fun r (h : r ∈ treeTo m ((blks m).take q)) => treeTo_row h
   have hnext : treeTo m ((blks m).take (q + 1)) = addRow (treeTo m ((blks m).take q)) (blkRow m b.1 b.2) := by rw [htk, treeTo_snoc]; rfl
   rw [hnext]
   generalize treeTo m ((blks m).take q) = out at *
   refine dT rfl ?_
   refine ld U rfl rfl rfl rfl ((hk3).cell rfl) ?_
   refine dT rfl ?_
   refine call (f := 40) rfl rfl cb40 (mrow_calls m b.1 b.2 (by omega) (by omega) (by omega) W) ?_
   rintro v W1 ⟨⟨a3, c3, rfl, hr3⟩, hB1⟩
   have hO1 := hO.stay hB1
   have hk31 := hk3.below hB1 hk3.lt
   have hk51 := hk5.below hB1 hk5.lt
   have hk61 := hk6.below hB1 hk6.lt
   have hBw1 := bl_tr hB hB1 hB.size
   have ko1 := ko_below (KeepsOthers.refl W) hB1
   refine ⟨_, rfl, ?_⟩
   refine dT rfl ?_
   refine ld U rfl rfl rfl rfl ((hk51).cell rfl) ?_
   refine dT rfl ?_
   have hcon := contains_calls out (blkRow m b.1 b.2) (by omega) (fun i hi => by rw [hrow _ (irow_mem hi)]; omega) (by rw [blkRow_length]; omega) a2 a3 c2 c3 W1 hO1.sz (own_sl hr3)
   rw [blkRow_length] at hcon
   refine call (f := 42) rfl rfl cb42 hcon ?_
   rintro v W2 ⟨rfl, hB2⟩
   have hO2 := hO1.stay hB2
   have hk32 := hk31.below hB2 hk31.lt
   have hk52 := hk51.below hB2 hk51.lt
   have hk62 := hk61.below hB2 hk61.lt
   have hr2 := own_bw hr3 hB2
   have hBw2 := bl_tr hBw1 hB2 hBw1.size
   have ko2 := ko_below ko1 hB2
   refine ⟨_, rfl, ?_⟩
   by_cases hin : blkRow m b.1 b.2 ∈ out
   ·rw [decide_eq_true hin]
    refine dT rfl ?_
    rw [addRow, if_pos hin]
    exact rnd ⟨ko2, ⟨a2, c2, hk32, hk52, hO2, hBw2⟩, hk62⟩
   ·rw [decide_eq_false hin]
    rw [addRow, if_neg hin]
    obtain ⟨A, C, ho, h2⟩ := hO2
    refine dT rfl ?_
    refine ld U rfl rfl rfl rfl ((hk52).cell rfl) ?_
    refine dT rfl ?_
    refine ap U (v := (.slice a3 m c3)) rfl rfl rfl rfl rfl rfl (fun _ => rfl) rfl (fun _ => rfl) rfl rfl rfl ho hBw2.size (by omega) (by decide) ?_
    intro a9 c9 w9 ho9 hg9
    have hB9 := hBw2.grown hg9 hBw2.size (fun g e => (own_block ho g e).1)
    have hk39 := hk32.keep hg9 (fun e => (own_tag ho b3 e).ne hk32.tg rfl rfl)
    have hk59 := hk52.keep hg9 (fun e => (own_tag ho b5 e).ne hk52.tg rfl rfl)
    have hk69 := hk62.keep hg9 (fun e => (own_tag ho _ e).ne hk62.tg rfl rfl)
    have ko9 := ko_grown ko2 hg9 (own_cells ho)
    have hO9 := OwnZ.snoc (xss := out) (xs := blkRow m b.1 b.2) (a := a2) (c := c2) (d := c3) (w := W2) (w' := w9) ho h2 (own_sl hr2) (own_tag hr2) hg9 (by rw [blkRow_length]; exact ho9)
    refine st U rfl rfl rfl rfl rfl rfl rfl rfl rfl rfl (hk59) ?_
    intro w10 hk10 hg10 hs10
    have hB10 := hB9.grown hg10 hB9.size (fun k e => by cases e; omega)
    have hne : b5 ≠ b3 := fun e => hk59.tg.ne hk39.tg rfl e
    have hne6 : b5 ≠ w5.heap.size := fun e => hk59.tg.ne hk69.tg rfl e
    have hk310 := hk39.keep hg10 (fun e => hne (Option.some.inj e))
    have hk610 := hk69.keep hg10 (fun e => hne6 (Option.some.inj e))
    have ko10 := ko_grown ko9 hg10 (fun k e => by cases e; exact ⟨_, _, _, hk59⟩)
    have hO10 : OwnZ w10 w.heap.size a9 c9 (out ++ [blkRow m b.1 b.2]) := by
     obtain ⟨A9, C9, h3, h4⟩ := hO9
     have hn5 : ∀ (b : Option Addr) (t : Nat), (∀ g, ab b = some g → Tg w9 t g) → Nat.beq t 27 = false → ∀ g, ab b = some g → some b5 ≠ some g := fun b t h ht g hg e => (h g hg).ne hk59.tg ht (Option.some.inj e).symm
     exact ⟨A9, C9, own_keep h3 hg10 (fun g hg e => hn5 _ _ (own_tag h3) rfl g hg e), fun j hj => ⟨(h4 j hj).1.keep hg10 (hn5 _ _ (h4 j hj).2 rfl), fun g hg => ((h4 j hj).2 g hg).grown hg10 (hn5 _ _ (h4 j hj).2 rfl g hg)⟩⟩
    refine dT rfl ?_
    exact rnd ⟨ko10, ⟨a9, c9, hk310, by rw [List.length_append, List.length_singleton]; exact hk10, hO10, hB10⟩, hk610⟩
  ·rintro D W hD ⟨a2, c2, hk3, hk5, hO, hB⟩ hK
   rw [List.take_length] at hk5 hO
   have hgp := grownBy_putObj' W D (.deferred none)
   have hOp := OwnZ.ownB 0 _ _ _ _ W _ (some D) hO hgp (fun r e => by cases e; exact ⟨by omega, _, hK, rfl⟩)
   refine dT rfl ?_
   refine ld U rfl rfl rfl rfl ((hk5).cell rfl) ?_
   refine dT rfl ?_
   refine retM1 U Tryz.results11 (vs := [_]) hK ⟨rfl, trivial⟩ ⟨_, rfl, ?_, hB.grown hgp hB.size (fun k e => by cases e; have := hB6.size; have := hB3.size; omega)⟩
   rw [strat_tr ⟨h1, h64⟩, tree_to]
   exact ⟨a2, c2, rfl, hOp, fun e => by
    have h := strat_empty (kind := 2) (n := m) (by omega) h64 (by omega)
    rw [strat_tr ⟨h1, h64⟩, tree_to] at h
    exact absurd e h⟩
  ·rintro D cd W hD h hK
   exact h.elim
 ·refine dT rfl ?_
  refine ld U rfl rfl rfl rfl ((hk5).cell rfl) ?_
  refine dT rfl ?_
  refine retM0 U Tryz.results11 (vs := [_]) ⟨rfl, trivial⟩ ⟨_, rfl, ?_, hB5⟩
  rw [strat_no hq3 hq4 hq5]; exact StratR.nil _ _
end
section
set_option maxHeartbeats 1000000
set_option maxRecDepth 10000
open Go Go.Proofs Go.RowKit Go.Lib
end
section
set_option maxHeartbeats 1000000
open Go Go.Proofs Go.RowKit Go.Lib

theorem dec_small {u : Nat} (h : u < 10) : decDigits u = [UInt8.ofNat (48 + u)] := by rw [decDigits, dif_pos h]

def OutF (n : Int) (v : Value) : Prop := (n < 0 ∧ v = .tuple ⟨[.string ⟨⟨[]⟩⟩, .int .i64 2]⟩) ∨ (0 ≤ n ∧ v = .tuple ⟨[.string ⟨⟨decDigits n.toNat⟩⟩, .int .i64 0]⟩)
theorem refFromInt_calls (n : Int) (hn : n ≤ 9223372036854775807) (w : World) :
  Calls Tryz.prog 60 #[.int .i64 n] w (Ret fun v w' => OutF n v ∧ w = w') := by
 refine enter Tryz.func60 rfl Tryz.ntmps60 (Nat.le_of_ble_eq_true rfl) ?_
 refine dT rfl ?_
 refine cS rfl rfl rfl rfl (fun hq => ?_) (fun hq => ?_)
 ·refine dT rfl ?_
  exact ret Tryz.results60 rfl ⟨_, rfl, .inl ⟨hq, rfl⟩, rfl⟩
 ·obtain ⟨k, rfl⟩ : ∃ k : Nat, n = k := ⟨n.toNat, by omega⟩
  have hk19 := nD_le 19 k (by omega) (by omega)
  have hkl := decDigits_length k
  refine dT rfl ?_
  refine loopR (fun l w' m => ∃ s : List UInt8, l = [(0, .int .i64 (m : Nat)), (4, .string ⟨⟨s⟩⟩)] ∧ decDigits k = decDigits m ++ s ∧ m ≤ k ∧ w = w') (m0 := k) ⟨[], rfl, by simp, Nat.le_refl _, rfl⟩ ⟨rfl, rfl, trivial⟩ ?_
  rintro l w1 m ⟨s, rfl, hs, hm, rfl⟩
  have hsl := congrArg List.length hs
  rw [List.length_append] at hsl
  refine dT rfl ?_
  refine cS rfl rfl rfl rfl (fun hq => ?_) (fun hq => ?_)
  ·have hbig := dec_big (u := m) (by omega)
   have hd := ofNat_d (k := m % 10) (by omega)
   have h1 : [UInt8.ofNat (48 + m % 10)].length = 1 := rfl
   refine dS rfl ?_
   refine rstr U (UInt8.ofNat (48 + m % 10)) rfl (by rw [hd]; omega) (by rw [hd]; omega) rfl rfl rfl rfl ?_
   refine dS rfl ?_
   refine rend _ (m / 10) ⟨UInt8.ofNat (48 + m % 10) :: s, rfl, by rw [hs, hbig]; simp, by omega, rfl⟩ (by omega) ⟨iv (by omega), rfl, trivial⟩
  ·have hsm := dec_small (u := m) (by omega)
   have hd := ofNat_d (k := m) (by omega)
   have h1 : [UInt8.ofNat (48 + m)].length = 1 := rfl
   refine dS rfl ?_
   refine rstr U (UInt8.ofNat (48 + m)) rfl (by rw [hd]; omega) (by rw [hd]; omega) rfl rfl rfl rfl ?_
   refine dS rfl ?_
   refine ret Tryz.results60 rfl ⟨_, rfl, .inr ⟨by omega, ?_⟩, rfl⟩
   rw [Int.toNat_natCast, hs, hsm]; rfl
end
section
set_option maxHeartbeats 1000000
open Go Go.Proofs Go.RowKit Go.Lib Go.Sort

theorem grow_below (w : World) (k : Nat) (os : Array Obj) : Below w.heap.size w (grow (w.drewN k) os) :=
 (below_drewN (Below.refl _ w) k).trans ⟨rfl, rfl, rfl, by simp [grow], fun i hi => by
  have : i < (w.drewN k).heap.size := hi
  simp only [grow]
  rw [Array.getElem?_append_left this]⟩

def ErrOk (w : World) : Prop := ∃ ev, w.cell? ⟨3, 0, none⟩ = some ev ∧ (ev = .nilIface ∨ ∃ te pe, ev = .iface te pe)
theorem ErrOk.below {w w' : World} (h : ErrOk w) (hb : Below w.heap.size w w') : ErrOk w' := by
 obtain ⟨ev, h1, h2⟩ := h
 exact ⟨ev, by rw [hb.cell (World.block_lt_of_cell? w _ h1)]; exact h1, h2⟩

section
variable {P : Program} {ro : Option Nat} {n : Nat} {ds : List Deferred} {Q : PT} {l l' : Fr} {w w' : World} {arr : Array Oper} {r : List Oper} {k : List It}
end
end
section
set_option maxHeartbeats 2000000
open Go Go.Proofs Go.RowKit Go.Lib

theorem qtext_int (z : Int) : qtext (z : Rat) = itoa z := by
 unfold qtext itoa
 rw [Rat.num_intCast, Rat.den_intCast, if_pos rfl, List.append_nil]
 by_cases h : z < 0
 ·rw [if_pos h, if_pos h]; rfl
 ·rw [if_neg h, if_neg h, List.nil_append]
  congr 1
  omega
theorem mint_calls (z : Int) (h0 : -9223372036854775808 ≤ z) (h1 : z ≤ 9223372036854775807) (w : World) (ht : TabOk w) :
  Calls Tryz.prog 43 #[.int .i64 z] w (Ret fun v w' => v = .string ⟨⟨qtext (z : Rat)⟩⟩ ∧ Below w.heap.size w w') := by
 refine enter Tryz.func43 rfl Tryz.ntmps43 (Nat.le_of_ble_eq_true rfl) ?_
 refine dT rfl ?_
 have hc : Calls Tryz.prog 82 #[.int .i64 z] w (Ret fun v w' => v = .string ⟨⟨qtext (z : Rat)⟩⟩ ∧ Below w.heap.size w w') :=
  (Tryz.strconv_Itoa z h0 h1 w (ht.tab (by kernel_rfl))).mono (by
   rintro e w' ⟨rfl, k, os, rfl⟩
   exact ⟨_, rfl, by rw [qtext_int], grow_below w k os⟩)
 refine call (f := 82) rfl rfl cb82 hc ?_
 rintro v w1 ⟨rfl, hB⟩
 refine ⟨_, rfl, ?_⟩
 refine dT rfl ?_
 exact ret Tryz.results43 rfl ⟨_, rfl, rfl, hB⟩

theorem mwith_calls (p : Rat) (hp : Small 4000 p) (s : List UInt8) (g : Nat) (lb : List Value) (J : World → Prop) (hJ : ∀ W W', J W → Below W.heap.size W W' → J W') (hcb : Callable Tryz.prog g)
  (hf : ∀ u W, FQ W u p → J W → TabOk W → Calls Tryz.prog g (u :: lb).toArray W (Ret fun v w' => v = .tuple ⟨[.string ⟨⟨s⟩⟩, .int .i64 0]⟩ ∧ Below W.heap.size W w')) (w : World) (hj : J w) (ht : TabOk w) :
  Calls Tryz.prog 113 #[.string ⟨⟨qtext p⟩⟩, .func (.func g) ⟨[]⟩ ⟨lb⟩] w (Ret fun v w' => v = .tuple ⟨[.string ⟨⟨s⟩⟩, .int .i64 0]⟩ ∧ Below w.heap.size w w') := by
 have hql := qtext_len hp
 obtain ⟨hq0, hqv⟩ := q_text_ok p hp
 refine enter Tryz.func113 rfl Tryz.ntmps113 (Nat.le_of_ble_eq_true rfl) ?_
 refine dT rfl ?_
 refine call (f := 96) rfl rfl cb96 (frparse_calls (qtext p) (by omega) w) ?_
 rintro v w2 ⟨hr, hB2⟩
 obtain ⟨m, b1, n1, c1, b2, n2, cc2, e, rfl, hqe, hfq⟩ := hr.cases
 obtain rfl := hqe.uniq hq0
 have hf2 := hfq rfl
 rw [hqv] at hf2
 have hbz := hB2.size
 refine ⟨_, rfl, ?_⟩
 refine dT rfl ?_
 refine al U rfl rfl rfl rfl ?_
 intro b7 w3 hb7 hs3 hk7 hg3
 have hB3 := hB2.grown hg3 hB2.size (fun k e => by cases e)
 refine dT rfl ?_
 refine st U rfl rfl rfl rfl rfl rfl rfl rfl rfl rfl (hk7) ?_
 intro w4 hk7 hg4 hs4
 have hB4 := hB3.grown hg4 hB3.size (fun k e => by cases e; omega)
 have hB24 : Below w2.heap.size w2 w4 := ((Below.refl _ _).grown hg3 (Nat.le_refl _) (fun k e => by cases e)).grown hg4 (by omega) (fun k e => by cases e; omega)
 have hf4 := hf2.stay hB24
 refine dT rfl ?_
 refine cF rfl rfl rfl ((fun h => h rfl)) ?_; refine dT rfl ?_
 refine lg rfl ag_frac rfl rfl hk7 rfl ?_
 refine call (f := g) rfl rfl hcb (hf _ w4 hf4 (hJ _ _ hj hB4) (ht.below hB4)) ?_
 rintro v w5 ⟨rfl, hB5⟩
 refine ⟨_, rfl, ?_⟩
 refine dT rfl ?_
 exact ret Tryz.results113 rfl ⟨_, rfl, rfl, bl_tr hB4 hB5 hB4.size⟩

theorem madd1_calls (p q : Rat) (hp : Small 4000 p) (hq : Small 4000 q) (hr : Small 4000 (p + q)) (v1 v2 : Value) (w : World) (h1 : FQ w v1 p) (h2 : FQ w v2 q) (ht : TabOk w) :
  Calls Tryz.prog 86 #[v1, v2] w (Ret fun v w' => v = .tuple ⟨[.string ⟨⟨qtext (p + q)⟩⟩, .int .i64 0]⟩ ∧ Below w.heap.size w w') := by
 obtain ⟨u1, u2, u3, u4, u5, u6, u7, rfl⟩ := h1.shape
 obtain ⟨y1, y2, y3, y4, y5, y6, y7, rfl⟩ := h2.shape
 refine enter Tryz.func86 rfl Tryz.ntmps86 (Nat.le_of_ble_eq_true rfl) ?_
 refine dT rfl ?_
 refine bx rfl rfl rfl rfl ?_
 intro b1 wa hb1 hsa hk1 hga
 have hB1 : Below w.heap.size w wa := (Below.refl _ _).grown hga (Nat.le_refl _) (fun k e => by cases e)
 refine dT rfl ?_
 refine bx rfl rfl rfl rfl ?_
 intro b2 wb hb2 hsb hk2 hgb
 have hk1 := hk1.keep hgb (by simp)
 have hB2 := hB1.grown hgb hB1.size (fun k e => by cases e)
 refine dT rfl ?_
 refine lg rfl ag_frac rfl rfl hk1 rfl ?_
 refine lg rfl ag_frac rfl rfl hk2 rfl ?_
 refine call (f := 53) rfl rfl cb53 (fadd_calls p q 4000 (by omega) _ _ wb (h1.stay hB2) (h2.stay hB2) hp hq) ?_
 rintro v w3 ⟨hf3, hB3⟩
 have hB3' := bl_tr hB2 hB3 hB2.size
 refine ⟨_, rfl, ?_⟩
 refine call (f := 55) rfl rfl cb55 (frnumq_calls (p + q) _ w3 hf3 (hr.fits (by omega)) (ht.below hB3')) ?_
 rintro v w4 ⟨hres, hB4⟩
 obtain rfl := hres.ok hr
 refine ⟨_, rfl, ?_⟩
 refine dT rfl ?_
 exact ret Tryz.results86 rfl ⟨_, rfl, rfl, bl_tr hB3' hB4 hB3'.size⟩
theorem mboth2_calls (p q : Rat) (hp : Small 4000 p) (hq : Small 4000 q) (hr : Small 4000 (p + q)) (b2 b3 : Nat) (x1 : Bool) (x2 x5 : Option Addr) (x3 x4 x6 x7 : Nat) (v2 : Value) (w : World)
  (h1 : FQ w (.agg ⟨[.bool x1, .slice x2 x3 x4, .slice x5 x6 x7]⟩) p) (hk2 : Bk w b2 110 [.func (.func 86) ⟨[]⟩ ⟨[]⟩]) (hk3 : Bk w b3 76 [.bool x1, .slice x2 x3 x4, .slice x5 x6 x7]) (h2 : FQ w v2 q) (ht : TabOk w) :
  Calls Tryz.prog 115 #[v2, .pointer (some ⟨b2, 0, none⟩), .pointer (some ⟨b3, 0, none⟩)] w (Ret fun v w' => v = .tuple ⟨[.string ⟨⟨qtext (p + q)⟩⟩, .int .i64 0]⟩ ∧ Below w.heap.size w w') := by
 obtain ⟨y1, y2, y3, y4, y5, y6, y7, rfl⟩ := h2.shape
 refine enter Tryz.func115 rfl Tryz.ntmps115 (Nat.le_of_ble_eq_true rfl) ?_
 refine dT rfl ?_
 refine bx rfl rfl rfl rfl ?_
 intro b1 wa hb1 hsa hk1 hga
 have hB1 : Below w.heap.size w wa := (Below.refl _ _).grown hga (Nat.le_refl _) (fun k e => by cases e)
 have hk2 := hk2.keep hga (by simp)
 have hk3 := hk3.keep hga (by simp)
 refine dT rfl ?_
 refine ld U rfl rfl rfl rfl ((hk2).cell rfl) ?_
 refine lg rfl ag_frac rfl rfl hk3 rfl ?_
 refine lg rfl ag_frac rfl rfl hk1 rfl ?_
 refine call (f := 86) rfl rfl cb86 (madd1_calls p q hp hq hr _ _ wa (h1.stay hB1) (h2.stay hB1) (ht.below hB1)) ?_
 rintro v w4 ⟨rfl, hB4⟩
 refine ⟨_, rfl, ?_⟩
 refine dT rfl ?_
 exact ret Tryz.results115 rfl ⟨_, rfl, rfl, bl_tr hB1 hB4 hB1.size⟩
theorem mboth1_calls (p q : Rat) (hp : Small 4000 p) (hq : Small 4000 q) (hr : Small 4000 (p + q)) (b1 b2 : Nat) (v1 : Value) (w : World)
  (h1 : FQ w v1 p) (hk1 : Bk w b1 35 [.string ⟨⟨qtext q⟩⟩]) (hk2 : Bk w b2 110 [.func (.func 86) ⟨[]⟩ ⟨[]⟩]) (ht : TabOk w) :
  Calls Tryz.prog 114 #[v1, .pointer (some ⟨b1, 0, none⟩), .pointer (some ⟨b2, 0, none⟩)] w (Ret fun v w' => v = .tuple ⟨[.string ⟨⟨qtext (p + q)⟩⟩, .int .i64 0]⟩ ∧ Below w.heap.size w w') := by
 obtain ⟨y1, y2, y3, y4, y5, y6, y7, rfl⟩ := h1.shape
 refine enter Tryz.func114 rfl Tryz.ntmps114 (Nat.le_of_ble_eq_true rfl) ?_
 refine dT rfl ?_
 refine bx rfl rfl rfl rfl ?_
 intro b3 wa hb3 hsa hk3 hga
 have hB1 : Below w.heap.size w wa := (Below.refl _ _).grown hga (Nat.le_refl _) (fun k e => by cases e)
 have hk1 := hk1.keep hga (by simp)
 have hk2 := hk2.keep hga (by simp)
 have h1 := h1.stay hB1
 refine dT rfl ?_
 refine ld U rfl rfl rfl rfl ((hk1).cell rfl) ?_
 refine dT rfl ?_
 refine call (f := 113) rfl rfl cb113 (mwith_calls q hq (qtext (p + q)) 115 [.pointer (some ⟨b2, 0, none⟩), .pointer (some ⟨b3, 0, none⟩)]
  (fun W => FQ W (.agg ⟨[.bool y1, .slice y2 y3 y4, .slice y5 y6 y7]⟩) p ∧ Bk W b2 110 [.func (.func 86) ⟨[]⟩ ⟨[]⟩] ∧ Bk W b3 76 [.bool y1, .slice y2 y3 y4, .slice y5 y6 y7])
  (fun W W' h hB => ⟨h.1.stay hB, h.2.1.below hB h.2.1.lt, h.2.2.below hB h.2.2.lt⟩) cb115
  (fun u W hu h htW => mboth2_calls p q hp hq hr b2 b3 y1 y2 y5 y3 y4 y6 y7 u W h.1 h.2.1 h.2.2 hu htW) wa ⟨h1, hk2, hk3⟩ (ht.below hB1)) ?_
 rintro v w4 ⟨rfl, hB4⟩
 refine ⟨_, rfl, ?_⟩
 refine dT rfl ?_
 exact ret Tryz.results114 rfl ⟨_, rfl, rfl, bl_tr hB1 hB4 hB1.size⟩
theorem madd_q {p q : Rat} (hp : Small 4000 p) (hq : Small 4000 q) (hr : Small 4000 (p + q)) (w : World) (ht : TabOk w) :
  Calls Tryz.prog 49 #[.string ⟨⟨qtext p⟩⟩, .string ⟨⟨qtext q⟩⟩] w (Ret fun v w' => v = .tuple ⟨[.string ⟨⟨qtext (p + q)⟩⟩, .int .i64 0]⟩ ∧ Below w.heap.size w w') := by
 have hboth : Calls Tryz.prog 85 #[.string ⟨⟨qtext p⟩⟩, .string ⟨⟨qtext q⟩⟩, .func (.func 86) ⟨[]⟩ ⟨[]⟩] w (Ret fun v w' => v = .tuple ⟨[.string ⟨⟨qtext (p + q)⟩⟩, .int .i64 0]⟩ ∧ Below w.heap.size w w') := by
  refine enter Tryz.func85 rfl Tryz.ntmps85 (Nat.le_of_ble_eq_true rfl) ?_
  refine dT rfl ?_
  refine bx rfl rfl rfl rfl ?_
  intro b1 wa hb1 hsa hk1 hga
  have hB1 : Below w.heap.size w wa := (Below.refl _ _).grown hga (Nat.le_refl _) (fun k e => by cases e)
  refine dT rfl ?_
  refine bx rfl rfl rfl rfl ?_
  intro b2 wb hb2 hsb hk2 hgb
  have hk1 := hk1.keep hgb (by simp)
  have hB2 := hB1.grown hgb hB1.size (fun k e => by cases e)
  refine dT rfl ?_
  refine call (f := 113) rfl rfl cb113 (mwith_calls p hp (qtext (p + q)) 114 [.pointer (some ⟨b1, 0, none⟩), .pointer (some ⟨b2, 0, none⟩)]
   (fun W => Bk W b1 35 [.string ⟨⟨qtext q⟩⟩] ∧ Bk W b2 110 [.func (.func 86) ⟨[]⟩ ⟨[]⟩])
   (fun W W' h hB => ⟨h.1.below hB h.1.lt, h.2.below hB h.2.lt⟩) cb114
   (fun u W hu h htW => mboth1_calls p q hp hq hr b1 b2 u W hu h.1 h.2 htW) wb ⟨hk1, hk2⟩ (ht.below hB2)) ?_
  rintro v w4 ⟨rfl, hB4⟩
  refine ⟨_, rfl, ?_⟩
  refine dT rfl ?_
  exact ret Tryz.results85 rfl ⟨_, rfl, rfl, bl_tr hB2 hB4 hB2.size⟩
 refine enter Tryz.func49 rfl Tryz.ntmps49 (Nat.le_of_ble_eq_true rfl) ?_
 refine dT rfl ?_
 refine call (f := 85) rfl rfl cb85 hboth ?_
 rintro v w1 ⟨rfl, hB⟩
 refine ⟨_, rfl, ?_⟩
 refine dT rfl ?_
 exact ret Tryz.results49 rfl ⟨_, rfl, rfl, hB⟩

theorem must_calls (p : Rat) (hp : Small 4000 p) (w : World) :
  Calls Tryz.prog 54 #[.string ⟨⟨qtext p⟩⟩] w (Ret fun v w' => FQ w' v p ∧ Below w.heap.size w w') := by
 have hql := qtext_len hp
 obtain ⟨hq0, hqv⟩ := q_text_ok p hp
 refine enter Tryz.func54 rfl Tryz.ntmps54 (Nat.le_of_ble_eq_true rfl) ?_
 refine dT rfl ?_
 refine al U rfl rfl rfl rfl ?_
 intro b2 w0 hb2 hs0 hk2 hg0
 have hB0 : Below w.heap.size w w0 := (Below.refl _ _).grown hg0 (Nat.le_refl _) (fun k e => by cases e)
 refine dT rfl ?_
 refine call (f := 96) rfl rfl cb96 (frparse_calls (qtext p) (by omega) w0) ?_
 rintro v w1 ⟨hr, hB1⟩
 obtain ⟨m, a1, n1, c1, a2, n2, c2, e, rfl, hqe, hfq⟩ := hr.cases
 obtain rfl := hqe.uniq hq0
 have hf := hfq rfl
 rw [hqv] at hf
 have hk2 := hk2.below hB1 hk2.lt
 have hB1' := bl_tr hB0 hB1 hB0.size
 refine ⟨_, rfl, ?_⟩
 refine dT rfl ?_
 refine al U rfl rfl rfl rfl ?_
 intro b3 w2 hb3 hs2 hk3 hg2
 have hlt2 := hk2.lt
 have hk2 := hk2.keep hg2 (by simp)
 refine dT rfl ?_
 refine st U rfl rfl rfl rfl rfl rfl rfl rfl rfl rfl (hk3) ?_
 intro w3 hk3 hg3 hs3
 have hk2 := hk2.keep hg3 (by intro e; cases e; omega)
 have hB3 : Below w1.heap.size w1 w3 := ((Below.refl _ _).grown hg2 (Nat.le_refl _) (fun k e => by cases e)).grown hg3 (by omega) (fun k e => by cases e; omega)
 have hf := hf.stay hB3
 have hB3' := bl_tr hB1' hB3 hB1'.size
 refine dT rfl ?_
 refine lg rfl ag_frac rfl rfl hk3 rfl ?_
 refine st U rfl rfl rfl rfl rfl rfl rfl rfl rfl rfl (hk2) ?_
 intro w4 hk4 hg4 hs4
 refine dT rfl ?_
 exact retS Tryz.results54 (vs := [_]) ⟨⟨_, rfl, run_load_agg ag_frac hk4 rfl⟩, trivial⟩ ⟨_, rfl, hf.push hg4 (fun g e => by cases e; exact hk2.tg), hB3'.grown hg4 hB3'.size (fun k e => by cases e; omega)⟩
end
end Go.Proofs.YtejlpdbiacmfcaaGreatDoor
