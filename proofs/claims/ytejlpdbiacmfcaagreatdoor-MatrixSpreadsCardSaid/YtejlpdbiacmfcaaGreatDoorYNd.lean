/-
  Walk of package matrix's Strategy.
  Conditions: none but that the arguments are ints.

  Walk of the law package's lives: the chapter's examples come out as it says.
  Conditions: the library's table of powers of ten is laid.

  Walks of the reference: FromInt, ToInt, Bits.
  Conditions: texts are no longer than an int can tell.

  Walks of package nat: FromInt, ToInt, Bits.
  Conditions: texts take fewer than 2^40 bytes; the library's table of powers of ten is laid, and its error of range.

  The law package's lists of lists of texts: literals; own, light, same; the kit's Own.
  Conditions: what is copied fits into memory.

  Texts of numbers and back; written-out matrices.
  No conditions: each theorem names its own premises.
-/
import Derived.Test.YtejlpdbiacmfcaaGreatDoorYR3
import Derived.Test.YtejlpdbiacmfcaaGreatDoorYR5
import Derived.Test.YtejlpdbiacmfcaaGreatDoorYVz
import Derived.Test.YtejlpdbiacmfcaaGreatDoorYNb
import Derived.WalkSmall
import Derived.WideLaws
section
set_option linter.unusedSimpArgs false
set_option linter.unusedVariables false
set_option maxHeartbeats 4000000
namespace Go.Proofs.YtejlpdbiacmfcaaGreatDoor
open Go Go.Proofs Go.RowKit Go.Lib

theorem strat_out {kind n : Int} (h : n < 1 ∨ 64 < n) : strat kind n = [] := by unfold strat; rw [if_pos h]
theorem strat_id {m : Nat} (h : 1 ≤ m ∧ m ≤ 64) : strat 0 m = rowsTo (fun i => blkRow m i (i + 1)) m := by unfold strat; rw [if_neg (by omega), if_pos rfl, Int.toNat_natCast]; rfl
theorem strat_pr {m : Nat} (h : 1 ≤ m ∧ m ≤ 64) : strat 1 m = rowsTo (fun i => blkRow m 0 (i + 1)) m := by unfold strat; rw [if_neg (by omega), if_neg (by omega), if_pos rfl, Int.toNat_natCast]; rfl
theorem strat_tr {m : Nat} (h : 1 ≤ m ∧ m ≤ 64) : strat 2 m = tree m := by unfold strat; rw [if_neg (by omega), if_neg (by omega), if_neg (by omega), if_pos rfl, Int.toNat_natCast]
theorem strat_no {kind n : Int} (h0 : kind ≠ 0) (h1 : kind ≠ 1) (h2 : kind ≠ 2) : strat kind n = [] := by unfold strat; split <;> simp_all
theorem treeTo_row {n : Nat} {l : List (Nat × Nat)} {r : List Int} (h : r ∈ treeTo n l) : r.length = n := by
  unfold treeTo at h
  rw [fold_mem] at h
  rcases h with h | h
  · simp at h
  · obtain ⟨b, _, rfl⟩ := List.mem_map.1 h
    exact blkRow_length _ _ _
theorem take_at {l : List (Nat × Nat)} {q : Nat} {b : Nat × Nat} (h : l[q]? = some b) : l.take (q + 1) = l.take q ++ [b] := by
  obtain ⟨h1, rfl⟩ := List.getElem?_eq_some_iff.1 h
  exact List.take_succ_eq_append_getElem h1

theorem mstrat_calls (kind n : Int) (w : World) :
    Calls Tryz.prog 11 #[.int .i64 kind, .int .i64 n] w (Ret fun v w' => StratR (strat kind n) w.heap.size v w' ∧ Below w.heap.size w w') := by
  refine enterM Tryz.func11 rfl Tryz.ntmps11 (Nat.le_of_ble_eq_true rfl) ?_
  refine dr U 600 rfl trivial ?_
  refine bx rfl rfl rfl rfl ?_
  intro b3 w3 hb3 hs3 hk3 hg3
  have hB3 : Below w.heap.size w w3 := (Below.refl _ _).grown hg3 (Nat.le_refl _) (fun k e => by cases e)
  refine dr U 600 rfl trivial ?_
  refine ld U rfl rfl rfl rfl ((hk3).cell rfl) ?_
  refine cS rfl rfl rfl rfl (fun hq1 => ?_) (fun hq1 => ?_)
  · refine dr U 600 rfl trivial ?_
    refine retM0 U Tryz.results11 (vs := [_]) ⟨rfl, trivial⟩ ⟨_, rfl, ?_, hB3⟩
    rw [strat_out (.inl hq1)]; exact StratR.nil _ _
  refine dr U 600 rfl trivial ?_
  refine ld U rfl rfl rfl rfl ((hk3).cell rfl) ?_
  refine cS rfl rfl rfl rfl (fun hq2 => ?_) (fun hq2 => ?_)
  · refine dr U 600 rfl trivial ?_
    refine retM0 U Tryz.results11 (vs := [_]) ⟨rfl, trivial⟩ ⟨_, rfl, ?_, hB3⟩
    rw [strat_out (.inr hq2)]; exact StratR.nil _ _
  obtain ⟨m, rfl⟩ : ∃ m : Nat, n = (m : Int) := ⟨n.toNat, by omega⟩
  have h1 : 1 ≤ m := by omega
  have h64 : m ≤ 64 := by omega
  refine dr U 600 rfl trivial ?_
  refine al U rfl rfl rfl rfl ?_
  intro b5 w5 hb5 hs5 hk5 hg5
  have hB5 := hB3.grown hg5 hB3.size (fun k e => by cases e)
  have hk3 := hk3.keep hg5 (by simp)
  refine dr U 600 rfl trivial ?_
  refine cS rfl rfl rfl rfl (fun hq3 => ?_) (fun hq3 => ?_)
  · subst hq3
    refine dr U 600 rfl trivial ?_
    refine ld U rfl rfl rfl rfl ((hk3).cell rfl) ?_
    refine dr U 600 rfl trivial ?_
    refine loopR (fun fr w' mm => ∃ (i : Nat) (a2 : Option Addr) (c2 : Nat), fr = [(3, .pointer (some ⟨b3, 0, none⟩)), (5, .pointer (some ⟨b5, 0, none⟩)), (20, .int .i64 (m : Nat)), (21, .int .i64 (i : Nat))] ∧ i ≤ m ∧ Bk w' b3 3 [.int .i64 (m : Nat)] ∧ Bk w' b5 27 [.slice a2 i c2] ∧
        OwnZ w' w.heap.size a2 c2 (rowsTo (fun i => blkRow m i (i + 1)) i) ∧ Below w.heap.size w w' ∧ mm = m - i)
      ⟨0, none, 0, rfl, by omega, hk3, hk5, OwnZ.nil _ _, hB5, rfl⟩ ⟨rfl, rfl, rfl, rfl, trivial⟩ ?_
    rintro fr w1 mm ⟨i, a2, c2, rfl, hi, hk3, hk5, hO, hB, rfl⟩
    refine dr U 600 rfl trivial ?_
    refine cS rfl rfl rfl rfl (fun hq => ?_) (fun hq => ?_)
    · have him : i < m := by omega
      obtain ⟨A, C, ho, h2⟩ := hO
      rw [rowsTo_len] at ho h2
      refine dr U 600 rfl trivial ?_
      refine dwn 8 (fun W => Bk W b3 3 [.int .i64 (m : Nat)] ∧ Bk W b5 27 [.slice a2 i c2]) hmo ?_
      intro w5 hh5 hg5
      have hB5 := hB.grown hg5 hB.size (fun k e => by cases e)
      have hB15 : Below w1.heap.size w1 w5 := (Below.refl _ _).grown hg5 (Nat.le_refl _) (fun k e => by cases e)
      have hk35 := heap_bk hh5 hk3
      have hk55 := heap_bk hh5 hk5
      have hl3 : ∀ W, (Bk W b3 3 [.int .i64 (m : Nat)] ∧ Bk W b5 27 [.slice a2 i c2]) → (loadVar 3 ⟨b3, 0, none⟩).run Tryz.prog W = .ok (.int .i64 (m : Nat)) W := fun W h => run_load_cell U rfl (h.1.cell rfl)
      have hl5 : ∀ W, (Bk W b3 3 [.int .i64 (m : Nat)] ∧ Bk W b5 27 [.slice a2 i c2]) → (loadVar 27 ⟨b5, 0, none⟩).run Tryz.prog W = .ok (.slice a2 i c2) W := fun W h => run_load_cell U rfl (h.2.cell rfl)
      refine dq U [0,1,2,3,4] [(0, .slice a2 i c2), (1, .int .i64 (m : Nat))] (by kernel_rfl) rfl rfl ⟨hk35, hk55⟩ (by simp only [AllP, InR, List.nil_append, List.cons_append]; (repeat' apply And.intro); all_goals first | exact True.intro | omega | (with_reducible exact hl3) | (with_reducible exact hl5)) ?_
      refine d1 rfl rfl (fun _ => ⟨hk35, hk55⟩) ?_
      refine call (f := 40) rfl rfl cb40 (mrow_calls m i (i + 1) (by omega) (by omega) (by omega) w5) ?_
      rintro v w6 ⟨⟨a3, c3, rfl, hr3⟩, hB56⟩
      have hB6 := bl_tr hB5 hB56 hB5.size
      have hB16 := bl_tr hB15 hB56 hB15.size
      have hk36 := hk35.below hB56 hk35.lt
      have hk56 := hk55.below hB56 hk55.lt
      refine ⟨_, rfl, d2 ?_⟩
      refine d1 rfl rfl (fun _ => ⟨hk36, hk56⟩) ?_
      refine bs1 U (v := .slice a3 m c3) rfl rfl rfl rfl rfl rfl rfl ?_
      intro w7 hk7 hs7 hg7
      have hB67 : Below w6.heap.size w6 w7 := (Below.refl _ _).grown hg7 (Nat.le_refl _) (fun k e => by cases e)
      have hB7 := bl_tr hB6 hB67 hB6.size
      have hB17 := bl_tr hB16 hB67 hB16.size
      have hk37 := hk36.below hB67 hk36.lt
      have hk57 := hk56.below hB67 hk56.lt
      have ho7 := own_bw ho hB17
      have hr7 := own_bw hr3 hB67
      refine d2 ?_
      refine d1 rfl rfl (fun _ => ⟨hk37, hk57⟩) ?_
      refine aw U rfl rfl rfl rfl rfl rfl rfl rfl rfl ho7 (hk7.sl 0) rfl (by intro u hu; simp at hu; subst hu; rfl) hB7.size (by omega) rfl ?_
      intro a9 c9 w9 ho9 hg9
      have hB9 := hB7.grown hg9 hB7.size (fun g e => (own_block ho7 g e).1)
      have hk39 := hk37.keep hg9 (fun e => (own_tag ho7 b3 e).ne hk37.tg rfl rfl)
      have hk59 := hk57.keep hg9 (fun e => (own_tag ho7 b5 e).ne hk57.tg rfl rfl)
      have hO9 := OwnZ.snoc (xss := rowsTo (fun i => blkRow m i (i + 1)) i) (xs := (fun i => blkRow m i (i + 1)) i) (a := a2) (c := c2) (d := c3) (w := w7) (w' := w9) (by rw [rowsTo_len]; exact ho7) (fun j hj => ⟨(h2 j (by rw [rowsTo_len] at hj; exact hj)).1.below hB17 (fun g hg => ((h2 j (by rw [rowsTo_len] at hj; exact hj)).2 g hg).lt), fun g hg => ((h2 j (by rw [rowsTo_len] at hj; exact hj)).2 g hg).below hB17⟩) (own_sl hr7) (own_tag hr7) hg9 (by rw [rowsTo_len, blkRow_length]; exact ho9)
      rw [rowsTo_snoc] at hO9
      refine d2 ?_
      refine d1 rfl rfl (fun _ => ⟨hk39, hk59⟩) ?_
      refine st U rfl rfl rfl rfl rfl rfl rfl rfl rfl rfl (hk59) ?_
      intro w10 hk10 hg10 hs10
      have hB10 := hB9.grown hg10 hB9.size (fun k e => by cases e; omega)
      have hne : b5 ≠ b3 := fun e => hk59.tg.ne hk39.tg rfl e
      have hk310 := hk39.keep hg10 (fun e => hne (Option.some.inj e))
      have hO10 : OwnZ w10 w.heap.size a9 c9 (rowsTo (fun i => blkRow m i (i + 1)) (i + 1)) := by
        obtain ⟨A9, C9, h3, h4⟩ := hO9
        have hn5 : ∀ (b : Option Addr) (t : Nat), (∀ g, ab b = some g → Tg w9 t g) → Nat.beq t 27 = false → ∀ g, ab b = some g → some b5 ≠ some g := fun b t h ht g hg e => (h g hg).ne hk59.tg ht (Option.some.inj e).symm
        exact ⟨A9, C9, own_keep h3 hg10 (fun g hg e => hn5 _ _ (own_tag h3) rfl g hg e), fun j hj => ⟨(h4 j hj).1.keep hg10 (hn5 _ _ (h4 j hj).2 rfl), fun g hg => ((h4 j hj).2 g hg).grown hg10 (hn5 _ _ (h4 j hj).2 rfl g hg)⟩⟩
      refine d3 ?_; refine dend rfl (fun h => by cases h) ?_
      refine dr U 600 rfl (by first | exact True.intro | (simp only [AllP, InR, List.nil_append, List.cons_append, and_true]; omega)) ?_
      exact rend _ _ ⟨i + 1, a9, c9, rfl, by omega, hk310, hk10, hO10, hB10, rfl⟩ (by omega) ⟨rfl, rfl, rfl, iv (by omega), trivial⟩
    · obtain rfl : i = m := by omega
      refine dr U 600 rfl trivial ?_
      refine ld U rfl rfl rfl rfl ((hk5).cell rfl) ?_
      refine dr U 600 rfl trivial ?_
      refine retM0 U Tryz.results11 (vs := [_]) ⟨rfl, trivial⟩ ⟨_, rfl, ?_, hB⟩
      rw [strat_id ⟨h1, h64⟩]
      exact ⟨a2, c2, by rw [rowsTo_len]; rfl, hO, fun e => by have := congrArg List.length e; rw [rowsTo_len] at this; simp at this; omega⟩
  refine dr U 600 rfl trivial ?_
  refine cS rfl rfl rfl rfl (fun hq4 => ?_) (fun hq4 => ?_)
  · subst hq4
    refine dr U 600 rfl trivial ?_
    refine ld U rfl rfl rfl rfl ((hk3).cell rfl) ?_
    refine dr U 600 rfl trivial ?_
    refine loopR (fun fr w' mm => ∃ (i : Nat) (a2 : Option Addr) (c2 : Nat), fr = [(3, .pointer (some ⟨b3, 0, none⟩)), (5, .pointer (some ⟨b5, 0, none⟩)), (35, .int .i64 (m : Nat)), (36, .int .i64 (i : Nat))] ∧ i ≤ m ∧ Bk w' b3 3 [.int .i64 (m : Nat)] ∧ Bk w' b5 27 [.slice a2 i c2] ∧
        OwnZ w' w.heap.size a2 c2 (rowsTo (fun i => blkRow m 0 (i + 1)) i) ∧ Below w.heap.size w w' ∧ mm = m - i)
      ⟨0, none, 0, rfl, by omega, hk3, hk5, OwnZ.nil _ _, hB5, rfl⟩ ⟨rfl, rfl, rfl, rfl, trivial⟩ ?_
    rintro fr w1 mm ⟨i, a2, c2, rfl, hi, hk3, hk5, hO, hB, rfl⟩
    refine dr U 600 rfl trivial ?_
    refine cS rfl rfl rfl rfl (fun hq => ?_) (fun hq => ?_)
    · have him : i < m := by omega
      obtain ⟨A, C, ho, h2⟩ := hO
      rw [rowsTo_len] at ho h2
      refine dr U 600 rfl trivial ?_
      refine dwn 7 (fun W => Bk W b3 3 [.int .i64 (m : Nat)] ∧ Bk W b5 27 [.slice a2 i c2]) hmo ?_
      intro w5 hh5 hg5
      have hB5 := hB.grown hg5 hB.size (fun k e => by cases e)
      have hB15 : Below w1.heap.size w1 w5 := (Below.refl _ _).grown hg5 (Nat.le_refl _) (fun k e => by cases e)
      have hk35 := heap_bk hh5 hk3
      have hk55 := heap_bk hh5 hk5
      have hl3 : ∀ W, (Bk W b3 3 [.int .i64 (m : Nat)] ∧ Bk W b5 27 [.slice a2 i c2]) → (loadVar 3 ⟨b3, 0, none⟩).run Tryz.prog W = .ok (.int .i64 (m : Nat)) W := fun W h => run_load_cell U rfl (h.1.cell rfl)
      have hl5 : ∀ W, (Bk W b3 3 [.int .i64 (m : Nat)] ∧ Bk W b5 27 [.slice a2 i c2]) → (loadVar 27 ⟨b5, 0, none⟩).run Tryz.prog W = .ok (.slice a2 i c2) W := fun W h => run_load_cell U rfl (h.2.cell rfl)
      refine dq U [0,1,2,3] [(0, .slice a2 i c2), (1, .int .i64 (m : Nat))] (by kernel_rfl) rfl rfl ⟨hk35, hk55⟩ (by simp only [AllP, InR, List.nil_append, List.cons_append]; (repeat' apply And.intro); all_goals first | exact True.intro | omega | (with_reducible exact hl3) | (with_reducible exact hl5)) ?_
      refine d1 rfl rfl (fun _ => ⟨hk35, hk55⟩) ?_
      refine call (f := 40) rfl rfl cb40 (mrow_calls m 0 (i + 1) (by omega) (by omega) (by omega) w5) ?_
      rintro v w6 ⟨⟨a3, c3, rfl, hr3⟩, hB56⟩
      have hB6 := bl_tr hB5 hB56 hB5.size
      have hB16 := bl_tr hB15 hB56 hB15.size
      have hk36 := hk35.below hB56 hk35.lt
      have hk56 := hk55.below hB56 hk55.lt
      refine ⟨_, rfl, d2 ?_⟩
      refine d1 rfl rfl (fun _ => ⟨hk36, hk56⟩) ?_
      refine bs1 U (v := .slice a3 m c3) rfl rfl rfl rfl rfl rfl rfl ?_
      intro w7 hk7 hs7 hg7
      have hB67 : Below w6.heap.size w6 w7 := (Below.refl _ _).grown hg7 (Nat.le_refl _) (fun k e => by cases e)
      have hB7 := bl_tr hB6 hB67 hB6.size
      have hB17 := bl_tr hB16 hB67 hB16.size
      have hk37 := hk36.below hB67 hk36.lt
      have hk57 := hk56.below hB67 hk56.lt
      have ho7 := own_bw ho hB17
      have hr7 := own_bw hr3 hB67
      refine d2 ?_
      refine d1 rfl rfl (fun _ => ⟨hk37, hk57⟩) ?_
      refine aw U rfl rfl rfl rfl rfl rfl rfl rfl rfl ho7 (hk7.sl 0) rfl (by intro u hu; simp at hu; subst hu; rfl) hB7.size (by omega) rfl ?_
      intro a9 c9 w9 ho9 hg9
      have hB9 := hB7.grown hg9 hB7.size (fun g e => (own_block ho7 g e).1)
      have hk39 := hk37.keep hg9 (fun e => (own_tag ho7 b3 e).ne hk37.tg rfl rfl)
      have hk59 := hk57.keep hg9 (fun e => (own_tag ho7 b5 e).ne hk57.tg rfl rfl)
      have hO9 := OwnZ.snoc (xss := rowsTo (fun i => blkRow m 0 (i + 1)) i) (xs := (fun i => blkRow m 0 (i + 1)) i) (a := a2) (c := c2) (d := c3) (w := w7) (w' := w9) (by rw [rowsTo_len]; exact ho7) (fun j hj => ⟨(h2 j (by rw [rowsTo_len] at hj; exact hj)).1.below hB17 (fun g hg => ((h2 j (by rw [rowsTo_len] at hj; exact hj)).2 g hg).lt), fun g hg => ((h2 j (by rw [rowsTo_len] at hj; exact hj)).2 g hg).below hB17⟩) (own_sl hr7) (own_tag hr7) hg9 (by rw [rowsTo_len, blkRow_length]; exact ho9)
      rw [rowsTo_snoc] at hO9
      refine d2 ?_
      refine d1 rfl rfl (fun _ => ⟨hk39, hk59⟩) ?_
      refine st U rfl rfl rfl rfl rfl rfl rfl rfl rfl rfl (hk59) ?_
      intro w10 hk10 hg10 hs10
      have hB10 := hB9.grown hg10 hB9.size (fun k e => by cases e; omega)
      have hne : b5 ≠ b3 := fun e => hk59.tg.ne hk39.tg rfl e
      have hk310 := hk39.keep hg10 (fun e => hne (Option.some.inj e))
      have hO10 : OwnZ w10 w.heap.size a9 c9 (rowsTo (fun i => blkRow m 0 (i + 1)) (i + 1)) := by
        obtain ⟨A9, C9, h3, h4⟩ := hO9
        have hn5 : ∀ (b : Option Addr) (t : Nat), (∀ g, ab b = some g → Tg w9 t g) → Nat.beq t 27 = false → ∀ g, ab b = some g → some b5 ≠ some g := fun b t h ht g hg e => (h g hg).ne hk59.tg ht (Option.some.inj e).symm
        exact ⟨A9, C9, own_keep h3 hg10 (fun g hg e => hn5 _ _ (own_tag h3) rfl g hg e), fun j hj => ⟨(h4 j hj).1.keep hg10 (hn5 _ _ (h4 j hj).2 rfl), fun g hg => ((h4 j hj).2 g hg).grown hg10 (hn5 _ _ (h4 j hj).2 rfl g hg)⟩⟩
      refine d3 ?_; refine dend rfl (fun h => by cases h) ?_
      refine dr U 600 rfl (by first | exact True.intro | (simp only [AllP, InR, List.nil_append, List.cons_append, and_true]; omega)) ?_
      exact rend _ _ ⟨i + 1, a9, c9, rfl, by omega, hk310, hk10, hO10, hB10, rfl⟩ (by omega) ⟨rfl, rfl, rfl, iv (by omega), trivial⟩
    · obtain rfl : i = m := by omega
      refine dr U 600 rfl trivial ?_
      refine ld U rfl rfl rfl rfl ((hk5).cell rfl) ?_
      refine dr U 600 rfl trivial ?_
      refine retM0 U Tryz.results11 (vs := [_]) ⟨rfl, trivial⟩ ⟨_, rfl, ?_, hB⟩
      rw [strat_pr ⟨h1, h64⟩]
      exact ⟨a2, c2, by rw [rowsTo_len]; rfl, hO, fun e => by have := congrArg List.length e; rw [rowsTo_len] at this; simp at this; omega⟩
  refine dr U 600 rfl trivial ?_
  refine cS rfl rfl rfl rfl (fun hq5 => ?_) (fun hq5 => ?_)
  · subst hq5
    refine dr U 600 rfl trivial ?_
    refine ld U rfl rfl rfl rfl ((hk3).cell rfl) ?_
    refine call (f := 41) rfl rfl cb41 (blocks_calls m w5) ?_
    rintro v w6 ⟨rfl, hs6, hk6, hg6⟩
    refine ⟨_, rfl, ?_⟩
    have hB6 := hB5.grown hg6 hB5.size (fun k e => by cases e)
    have hk36 := hk3.keep hg6 (by simp)
    have hk56 := hk5.keep hg6 (by simp)
    refine dr U 600 rfl trivial ?_
    refine rng rfl cb78 rfl (blocks_seq m w5.heap.size (by omega) h64 (fun W => Bk W w5.heap.size 3 [.int .i64 (m : Nat)]) (fun W h => h)) (fun q vs h => by obtain ⟨b, _, rfl⟩ := h; rfl)
      (fun q W => ∃ a2, ∃ c2, Bk W b3 3 [.int .i64 (m : Nat)] ∧ Bk W b5 27 [.slice a2 (treeTo m ((blks m).take q)).length c2] ∧ OwnZ W w.heap.size a2 c2 (treeTo m ((blks m).take q)) ∧ Below w.heap.size w W)
      (fun _ _ => False)
      (fun q => OwnB.ex fun a2 => OwnB.ex fun c2 => (OwnB.bk _ _ _ _).and ((OwnB.bk _ _ _ _).and ((OwnZ.ownB _ _ _ _ _).and (OwnB.below _ (by omega) (Nat.le_refl _)))))
      (fun _ => OwnB.pure _ _) (OwnB.bk _ _ _ _) ⟨none, 0, hk36, hk56, OwnZ.nil _ _, hB6⟩ hk6
      (fun vs => [(8, vs.headD undef), (9, vs.getD 1 undef), (3, .pointer (some ⟨b3, 0, none⟩)), (5, .pointer (some ⟨b5, 0, none⟩))]) ?_ ?_ ?_ ?_
    · rintro L q vs W ⟨b, _, rfl⟩
      refine dr U 600 rfl trivial ?_
      exact asg ⟨rfl, rfl, rfl, rfl, trivial⟩
    · rintro L q vs W hq ⟨b, hb, rfl⟩ ⟨a2, c2, hk3, hk5, hO, hB⟩ hk6 hsz
      obtain ⟨hb1, hb2⟩ := blks_mem (List.mem_of_getElem? hb)
      have hbl := blks_len (n := m) (by omega) h64
      have htl := treeTo_len m ((blks m).take q)
      rw [List.length_take] at htl
      have htk := take_at hb
      have hrow := fun r (h : r ∈ treeTo m ((blks m).take q)) => treeTo_row h
      have hnext : treeTo m ((blks m).take (q + 1)) = addRow (treeTo m ((blks m).take q)) (blkRow m b.1 b.2) := by rw [htk, treeTo_snoc]; rfl
      rw [hnext]
      generalize treeTo m ((blks m).take q) = out at *
      refine dr U 600 rfl trivial ?_
      refine ld U rfl rfl rfl rfl ((hk3).cell rfl) ?_
      refine dr U 600 rfl trivial ?_
      refine call (f := 40) rfl rfl cb40 (mrow_calls m b.1 b.2 (by omega) (by omega) (by omega) W) ?_
      rintro v W1 ⟨⟨a3, c3, rfl, hr3⟩, hB1⟩
      have hO1 := hO.stay hB1
      have hk31 := hk3.below hB1 hk3.lt
      have hk51 := hk5.below hB1 hk5.lt
      have hk61 := hk6.below hB1 hk6.lt
      have hBw1 := bl_tr hB hB1 hB.size
      have ko1 := ko_below (KeepsOthers.refl W) hB1
      refine ⟨_, rfl, ?_⟩
      refine dr U 600 rfl trivial ?_
      refine ld U rfl rfl rfl rfl ((hk51).cell rfl) ?_
      refine dr U 600 rfl trivial ?_
      have hcon := contains_calls out (blkRow m b.1 b.2) (by omega) (fun i hi => by rw [hrow _ (irow_mem hi)]; omega) (by rw [blkRow_length]; omega) a2 a3 c2 c3 W1 hO1.sz (own_sl hr3)
      rw [blkRow_length] at hcon
      refine call (f := 42) rfl rfl cb42 hcon ?_
      rintro v W2 ⟨rfl, hB2⟩
      have hO2 := hO1.stay hB2
      have hk32 := hk31.below hB2 hk31.lt
      have hk52 := hk51.below hB2 hk51.lt
      have hk62 := hk61.below hB2 hk61.lt
      have hr2 := own_bw hr3 hB2
      have hBw2 := bl_tr hBw1 hB2 hBw1.size
      have ko2 := ko_below ko1 hB2
      refine ⟨_, rfl, ?_⟩
      by_cases hin : blkRow m b.1 b.2 ∈ out
      · rw [decide_eq_true hin]
        refine dr U 600 rfl trivial ?_
        rw [addRow, if_pos hin]
        exact rnd ⟨ko2, ⟨a2, c2, hk32, hk52, hO2, hBw2⟩, hk62⟩
      · rw [decide_eq_false hin]
        rw [addRow, if_neg hin]
        obtain ⟨A, C, ho, h2⟩ := hO2
        refine dr U 600 rfl trivial ?_
        refine ld U rfl rfl rfl rfl ((hk52).cell rfl) ?_
        refine dr U 600 rfl trivial ?_
        refine ap U (v := (.slice a3 m c3)) rfl rfl rfl rfl rfl rfl (fun _ => rfl) rfl (fun _ => rfl) rfl rfl rfl ho hBw2.size (by omega) (by decide) ?_
        intro a9 c9 w9 ho9 hg9
        have hB9 := hBw2.grown hg9 hBw2.size (fun g e => (own_block ho g e).1)
        have hk39 := hk32.keep hg9 (fun e => (own_tag ho b3 e).ne hk32.tg rfl rfl)
        have hk59 := hk52.keep hg9 (fun e => (own_tag ho b5 e).ne hk52.tg rfl rfl)
        have hk69 := hk62.keep hg9 (fun e => (own_tag ho _ e).ne hk62.tg rfl rfl)
        have ko9 := ko_grown ko2 hg9 (own_cells ho)
        have hO9 := OwnZ.snoc (xss := out) (xs := blkRow m b.1 b.2) (a := a2) (c := c2) (d := c3) (w := W2) (w' := w9) ho h2 (own_sl hr2) (own_tag hr2) hg9 (by rw [blkRow_length]; exact ho9)
        refine st U rfl rfl rfl rfl rfl rfl rfl rfl rfl rfl (hk59) ?_
        intro w10 hk10 hg10 hs10
        have hB10 := hB9.grown hg10 hB9.size (fun k e => by cases e; omega)
        have hne : b5 ≠ b3 := fun e => hk59.tg.ne hk39.tg rfl e
        have hne6 : b5 ≠ w5.heap.size := fun e => hk59.tg.ne hk69.tg rfl e
        have hk310 := hk39.keep hg10 (fun e => hne (Option.some.inj e))
        have hk610 := hk69.keep hg10 (fun e => hne6 (Option.some.inj e))
        have ko10 := ko_grown ko9 hg10 (fun k e => by cases e; exact ⟨_, _, _, hk59⟩)
        have hO10 : OwnZ w10 w.heap.size a9 c9 (out ++ [blkRow m b.1 b.2]) := by
          obtain ⟨A9, C9, h3, h4⟩ := hO9
          have hn5 : ∀ (b : Option Addr) (t : Nat), (∀ g, ab b = some g → Tg w9 t g) → Nat.beq t 27 = false → ∀ g, ab b = some g → some b5 ≠ some g := fun b t h ht g hg e => (h g hg).ne hk59.tg ht (Option.some.inj e).symm
          exact ⟨A9, C9, own_keep h3 hg10 (fun g hg e => hn5 _ _ (own_tag h3) rfl g hg e), fun j hj => ⟨(h4 j hj).1.keep hg10 (hn5 _ _ (h4 j hj).2 rfl), fun g hg => ((h4 j hj).2 g hg).grown hg10 (hn5 _ _ (h4 j hj).2 rfl g hg)⟩⟩
        refine dr U 600 rfl trivial ?_
        exact rnd ⟨ko10, ⟨a9, c9, hk310, by rw [List.length_append, List.length_singleton]; exact hk10, hO10, hB10⟩, hk610⟩
    · rintro D W hD ⟨a2, c2, hk3, hk5, hO, hB⟩ hK
      rw [List.take_length] at hk5 hO
      have hgp := grownBy_putObj' W D (.deferred none)
      have hOp := OwnZ.ownB 0 _ _ _ _ W _ (some D) hO hgp (fun r e => by cases e; exact ⟨by omega, _, hK, rfl⟩)
      refine dr U 600 rfl trivial ?_
      refine ld U rfl rfl rfl rfl ((hk5).cell rfl) ?_
      refine dr U 600 rfl trivial ?_
      refine retM1 U Tryz.results11 (vs := [_]) hK ⟨rfl, trivial⟩ ⟨_, rfl, ?_, hB.grown hgp hB.size (fun k e => by cases e; have := hB6.size; have := hB3.size; omega)⟩
      rw [strat_tr ⟨h1, h64⟩, tree_to]
      exact ⟨a2, c2, rfl, hOp, fun e => by
        have h := strat_empty (kind := 2) (n := m) (by omega) h64 (by omega)
        rw [strat_tr ⟨h1, h64⟩, tree_to] at h
        exact absurd e h⟩
    · rintro D cd W hD h hK
      exact h.elim
  · refine dr U 600 rfl trivial ?_
    refine ld U rfl rfl rfl rfl ((hk5).cell rfl) ?_
    refine dr U 600 rfl trivial ?_
    refine retM0 U Tryz.results11 (vs := [_]) ⟨rfl, trivial⟩ ⟨_, rfl, ?_, hB5⟩
    rw [strat_no hq3 hq4 hq5]; exact StratR.nil _ _
end Go.Proofs.YtejlpdbiacmfcaaGreatDoor
end
section
set_option linter.unusedSimpArgs false
set_option linter.unusedVariables false
set_option maxHeartbeats 1000000
set_option maxRecDepth 10000
namespace Go.Proofs.YtejlpdbiacmfcaaGreatDoor
open Go Go.Proofs Go.RowKit Go.Lib

end Go.Proofs.YtejlpdbiacmfcaaGreatDoor
end
section
set_option linter.unusedSimpArgs false
set_option linter.unusedVariables false
set_option maxHeartbeats 1000000
namespace Go.Proofs.YtejlpdbiacmfcaaGreatDoor
open Go Go.Proofs Go.RowKit Go.Lib

theorem dec_small {u : Nat} (h : u < 10) : decDigits u = [UInt8.ofNat (48 + u)] := by rw [decDigits, dif_pos h]

/-- What FromInt returns. -/
def OutF (n : Int) (v : Value) : Prop := (n < 0 ∧ v = .tuple ⟨[.string ⟨⟨[]⟩⟩, .int .i64 2]⟩) ∨ (0 ≤ n ∧ v = .tuple ⟨[.string ⟨⟨decDigits n.toNat⟩⟩, .int .i64 0]⟩)
theorem refFromInt_calls (n : Int) (hn : n ≤ 9223372036854775807) (w : World) :
    Calls Tryz.prog 60 #[.int .i64 n] w (Ret fun v w' => OutF n v ∧ w = w') := by
  refine enter Tryz.func60 rfl Tryz.ntmps60 (Nat.le_of_ble_eq_true rfl) ?_
  refine dr U 600 rfl trivial ?_
  refine cS rfl rfl rfl rfl (fun hq => ?_) (fun hq => ?_)
  · refine dr U 600 rfl trivial ?_
    exact ret Tryz.results60 rfl ⟨_, rfl, .inl ⟨hq, rfl⟩, rfl⟩
  · obtain ⟨k, rfl⟩ : ∃ k : Nat, n = k := ⟨n.toNat, by omega⟩
    have hk19 := nD_le 19 k (by omega) (by omega)
    have hkl := decDigits_length k
    refine dr U 600 rfl trivial ?_
    refine loopR (fun l w' m => ∃ s : List UInt8, l = [(0, .int .i64 (m : Nat)), (4, .string ⟨⟨s⟩⟩)] ∧ decDigits k = decDigits m ++ s ∧ m ≤ k ∧ w = w') (m0 := k) ⟨[], rfl, by simp, Nat.le_refl _, rfl⟩ ⟨rfl, rfl, trivial⟩ ?_
    rintro l w1 m ⟨s, rfl, hs, hm, rfl⟩
    have hsl := congrArg List.length hs
    rw [List.length_append] at hsl
    refine dr U 600 rfl trivial ?_
    refine cS rfl rfl rfl rfl (fun hq => ?_) (fun hq => ?_)
    · have hbig := dec_big (u := m) (by omega)
      have hd := ofNat_d (k := m % 10) (by omega)
      have h1 : [UInt8.ofNat (48 + m % 10)].length = 1 := rfl
      refine dr U 600 rfl (by first | exact True.intro | (simp only [AllP, InR, List.nil_append, List.cons_append, and_true]; omega)) ?_
      refine rstr U (UInt8.ofNat (48 + m % 10)) rfl (by rw [hd]; omega) (by rw [hd]; omega) rfl rfl rfl rfl ?_
      refine dr U 600 rfl (by first | exact True.intro | (simp only [AllP, InR, List.nil_append, List.cons_append, and_true]; omega)) ?_
      refine rend _ (m / 10) ⟨UInt8.ofNat (48 + m % 10) :: s, rfl, by rw [hs, hbig]; simp, by omega, rfl⟩ (by omega) ⟨iv (by omega), rfl, trivial⟩
    · have hsm := dec_small (u := m) (by omega)
      have hd := ofNat_d (k := m) (by omega)
      have h1 : [UInt8.ofNat (48 + m)].length = 1 := rfl
      refine dr U 600 rfl (by first | exact True.intro | (simp only [AllP, InR, List.nil_append, List.cons_append, and_true]; omega)) ?_
      refine rstr U (UInt8.ofNat (48 + m)) rfl (by rw [hd]; omega) (by rw [hd]; omega) rfl rfl rfl rfl ?_
      refine dr U 600 rfl (by first | exact True.intro | (simp only [AllP, InR, List.nil_append, List.cons_append, and_true]; omega)) ?_
      refine ret Tryz.results60 rfl ⟨_, rfl, .inr ⟨by omega, ?_⟩, rfl⟩
      rw [Int.toNat_natCast, hs, hsm]; rfl

end Go.Proofs.YtejlpdbiacmfcaaGreatDoor
end
section
set_option linter.unusedSimpArgs false
set_option linter.unusedVariables false
set_option maxHeartbeats 1000000
namespace Go.Proofs.YtejlpdbiacmfcaaGreatDoor
open Go Go.Proofs Go.RowKit Go.Lib Go.Sort

theorem grow_below (w : World) (k : Nat) (os : Array Obj) : Below w.heap.size w (grow (w.drewN k) os) :=
  (below_drewN (Below.refl _ w) k).trans ⟨rfl, rfl, rfl, by simp [grow], fun i hi => by
    have : i < (w.drewN k).heap.size := hi
    simp only [grow]
    rw [Array.getElem?_append_left this]⟩

/-- The library's error of range is laid. -/
def ErrOk (w : World) : Prop := ∃ ev, w.cell? ⟨3, 0, none⟩ = some ev ∧ (ev = .nilIface ∨ ∃ te pe, ev = .iface te pe)
theorem ErrOk.below {w w' : World} (h : ErrOk w) (hb : Below w.heap.size w w') : ErrOk w' := by
  obtain ⟨ev, h1, h2⟩ := h
  exact ⟨ev, by rw [hb.cell (World.block_lt_of_cell? w _ h1)]; exact h1, h2⟩

section
variable {P : Program} {ro : Option Nat} {n : Nat} {ds : List Deferred} {Q : PT} {l l' : Fr} {w w' : World} {arr : Array Oper} {r : List Oper} {k : List It}
end

end Go.Proofs.YtejlpdbiacmfcaaGreatDoor
end
section
set_option linter.unusedSimpArgs false
set_option linter.unusedVariables false
set_option maxHeartbeats 2000000
namespace Go.Proofs.YtejlpdbiacmfcaaGreatDoor
open Go Go.Proofs Go.RowKit Go.Lib

section
variable {P : Program} (U : Tys P) {ro : Option Nat} {n : Nat} {ds : List Deferred} {Q : PT} {l l' : Fr} {w w' : World} {arr : Array Oper} {r : List Oper} {k : List It}
/-- A slice of written-out values of one cell each. -/
theorem bsv {d1 len : Nat} {t e ty : TypeId} {ops : List (Nat × Operand)} {ps : String} {af : Array Edge} {g1 : Option (Nat × Bool)} {z : Value} {by_ : Nat} (vs : List Value)
    (hx : ops.mapM (fun p => (ev l p.2).map fun v => (p.1, v)) = some ((vs.zipIdx 0).map fun x => (x.2, x.1))) (ht : U.tb.u t = some (.slice e)) (hi : U.tb.inf e = some (1, by_, z)) (hg1 : gd arr l g1 = some true) (hd1 : Nat.blt d1 n = true)
    (hlen : vs.length = len) (hpos : 0 < len) (hsm : len ≤ 16777216) (hall : vs.all one1 = true)
    (t' : ∀ w1, Bk w1 w.heap.size e vs → w1.heap.size = w.heap.size + 1 → w.grownBy w1 none → T P ro n ds Q ((d1, .slice (some ⟨w.heap.size, 0, none⟩) len len) :: l) w1 (.ops arr r) k) :
    T P ro n ds Q l w (.ops arr (⟨some d1, .buildSlice t len ⟨ops⟩, ty, ps, af, g1⟩ :: r)) k := by
  obtain ⟨i, hi0, hz1, hz2, hz3⟩ := U.hi _ _ _ _ hi
  have hpt := U.hu _ _ ht
  have hone : ∀ v ∈ vs, v.cells = #[v] := fun v hv => one1_cells (List.all_eq_true.1 hall v hv)
  have hfill := Great.fill_whole (show 0 < 1 by omega) vs ((Array.range (len * i.size)).map (z.cells[· % z.cells.size]!)) (by
    intro v hv
    rw [hone v hv]; rfl) (by simp [hz1, hlen])
  have hcells : (List.flatMap (fun v => v.cells.toList) vs).toArray = ⟨vs⟩ := by
    have : ∀ us : List Value, (∀ v ∈ us, v.cells = #[v]) → List.flatMap (fun v => v.cells.toList) us = us := by
      intro us
      induction us with
      | nil => intro _; rfl
      | cons u us ih =>
        intro h
        rw [List.flatMap_cons, ih (fun v hv => h v (List.mem_cons_of_mem _ hv)), h u List.mem_cons_self]; rfl
    rw [this vs hone]
  rw [hcells] at hfill
  refine op1 (w' := w.alloc (.cells ⟨vs⟩ e)) (v := .slice (some ⟨w.heap.size, 0, none⟩) len len) (by intro c h; cases h) hg1 (put1_some hd1) (fun a hf => ?_) (t' _ (heap_alloc_new w _) (by simp) (World.grownBy_alloc w _ none))
  have hmap : ops.map (fun p => (p.1, a.eval p.2)) = (vs.zipIdx 0).map fun x => (x.2, x.1) := by
    have key : ∀ (os : List (Nat × Operand)) (rs : List (Nat × Value)), os.mapM (fun p => (ev l p.2).map fun v => (p.1, v)) = some rs → os.map (fun p => (p.1, a.eval p.2)) = rs := by
      intro os
      induction os with
      | nil => intro rs h; simp at h; subst h; rfl
      | cons o os ih =>
        intro rs h
        simp only [List.mapM_cons, Option.pure_def, Option.bind_eq_bind, Option.bind_eq_some_iff, Option.map_eq_some_iff] at h
        obtain ⟨q, ⟨v, hv, rfl⟩, us, hu, h⟩ := h
        simp at h
        subst h
        simp [hf.ev hv, ih us hu]
    exact key ops _ hx
  have hbuild := run_buildSlice (P := P) w t e len ⟨ops.map fun p => (p.1, a.eval p.2)⟩ ⟨vs⟩ i z hpt hi0 hz3 (by rw [hz1]; omega) (by rw [hz1]; omega) (by rw [hz1] at hfill ⊢; simp only [hmap]; exact hfill)
  simp only [execOp, List.map_toArray]
  simp [hbuild]
end

theorem strs_len (ls : List Tx) : (strs ls).length = ls.length := by unfold strs; rw [List.length_map]
/-- A new list of rows of texts. -/
def OwnM (w : World) (B : Nat) (a : Option Addr) (c : Nat) (xss : List (List Tx)) : Prop := ∃ A C, w.ownsRow B 29 1 (.slice a xss.length c) xss.length (srws xss A C) ∧ ∀ i, i < xss.length → Sl w (A i) (strs (rw' xss i)) ∧ ∀ g, ab (A i) = some g → Tg w 35 g
theorem OwnM.sm {w : World} {B : Nat} {a : Option Addr} {c : Nat} {xss : List (List Tx)} (h : OwnM w B a c xss) : SM w a xss := by
  obtain ⟨A, C, h1, h2⟩ := h
  exact ⟨A, C, own_sl h1, fun i hi => (h2 i hi).1⟩
theorem OwnM.nil (w : World) (B : Nat) : OwnM w B none 0 [] := ⟨fun _ => none, fun _ => 0, ⟨rfl, .inl ⟨rfl, rfl⟩⟩, fun i hi => absurd hi (by simp)⟩
theorem OwnM.stay {w w' : World} {B : Nat} {a : Option Addr} {c : Nat} {xss : List (List Tx)} (h : OwnM w B a c xss) (hb : Below w.heap.size w w') : OwnM w' B a c xss := by
  obtain ⟨A, C, h1, h2⟩ := h
  exact ⟨A, C, own_bw h1 hb, fun i hi => ⟨(h2 i hi).1.below hb (fun g hg => ((h2 i hi).2 g hg).lt), fun g hg => ((h2 i hi).2 g hg).below hb⟩⟩
theorem rw_app1 {xss : List (List Tx)} {xs : List Tx} {i : Nat} (h : i < xss.length) : rw' (xss ++ [xs]) i = rw' xss i := by
  unfold rw'; simp [List.getD, List.getElem?_append_left h]
theorem rw_app2 (xss : List (List Tx)) (xs : List Tx) : rw' (xss ++ [xs]) xss.length = xs := by
  unfold rw'; simp [List.getD]
theorem srws_snoc (xss : List (List Tx)) (xs : List Tx) (A : Nat → Option Addr) (C : Nat → Nat) (a : Option Addr) (c : Nat) : srws xss A C ++ [.slice a xs.length c] = srws (xss ++ [xs]) (upd A xss.length a) (upd C xss.length c) := by
  unfold srws
  rw [List.length_append, List.length_singleton, List.range_succ, List.map_append, List.map_singleton, upd_same, upd_same, rw_app2]
  congr 1
  apply List.map_congr_left
  intro i hi
  have := List.mem_range.1 hi
  rw [upd_ne _ _ (by omega), upd_ne _ _ (by omega), rw_app1 this]
/-- One more row. -/
theorem OwnM.snoc {w w' : World} {B : Nat} {a a' b : Option Addr} {c c' d : Nat} {xss : List (List Tx)} {xs : List Tx} {A : Nat → Option Addr} {C : Nat → Nat}
    (ho : w.ownsRow B 29 1 (.slice a xss.length c) xss.length (srws xss A C)) (h2 : ∀ i, i < xss.length → Sl w (A i) (strs (rw' xss i)) ∧ ∀ g, ab (A i) = some g → Tg w 35 g)
    (hb : Sl w b (strs xs)) (hbt : ∀ g, ab b = some g → Tg w 35 g) (hg : w.grownBy w' (ab a)) (ho' : w'.ownsRow B 29 1 (.slice a' (xss.length + 1) c') (xss.length + 1) (srws xss A C ++ [.slice b xs.length d])) : OwnM w' B a' c' (xss ++ [xs]) := by
  have key : ∀ (b : Option Addr) (vs : List Value), Sl w b vs → (∀ g, ab b = some g → Tg w 35 g) → Sl w' b vs ∧ ∀ g, ab b = some g → Tg w' 35 g := fun b vs h1 h2 =>
    have hne : ∀ g, ab b = some g → ab a ≠ some g := fun g hg e => (h2 g hg).ne (own_tag ho g e) rfl rfl
    ⟨h1.keep hg hne, fun q hq => (h2 q hq).grown hg (hne q hq)⟩
  rw [srws_snoc] at ho'
  refine ⟨_, _, by rw [List.length_append, List.length_singleton]; exact ho', fun i hi => ?_⟩
  rw [List.length_append, List.length_singleton] at hi
  by_cases h : i = xss.length
  · subst h; rw [upd_same, rw_app2]; exact key b _ hb hbt
  · rw [upd_ne _ _ h, rw_app1 (by omega)]; exact key _ _ (h2 i (by omega)).1 (h2 i (by omega)).2
/-- A row that is light. -/
def RowL (xs : List Tx) : Prop := xs.length ≤ 6 ∧ ∀ k, k < xs.length → (xs.getD k []).length ≤ 12
/-- Lists of rows that are light. -/
def LightM (xss ls : List (List Tx)) : Prop := (∀ i, i < (xss ++ ls).length → RowL (rw' (xss ++ ls) i)) ∧ xss.length ≤ 6
end Go.Proofs.YtejlpdbiacmfcaaGreatDoor
end
section
set_option linter.unusedSimpArgs false
set_option linter.unusedVariables false
set_option maxHeartbeats 2000000
namespace Go.Proofs.YtejlpdbiacmfcaaGreatDoor
open Go Go.Proofs Go.RowKit Go.Lib

theorem qval_of {s : Tx} (h : QErr s 0) : decide ((qval s).num < 0) = qneg s ∧ (qval s).num.natAbs = dval (qn s) ∧ (qval s).den = dval (qd s) := by
  obtain ⟨hQ, _, _, hg⟩ := h.ok
  have hd0 := qd_pos hQ
  unfold qval
  rw [mkq_num _ _ _ hd0, (mkq_form _ _ _ hd0).2, hg, Nat.div_one, Nat.div_one]
  refine ⟨?_, rfl, rfl⟩
  rw [Bool.eq_iff_iff]
  simp only [decide_eq_true_eq, mkq_neg _ _ _ hd0]
  constructor
  · exact fun h => h.1
  · exact fun hn => ⟨hn, fun h => hQ.2.1 ⟨hn, (dval_zero_iff hQ.1).2 h⟩⟩
theorem drop_first {p : UInt8 → Bool} : ∀ (l : List UInt8), l.dropWhile p = [] ∨ ∃ c t, l.dropWhile p = c :: t ∧ p c = false
  | [] => .inl rfl
  | c :: r => by
    rw [List.dropWhile_cons]
    split
    · exact drop_first r
    · rename_i h
      exact .inr ⟨c, r, rfl, by simpa using h⟩
theorem q_split (s : Tx) : s = (if qneg s = true then [45] else []) ++ qn s ++ (if qslash s = true then 47 :: s.drop ((qpre s).length + 1) else []) := by
  have h1 : (if qneg s = true then [45] else []) ++ qn s = qpre s := by
    unfold qn
    by_cases h : qneg s = true
    · rw [if_pos h, if_pos h]
      unfold qneg at h
      cases hp : qpre s with
      | nil => rw [hp] at h; cases h
      | cons c t =>
        rw [hp] at h
        simp at h
        subst h; rfl
    · rw [if_neg h, if_neg h]; rfl
  rw [h1]
  have h2 : s = qpre s ++ s.dropWhile fun c => c != 47 := (List.takeWhile_append_dropWhile).symm
  rcases drop_first (p := fun c => c != 47) s with h | ⟨c, t, h, hc⟩
  · rw [h, List.append_nil] at h2
    have : qslash s = false := by unfold qslash; rw [← h2]; simp
    rw [this, if_neg (by simp), List.append_nil]; exact h2
  · obtain rfl : c = 47 := by simpa using hc
    rw [h] at h2
    have hl : s.length = (qpre s).length + (t.length + 1) := by
      have := congrArg List.length h2
      rwa [List.length_append, List.length_cons] at this
    have : qslash s = true := by unfold qslash; exact decide_eq_true (by omega)
    rw [this, if_pos rfl]
    have h3 : s.drop ((qpre s).length + 1) = t := by
      have : s = (qpre s ++ [47]) ++ t := by rw [List.append_assoc]; exact h2
      rw [show (qpre s).length + 1 = (qpre s ++ [47]).length by rw [List.length_append]; rfl]
      exact (congrArg (List.drop (qpre s ++ [47]).length) this).trans List.drop_left
    rw [h3]; exact h2
/-- A number's text is the text of its number. -/
theorem q_text_back {s : Tx} (h : QErr s 0) : qtext (qval s) = s := by
  obtain ⟨e1, e2, e3⟩ := qval_of h
  obtain ⟨hQ, _, _, hg⟩ := h.ok
  have hn : decDigits (dval (qn s)) = qn s := (dec_of hQ.1.2.2 hQ.1.1 hQ.1.2.1).symm
  have hfd := qd_form hQ
  have hd : decDigits (dval (qd s)) = qd s := (dec_of hfd.2.2 hfd.1 hfd.2.1).symm
  conv => rhs; rw [q_split s]
  unfold qtext
  rw [e2, e3, hn, hd]
  congr 1
  · congr 1
    rw [← e1]
    by_cases h : (qval s).num < 0
    · rw [if_pos h, if_pos (decide_eq_true h)]
    · rw [if_neg h, if_neg (by rw [decide_eq_false h]; simp)]
  · by_cases hs : qslash s = true
    · rw [if_pos hs]
      have h1 := (hQ.2.2 hs).2.2.2
      rw [if_neg (fun e => h1 ((dval_one_iff hfd).2 e))]
      unfold qd; rw [if_pos hs]
    · rw [if_neg hs]
      rw [if_pos (by unfold qd; rw [if_neg hs]; rfl)]
theorem form_chk {l : Tx} (h : l ≠ [] ∧ (l = [48] ∨ l.head? ≠ some 48) ∧ (l.all fun c => decide (48 ≤ c.toNat ∧ c.toNat ≤ 57)) = true) : Form l :=
  ⟨h.1, h.2.1, fun c hc => by simpa [isD] using List.all_eq_true.1 h.2.2 c hc⟩
/-- A text that is written out as a number is one. -/
def QChk (s : Tx) : Prop :=
  (qn s ≠ [] ∧ (qn s = [48] ∨ (qn s).head? ≠ some 48) ∧ ((qn s).all fun c => decide (48 ≤ c.toNat ∧ c.toNat ≤ 57)) = true) ∧ ¬(qneg s = true ∧ qn s = [48]) ∧
  (qslash s = true → qn s ≠ [48] ∧ (qd s ≠ [] ∧ (qd s = [48] ∨ (qd s).head? ≠ some 48) ∧ ((qd s).all fun c => decide (48 ≤ c.toNat ∧ c.toNat ≤ 57)) = true) ∧ qd s ≠ [48] ∧ qd s ≠ [49]) ∧
  (qn s).length ≤ 4000 ∧ (qd s).length ≤ 4000 ∧ Nat.gcd (dval (qn s)) (dval (qd s)) = 1
instance (s : Tx) : Decidable (QChk s) := by unfold QChk; infer_instance
theorem qok_chk {s : Tx} (h : QChk s) : QErr s 0 :=
  .inr (.inr (.inr ⟨⟨form_chk h.1, h.2.1, fun hs => ⟨(h.2.2.1 hs).1, form_chk (h.2.2.1 hs).2.1, (h.2.2.1 hs).2.2⟩⟩, h.2.2.2.1, h.2.2.2.2.1, h.2.2.2.2.2, rfl⟩))
theorem form_nd {l : Tx} (h : Form l) : nDigits (dval l) = l.length := by
  have := dec_of h.2.2 h.1 h.2.1
  rw [← decDigits_length, ← this]
theorem q_len_small {s : Tx} {K : Nat} (h : QErr s 0) (hl : s.length ≤ K) : Small K (qval s) := by
  obtain ⟨e1, e2, e3⟩ := qval_of h
  obtain ⟨hQ, _, _, hg⟩ := h.ok
  have hsp := congrArg List.length (q_split s)
  simp only [List.length_append] at hsp
  unfold Small
  rw [e2, e3, form_nd hQ.1, form_nd (qd_form hQ)]
  refine ⟨by omega, ?_⟩
  by_cases hs : qslash s = true
  · rw [if_pos hs, List.length_cons] at hsp
    have : (qd s).length = (s.drop ((qpre s).length + 1)).length := by unfold qd; rw [if_pos hs]
    omega
  · have : (qd s).length = 1 := by unfold qd; rw [if_neg hs]; rfl
    have hne := hQ.1.1
    have : 0 < (qn s).length := List.length_pos_iff.2 hne
    omega

theorem txs_getD {n i : Nat} {f : Nat → Rat} (hi : i < n) : (txs n f).getD i [] = qtext (f i) := by simp [txs, List.getD, hi]
theorem txs_verr {n : Nat} {f : Nat → Rat} (h0 : 0 < n) (h64 : n ≤ 64) (hS : ∀ i, i < n → Small 4000 (f i)) : VErr (txs n f) 0 :=
  .inr (.inr (.inr ⟨by rw [txs_length]; exact h0, by rw [txs_length]; exact h64, fun j hj => by
    rw [txs_length] at hj
    rw [txs_getD hj]; exact (q_text_ok _ (hS j hj)).1, rfl⟩))
theorem txs_vval {n i : Nat} {f : Nat → Rat} (hS : ∀ i, i < n → Small 4000 (f i)) (hi : i < n) : vval (txs n f) i = f i := by
  unfold vval; rw [txs_getD hi]; exact (q_text_ok _ (hS i hi)).2
theorem mtx_xerr {m n : Nat} {f : Mx} (h0 : 0 < m) (h1 : 0 < n) (h64 : m ≤ 64) (h65 : n ≤ 64) (hS : ∀ i, i < m → ∀ k, k < n → Small 4000 (f i k)) : XErr (mtx m n f) 0 :=
  .inr (.inr (.inr ⟨by rw [mtx_length]; exact h0, by rw [mtx_len h0]; exact h1, by rw [mtx_length]; exact h64, by rw [mtx_len h0]; exact h65, fun j hj => by
    rw [mtx_length] at hj
    refine ⟨by rw [mtx_len hj, mtx_len h0], ?_⟩
    rw [mtx_row hj]; exact txs_verr h1 h65 (hS j hj), rfl⟩))
theorem mtx_mval {m n i k : Nat} {f : Mx} (hS : ∀ i, i < m → ∀ k, k < n → Small 4000 (f i k)) (hi : i < m) (hk : k < n) : mval (mtx m n f) i k = f i k := by
  unfold mval; rw [mtx_getD hi hk]; exact (q_text_ok _ (hS i hi k hk)).2
theorem qtext_len {r : Rat} (h : Small 4000 r) : (qtext r).length ≤ 8002 := by
  unfold qtext
  simp only [List.length_append, decDigits_length]
  have h1 := h.1
  have h2 := h.2
  have h3 : (if r.num < 0 then [45] else ([] : List UInt8)).length ≤ 1 := by split <;> simp
  have h4 : (if r.den = 1 then [] else 47 :: decDigits r.den).length ≤ 4001 := by
    split
    · simp
    · rw [List.length_cons, decDigits_length]; omega
  omega
theorem txs_lenv {n : Nat} {f : Nat → Rat} (hn : n ≤ 1000000) (hS : ∀ i, i < n → Small 4000 (f i)) : LenV (txs n f) :=
  ⟨by rw [txs_length]; omega, fun j hj => by
    rw [txs_length] at hj
    rw [txs_getD hj]; exact Nat.le_trans (qtext_len (hS j hj)) (by omega)⟩
theorem mtx_lens {m n : Nat} {f : Mx} (hm : m ≤ 1000000) (hn : n ≤ 1000000) (hS : ∀ i, i < m → ∀ k, k < n → Small 4000 (f i k)) : Lens (mtx m n f) :=
  ⟨by rw [mtx_length]; omega, fun i hi => by
    rw [mtx_length] at hi
    rw [mtx_len hi]; omega, fun i hi j hj => by
    rw [mtx_length] at hi
    rw [mtx_row hi] at hj ⊢
    exact (txs_lenv hn (hS i hi)).x j hj⟩

/-- Written-out numbers. -/
def mx (L : List (List Rat)) : Mx := fun i k => (L.getD i []).getD k 0
theorem nil_lens : Lens [] := ⟨by simp, fun i hi => absurd hi (by simp), fun i hi => absurd hi (by simp)⟩
end Go.Proofs.YtejlpdbiacmfcaaGreatDoor
end
