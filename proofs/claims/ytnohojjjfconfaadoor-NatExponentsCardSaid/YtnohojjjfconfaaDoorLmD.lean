/-
  Walks of cmp.Compare and of package limbs: Cmp, small.
  Conditions: the numbers take fewer than 2^40 limbs; small divides by a number below the base that is not 0.
-/
import Derived.Test.YtnohojjjfconfaaDoorBack
set_option linter.unusedSimpArgs false
set_option linter.unusedVariables false
namespace Go.Proofs.YtnohojjjfconfaaDoor
open Go Go.Proofs Go.RowKit

def cmpI (a b : Int) : Int := if a < b then -1 else if b < a then 1 else 0
def cmpN (m n : Nat) : Int := if m < n then -1 else if n < m then 1 else 0


theorem isNaN_int_calls (a : Int) (w : World) : Calls Tryd.prog 60 #[.int .i64 a] w (Ret fun v w' => v = .bool false ∧ w = w') := by
  refine enter Tryd.func60 rfl Tryd.ntmps60 (Nat.le_of_ble_eq_true rfl) ?_
  refine dr U 600 rfl trivial ?_
  refine cF rfl rfl rfl (fun h => h rfl) ?_
  refine dr U 600 rfl trivial ?_
  exact ret Tryd.results60 rfl ⟨_, rfl, rfl, rfl⟩
theorem isNaN_uint64_calls (a : Int) (w : World) : Calls Tryd.prog 61 #[.int .u64 a] w (Ret fun v w' => v = .bool false ∧ w = w') := by
  refine enter Tryd.func61 rfl Tryd.ntmps61 (Nat.le_of_ble_eq_true rfl) ?_
  refine dr U 600 rfl trivial ?_
  refine cF rfl rfl rfl (fun h => h rfl) ?_
  refine dr U 600 rfl trivial ?_
  exact ret Tryd.results61 rfl ⟨_, rfl, rfl, rfl⟩
theorem compare_int_calls (a b : Int) (w : World) : Calls Tryd.prog 52 #[.int .i64 a, .int .i64 b] w (Ret fun v w' => v = .int .i64 (cmpI a b) ∧ w = w') := by
  refine enter Tryd.func52 rfl Tryd.ntmps52 (Nat.le_of_ble_eq_true rfl) ?_
  refine dr U 600 rfl trivial ?_
  refine call (f := 60) rfl rfl cb60 (isNaN_int_calls a w) ?_
  rintro v w1 ⟨rfl, rfl⟩
  refine ⟨_, rfl, ?_⟩
  refine dr U 600 rfl trivial ?_
  refine call (f := 60) rfl rfl cb60 (isNaN_int_calls b w) ?_
  rintro v w1 ⟨rfl, rfl⟩
  refine ⟨_, rfl, ?_⟩
  refine dr U 600 rfl trivial ?_
  refine cS rfl rfl rfl rfl (fun hq => ?_) (fun hq => ?_)
  · refine dr U 600 rfl trivial ?_
    refine ret Tryd.results52 rfl ⟨_, rfl, ?_, rfl⟩
    simp [cmpI, hq, pack]
  · refine dr U 600 rfl trivial ?_
    have hq1 := hq
    refine cS rfl rfl rfl rfl (fun hq => ?_) (fun hq => ?_)
    · refine dr U 600 rfl trivial ?_
      refine ret Tryd.results52 rfl ⟨_, rfl, ?_, rfl⟩
      simp only [cmpI]; rw [if_neg hq1, if_pos hq]; rfl
    · refine dr U 600 rfl trivial ?_
      have hq2 := hq1
      refine ret Tryd.results52 rfl ⟨_, rfl, ?_, rfl⟩
      simp only [cmpI]; rw [if_neg hq2, if_neg hq]; rfl
theorem compare_uint64_calls (a b : Int) (w : World) : Calls Tryd.prog 53 #[.int .u64 a, .int .u64 b] w (Ret fun v w' => v = .int .i64 (cmpI a b) ∧ w = w') := by
  refine enter Tryd.func53 rfl Tryd.ntmps53 (Nat.le_of_ble_eq_true rfl) ?_
  refine dr U 600 rfl trivial ?_
  refine call (f := 61) rfl rfl cb61 (isNaN_uint64_calls a w) ?_
  rintro v w1 ⟨rfl, rfl⟩
  refine ⟨_, rfl, ?_⟩
  refine dr U 600 rfl trivial ?_
  refine call (f := 61) rfl rfl cb61 (isNaN_uint64_calls b w) ?_
  rintro v w1 ⟨rfl, rfl⟩
  refine ⟨_, rfl, ?_⟩
  refine dr U 600 rfl trivial ?_
  refine cS rfl rfl rfl rfl (fun hq => ?_) (fun hq => ?_)
  · refine dr U 600 rfl trivial ?_
    refine ret Tryd.results53 rfl ⟨_, rfl, ?_, rfl⟩
    simp [cmpI, hq, pack]
  · refine dr U 600 rfl trivial ?_
    have hq1 := hq
    refine cS rfl rfl rfl rfl (fun hq => ?_) (fun hq => ?_)
    · refine dr U 600 rfl trivial ?_
      refine ret Tryd.results53 rfl ⟨_, rfl, ?_, rfl⟩
      simp only [cmpI]; rw [if_neg hq1, if_pos hq]; rfl
    · refine dr U 600 rfl trivial ?_
      have hq2 := hq1
      refine ret Tryd.results53 rfl ⟨_, rfl, ?_, rfl⟩
      simp only [cmpI]; rw [if_neg hq2, if_neg hq]; rfl

theorem cmpI_nat (m n : Nat) : cmpI (m : Int) (n : Int) = cmpN m n := by
  unfold cmpI cmpN
  split <;> (try split) <;> (try split) <;> omega

theorem cmp_len {p q : Nat} (h : (lim p).length ≠ (lim q).length) : cmpN (lim p).length (lim q).length = cmpN p q := by
  rcases Nat.lt_or_ge p q with h1 | h1
  · have := lim_len_mono (Nat.le_of_lt h1)
    unfold cmpN; rw [if_pos (by omega), if_pos h1]
  · have := lim_len_mono h1
    have h2 : q ≠ p := by rintro rfl; exact h rfl
    unfold cmpN; rw [if_neg (by omega), if_pos (by omega), if_neg (by omega), if_pos (by omega)]

theorem split_at (xs : List Nat) (i : Nat) (h : i < xs.length) : xs = xs.take i ++ xs.getD i 0 :: xs.drop (i + 1) := by
  have := List.take_append_drop i xs
  rw [List.drop_eq_getElem_cons h] at this
  simp [List.getD, h]

theorem cmp_at {xs ys : List Nat} (hx : Lm xs) (hy : Lm ys) (hl : xs.length = ys.length) (i : Nat) (hi : i < xs.length) (hd : xs.drop (i + 1) = ys.drop (i + 1)) (hne : xs.getD i 0 ≠ ys.getD i 0) :
    cmpN (xs.getD i 0) (ys.getD i 0) = cmpN (val xs) (val ys) := by
  have h1 := split_at xs i hi
  have h2 := split_at ys i (by omega)
  have hlt : (xs.take i).length = (ys.take i).length := by simp; omega
  rcases Nat.lt_or_ge (xs.getD i 0) (ys.getD i 0) with h | h
  · have := val_cmp_top (hx.take i) (hy.take i) hlt h (xs.drop (i + 1))
    rw [← h1, hd, ← h2] at this
    unfold cmpN; rw [if_pos h, if_pos this]
  · have h' : ys.getD i 0 < xs.getD i 0 := by omega
    have := val_cmp_top (hy.take i) (hx.take i) hlt.symm h' (ys.drop (i + 1))
    rw [← h2, ← hd, ← h1] at this
    unfold cmpN; rw [if_neg (by omega), if_pos h', if_neg (by omega), if_pos this]

theorem cmp_self (n : Nat) : cmpN n n = 0 := by unfold cmpN; rw [if_neg (by omega), if_neg (by omega)]

theorem heap_bk {w w' : World} (h : w'.heap = w.heap) {b t : Nat} {cs : List Value} (hb : Bk w b t cs) : Bk w' b t cs := by unfold Bk at *; rw [h]; exact hb
theorem heap_sl {w w' : World} (h : w'.heap = w.heap) {a : Option Addr} {vs : List Value} (hb : Sl w a vs) : Sl w' a vs := fun j v hv => by
  obtain ⟨g, off, h1, h2⟩ := hb j v hv
  exact ⟨g, off, h1, cell_heap h h2⟩

theorem cmp_calls (p q : Nat) (a b : Option Addr) (c d : Nat) (w : World) (ha : Rd w a c (lim p)) (hb : Rd w b d (lim q)) (hpl : (lim p).length ≤ 1099511627776) (hql : (lim q).length ≤ 1099511627776) :
    Calls Tryd.prog 32 #[.slice a (lim p).length c, .slice b (lim q).length d] w (Ret fun v w' => v = .int .i64 (cmpN p q) ∧ Below w.heap.size w w') := by
  have hxl := lim_Lm p
  have hyl := lim_Lm q
  have hvp := val_lim p
  have hvq := val_lim q
  have hres1 := @cmp_len p q
  generalize hxs : lim p = xs at *
  generalize hys : lim q = ys at *
  refine enterM Tryd.func32 rfl Tryd.ntmps32 (Nat.le_of_ble_eq_true rfl) ?_
  refine dr U 600 rfl trivial ?_
  refine bx rfl rfl rfl rfl ?_
  intro b2 w2 hb2 hs2 hk2 hg2
  refine bx rfl rfl rfl rfl ?_
  intro b3 w3 hb3 hs3 hk3 hg3
  refine al U rfl rfl rfl rfl ?_
  intro b4 w4 hb4 hs4 hk4 hg4
  have hk2 := (hk2.keep hg3 (by simp)).keep hg4 (by simp)
  have hk3 := hk3.keep hg4 (by simp)
  have hB4 : Below w.heap.size w w4 := (((Below.refl _ _).grown hg2 (Nat.le_refl _) (fun k e => by cases e)).grown hg3 (by omega) (fun k e => by cases e)).grown hg4 (by omega) (fun k e => by cases e)
  refine dr U 600 rfl trivial ?_
  refine ld U rfl rfl rfl rfl ((hk2).cell rfl) ?_
  refine dr U 600 rfl trivial ?_
  refine ld U rfl rfl rfl rfl ((hk3).cell rfl) ?_
  refine dr U 600 rfl trivial ?_
  refine cS rfl rfl rfl rfl (fun hq => ?_) (fun hq => ?_)
  · refine dr U 600 rfl trivial ?_
    refine ld U rfl rfl rfl rfl ((hk2).cell rfl) ?_
    refine dr U 600 rfl trivial ?_
    refine ld U rfl rfl rfl rfl ((hk3).cell rfl) ?_
    refine dr U 600 rfl trivial ?_
    refine call (f := 52) rfl rfl cb52 (compare_int_calls _ _ w4) ?_
    rintro v w5 ⟨rfl, rfl⟩
    refine ⟨_, rfl, ?_⟩
    refine dr U 600 rfl trivial ?_
    refine st U rfl rfl rfl rfl rfl rfl rfl rfl rfl rfl (hk4) ?_
    intro w5 hk5 hg5 hs5
    refine dr U 600 rfl trivial ?_
    refine retM0 U Tryd.results32 (vs := [_]) ⟨⟨_, rfl, rfl, hk5.cell rfl⟩, trivial⟩ ⟨_, rfl, ?_, hB4.grown hg5 (by omega) (fun k e => by cases e; omega)⟩
    show Value.int .i64 (cmpI _ _) = _
    rw [cmpI_nat, hres1 (by omega)]
  · have hl : xs.length = ys.length := by omega
    refine dr U 600 rfl trivial ?_
    refine ld U rfl rfl rfl rfl ((hk2).cell rfl) ?_
    refine dr U 600 rfl trivial ?_
    refine call (f := 47) rfl rfl cb47 (back_calls _ _ _ w4) ?_
    rintro v w5 ⟨rfl, hs5, hk5, hg5⟩
    refine ⟨_, rfl, ?_⟩
    refine dr U 600 rfl trivial ?_
    have hk2 := hk2.keep hg5 (by simp)
    have hk3 := hk3.keep hg5 (by simp)
    have hk4 := hk4.keep hg5 (by simp)
    have hB5 := hB4.grown hg5 (by omega) (fun k e => by cases e)
    have ha5 := (ha.below hB5).1
    have hb5 := (hb.below hB5).1
    refine rng rfl cb57 rfl (back_seq a xs.length c w4.heap.size (fun _ _ => True) (fun w => Bk w w4.heap.size 40 [.slice a xs.length c] ∧ Sl w a (xs.map u64)) (by omega) (fun w h => ⟨h.1, _, h.2, by simp, fun _ _ _ => trivial⟩))
      (fun k vs h => by obtain ⟨v, rfl, _⟩ := h; rfl)
      (fun j W => xs.drop (xs.length - j) = ys.drop (xs.length - j) ∧ j ≤ xs.length ∧ Bk W b2 40 [.slice a xs.length c] ∧ Bk W b3 40 [.slice b ys.length d] ∧ Bk W b4 3 [.int .i64 0] ∧ Sl W b (ys.map u64) ∧ Below w.heap.size w W)
      (fun cd W => cd = .ret ∧ Bk W b4 3 [.int .i64 (cmpN p q)] ∧ Below w.heap.size w W)
      (fun j => (OwnB.pure _ _).and ((OwnB.pure _ _).and ((OwnB.bk _ _ _ _).and ((OwnB.bk _ _ _ _).and ((OwnB.bk _ _ _ _).and ((OwnB.sl _ _ _).and (OwnB.below _ (by omega) (Nat.le_refl _))))))))
      (fun cd => (OwnB.pure _ _).and ((OwnB.bk _ _ _ _).and (OwnB.below _ (by omega) (Nat.le_refl _))))
      ((OwnB.bk _ _ _ _).and (OwnB.sl _ _ _)) ⟨by simp [hl], by omega, hk2, hk3, hk4, hb5, hB5⟩ ⟨hk5, ha5⟩
      (fun vs => [(5, vs.headD undef), (2, .pointer (some ⟨b2, 0, none⟩)), (3, .pointer (some ⟨b3, 0, none⟩)), (4, .pointer (some ⟨b4, 0, none⟩))]) ?_ ?_ ?_ ?_
    · rintro L j vs W ⟨v, rfl, _⟩
      refine dr U 600 rfl trivial ?_
      exact asg ⟨rfl, rfl, rfl, rfl, trivial⟩
    · rintro L j vs W hj ⟨v, rfl, _⟩ ⟨hd, hj2, hk2, hk3, hk4, hby, hB⟩ ⟨hk5, hax⟩ hsz
      have hi : xs.length - 1 - j < xs.length := by omega
      have hi2 : xs.length - 1 - j < ys.length := by omega
      rw [show xs.length - j = xs.length - 1 - j + 1 by omega] at hd
      have hcmp := cmp_at hxl hyl hl _ hi hd
      have hdn : xs.getD (xs.length - 1 - j) 0 = ys.getD (xs.length - 1 - j) 0 → xs.drop (xs.length - 1 - j) = ys.drop (xs.length - 1 - j) := fun e => by
        rw [List.drop_eq_getElem_cons hi, List.drop_eq_getElem_cons hi2, hd]
        simp [List.getD, hi, hi2] at e
        rw [e]
      generalize hii : xs.length - 1 - j = i at *
      obtain ⟨g1, o1, rfl, hc1⟩ := hax i _ (getU hi)
      obtain ⟨g2, o2, rfl, hc2⟩ := hby i _ (getU hi2)
      have hq2 := hk2.cell (off := 0) rfl
      have hq3 := hk3.cell (off := 0) rfl
      refine dr U 600 rfl trivial ?_
      refine dwn 8 (fun w' => w'.heap = W.heap) hmo ?_
      intro w6 hh6 hg6
      refine dq U [0,1,2,3,4,5,6,7] [(0, .slice (some ⟨g1, o1, none⟩) xs.length c), (3, u64 (xs.getD i 0)), (4, .slice (some ⟨g2, o2, none⟩) ys.length d), (7, u64 (ys.getD i 0))] (by kernel_rfl) rfl rfl hh6 (by simp only [AllP, InR, List.nil_append, List.cons_append]; (repeat' apply And.intro); all_goals first | exact True.intro | omega | (intro w_ hw_; refine ldC U rfl hw_ ?_; first | assumption | (simp [add_plain]; assumption)) | (intro w_ hw_; refine run_load_cell U rfl ?_; first | exact hw_ | exact hw_.1 | exact hw_.2 | exact hw_.2.1 | exact hw_.2.2 | exact hw_.2.2.1 | exact hw_.2.2.2 | (simp [add_plain]; first | exact hw_.1 | exact hw_.2.1 | exact hw_.2.2))) ?_
      refine d1 rfl rfl (fun _ => hh6) ?_
      refine cS rfl rfl rfl rfl (fun hq => ?_) (fun hq => ?_)
      · refine d2 ?_; refine dend rfl (fun h => by cases h) ?_
        refine dr U 600 rfl trivial ?_
        refine dwn 9 (fun w' => w'.heap = W.heap) hmo ?_
        intro w7 hh7 hg7
        have hh7 := hh7.trans hh6
        refine dq U [0,1,2,3,4,5,6,7] [(0, .slice (some ⟨g1, o1, none⟩) xs.length c), (3, u64 (xs.getD i 0)), (4, .slice (some ⟨g2, o2, none⟩) ys.length d), (7, u64 (ys.getD i 0))] (by kernel_rfl) rfl rfl hh7 (by simp only [AllP, InR, List.nil_append, List.cons_append]; (repeat' apply And.intro); all_goals first | exact True.intro | omega | (intro w_ hw_; refine ldC U rfl hw_ ?_; first | assumption | (simp [add_plain]; assumption)) | (intro w_ hw_; refine run_load_cell U rfl ?_; first | exact hw_ | exact hw_.1 | exact hw_.2 | exact hw_.2.1 | exact hw_.2.2 | exact hw_.2.2.1 | exact hw_.2.2.2 | (simp [add_plain]; first | exact hw_.1 | exact hw_.2.1 | exact hw_.2.2))) ?_
        refine d1 rfl rfl (fun _ => hh7) ?_
        refine call (f := 53) rfl rfl cb53 (compare_uint64_calls _ _ w7) ?_
        rintro v w8 ⟨rfl, rfl⟩
        refine ⟨_, rfl, d2 ?_⟩
        refine d1 rfl rfl (fun _ => hh7) ?_
        have hk47 := heap_bk hh7 hk4
        refine st U rfl rfl rfl rfl rfl rfl rfl rfl rfl rfl (hk47) ?_
        intro w8 hk8 hg8 hs8
        refine d2 ?_; refine dend rfl (fun h => by cases h) ?_
        refine dr U 600 rfl trivial ?_
        refine rndR ⟨ko_grown (ko_grown (ko_grown (KeepsOthers.refl W) hg6 (fun k e => by cases e)) hg7 (fun k e => by cases e)) hg8 (fun k e => by cases e; exact ⟨_, _, _, hk47⟩), rfl, ?_, ?_⟩
        · rw [cmpI_nat, hcmp (by intro e; rw [e] at hq; exact hq rfl), hvp, hvq] at hk8
          exact hk8
        · have hb4' : w.heap.size ≤ b4 := by omega
          exact ((hB.grown hg6 hB.size (fun k e => by cases e)).grown hg7 (by rw [hh6]; exact hB.size) (fun k e => by cases e)).grown hg8 (by rw [hh7]; exact hB.size) (fun k e => by cases e; exact hb4')
      · refine d2 ?_; refine dend rfl (fun h => by cases h) ?_
        refine dr U 600 rfl trivial ?_
        have hdd := hdn (by omega)
        refine rnd ⟨ko_grown (KeepsOthers.refl W) hg6 (fun k e => by cases e), ⟨by rw [show xs.length - (j + 1) = i by omega]; exact hdd, by omega, heap_bk hh6 hk2, heap_bk hh6 hk3, heap_bk hh6 hk4, heap_sl hh6 hby, hB.grown hg6 hB.size (fun k e => by cases e)⟩, heap_bk hh6 hk5, heap_sl hh6 hax⟩
    · rintro D W hD ⟨hd, hj2, hk2, hk3, hk4, hby, hB⟩ hK
      refine dr U 600 rfl trivial ?_
      refine st U rfl rfl rfl rfl rfl rfl rfl rfl rfl rfl (hk4) ?_
      intro w6 hk6 hg6 hs6
      refine dr U 600 rfl trivial ?_
      have hK6 : w6.heap[D]? = some (.deferred (some [])) := by rw [hg6.block D (Array.getElem?_eq_some_iff.1 hK).1 (by intro e; cases e; omega)]; exact hK
      have hgp := grownBy_putObj' w6 D (.deferred none)
      refine retM1 U Tryd.results32 (vs := [_]) hK6 ⟨⟨_, rfl, rfl, (hk6.keep hgp (by simp; omega)).cell rfl⟩, trivial⟩ ⟨_, rfl, ?_, (hB.grown hg6 hB.size (fun k e => by cases e; omega)).grown hgp (by have := hB.size; omega) (fun k e => by cases e; omega)⟩
      simp at hd
      rw [← hvp, ← hvq, hd, cmp_self]; rfl
    · rintro D cd W hD ⟨rfl, hk4, hB⟩ hK
      have hgp := grownBy_putObj' W D (.deferred none)
      refine retM1 U Tryd.results32 (vs := [_]) hK ⟨⟨_, rfl, rfl, (hk4.keep hgp (by simp; omega)).cell rfl⟩, trivial⟩ ⟨_, rfl, rfl, hB.grown hgp hB.size (fun k e => by cases e; omega)⟩
end Go.Proofs.YtnohojjjfconfaaDoor
