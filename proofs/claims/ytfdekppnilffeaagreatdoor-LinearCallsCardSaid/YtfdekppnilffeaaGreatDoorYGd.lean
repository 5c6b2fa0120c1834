/-
  Walks of the reference's flip, dot, apply, times, scale, combine.
  Conditions: a bound on the sizes of the numbers.

  Walks of the reference's times, scale, combine.
  Conditions: a bound on the sizes of the numbers.

  Walk of the reference's reduce: it does what elimination does.
  Conditions: a bound on the sizes of the numbers.
-/
import Derived.Test.YtfdekppnilffeaaGreatDoorYGa
section
set_option linter.unusedSimpArgs false
set_option linter.unusedVariables false
set_option maxHeartbeats 2000000
namespace Go.Proofs.YtfdekppnilffeaaGreatDoor
open Go Go.Proofs Go.RowKit Go.Lib

theorem gflip_calls (m n : Nat) (f : Nat → Nat → Rat) (hm : 0 < m) (hm' : m ≤ 1000000) (hn' : n ≤ 1000000) (a : Option Addr) (c : Nat) (w : World) (hf : MatQ w a m n f) :
    Calls Tryz.prog 64 #[.slice a m c] w (Ret fun v w' => (∃ a' c', v = .slice a' n c' ∧ MatQ w' a' n m (fun j i => f i j)) ∧ Below w.heap.size w w') := by
  obtain ⟨A, C, hSl, hV, hTb⟩ := hf
  have hAb := fun g hg => (hTb g hg).lt
  refine enter Tryz.func64 rfl Tryz.ntmps64 (Nat.le_of_ble_eq_true rfl) ?_
  refine dr U 600 rfl trivial ?_
  refine loopR (fun fr w' mm => ∃ (k : Nat) (a2 : Option Addr) (c2 : Nat) (A2 : Nat → Option Addr) (C2 : Nat → Nat), fr = [(0, .slice a m c), (3, .slice a2 k c2), (4, .int .i64 (k : Nat))] ∧ k ≤ n ∧
      w'.ownsRow w.heap.size 93 1 (.slice a2 k c2) k (rws k m A2 C2) ∧ RwsQ w' k m A2 C2 (fun j i => f i j) ∧ Below w.heap.size w w' ∧ mm = n - k)
    ⟨0, none, 0, fun _ => none, fun _ => 0, rfl, by omega, ⟨rfl, .inl ⟨rfl, rfl⟩⟩, RwsQ.none _ _ _ _ _, Below.refl _ _, rfl⟩ ⟨rfl, rfl, rfl, trivial⟩ ?_
  rintro fr w1 mm ⟨k, a2, c2, A2, C2, rfl, hk, ho, hR, hB, rfl⟩
  refine dr U 600 rfl trivial ?_
  refine il U rfl rfl rfl rfl rfl rfl rfl (fun _ => rfl) rfl 0 rfl hm (hSl.below hB hAb) (rws_get hm) ?_
  refine dr U 600 rfl trivial ?_
  refine cS rfl rfl rfl rfl (fun hq => ?_) (fun hq => ?_)
  · have hkn : k < n := by omega
    refine dr U 600 rfl trivial ?_
    refine loopR (fun fr w' mm => ∃ (i : Nat) (a3 : Option Addr) (c3 : Nat) (cs : List Value), fr = [(0, .slice a m c), (3, .slice a2 k c2), (4, .int .i64 (k : Nat)), (5, .slice a3 i c3), (6, .int .i64 (i : Nat))] ∧ i ≤ m ∧
        w'.ownsRow w1.heap.size 75 3 (.slice a3 i c3) i cs ∧ ElsQ w' cs i (fun i => f i k) ∧ Below w1.heap.size w1 w' ∧ mm = m - i)
      ⟨0, none, 0, [], rfl, by omega, ⟨rfl, .inl ⟨rfl, rfl⟩⟩, ElsQ.nil _ _, Below.refl _ _, rfl⟩ ⟨rfl, rfl, rfl, rfl, rfl, trivial⟩ ?_
    rintro fr w2 mm ⟨i, a3, c3, cs, rfl, hi, ho3, hE3, hB12, rfl⟩
    have hB2 := bl_tr hB hB12 hB.size
    refine dr U 600 rfl trivial ?_
    refine cS rfl rfl rfl rfl (fun hq => ?_) (fun hq => ?_)
    · have him : i < m := by omega
      refine dr U 600 rfl trivial ?_
      refine il U rfl rfl rfl rfl rfl rfl rfl (fun _ => rfl) rfl i rfl him (hSl.below hB2 hAb) (rws_get him) ?_
      refine dr U 600 rfl trivial ?_
      obtain ⟨⟨cf, hEf, hSf, hTf⟩, _⟩ := hV i him
      refine ig U rfl rfl rfl rfl ag_q rfl rfl (fun _ => rfl) rfl k rfl hkn (hSf.below hB2 (fun g hg => (hTf g hg).lt)) (fun j v hv => el_get hv) (el_length (by rw [hEf.1]; omega)) (by decide) ?_
      have hfe := (hEf.2 k hkn).stay hB2
      obtain ⟨u1, u2, u3, u4, u5, u6, u7, hu⟩ := hfe.shape
      simp only [Value.agg.injEq, Array.mk.injEq] at hu
      rw [hu] at hfe ⊢
      refine aps U rfl rfl rfl rfl rfl rfl rfl rfl (fun _ => rfl) rfl (fun _ => rfl) rfl rfl rfl ho3 hB12.size (by omega) rfl ?_
      intro a5 c5 w5 ho5 hg5
      have hB5 := hB12.grown hg5 hB12.size (fun g e => (own_block ho3 g e).1)
      have hE5 := (hE3.push hg5 (fun g e => own_tag ho3 g e)).snoc (hfe.push hg5 (fun g e => own_tag ho3 g e))
      refine dr U 600 rfl (by first | exact True.intro | (simp only [AllP, InR, List.nil_append, List.cons_append, and_true]; omega)) ?_
      exact rend _ _ ⟨i + 1, a5, c5, _, rfl, by omega, ho5, hE5, hB5, rfl⟩ (by omega) ⟨rfl, rfl, rfl, rfl, iv (by omega), trivial⟩
    · obtain rfl : m = i := by omega
      have ho2 := own_bw ho hB12
      have hR2 := hR.stay hB12
      have hv3 := own_vecq ho3 hE3
      have hc3 := own_cap3 ho3
      refine dr U 600 rfl trivial ?_
      refine ap U (v := (.slice a3 m c3)) rfl rfl rfl rfl rfl rfl (fun _ => rfl) rfl (fun _ => rfl) rfl rfl rfl ho2 hB2.size (by omega) (by decide) ?_
      intro a5 c5 w5 ho5 hg5
      have hB5 := hB2.grown hg5 hB2.size (fun g e => (own_block ho2 g e).1)
      rw [rws_snoc] at ho5
      refine dr U 600 rfl (by first | exact True.intro | (simp only [AllP, InR, List.nil_append, List.cons_append, and_true]; omega)) ?_
      exact rend _ _ ⟨k + 1, a5, c5, _, _, rfl, by omega, ho5, ((hR2.push hg5 (own_tag ho2)).snoc (VecQ.push hv3 hg5 (own_tag ho2)) hc3), hB5, rfl⟩ (by omega) ⟨rfl, rfl, iv (by omega), trivial⟩
  · obtain rfl : n = k := by omega
    refine dr U 600 rfl trivial ?_
    exact ret Tryz.results64 rfl ⟨_, rfl, ⟨a2, c2, rfl, A2, C2, own_sl ho, hR, own_tag ho⟩, hB⟩

theorem qerr_zero : QErr [48] 0 ∧ qval [48] = 0 := by
  have h := q_text_ok 0 (small_mono small_zero (by omega))
  rwa [show qtext 0 = [48] from by have := qtext_nat 0; rw [decDigits_one (by omega)] at this; simpa using this] at h

theorem gdot_calls (n L : Nat) (f g : Nat → Rat) (hL : n * (2 * L + 1) + 1 ≤ 1000000) (hfs : ∀ i, i < n → Small L (f i)) (hgs : ∀ i, i < n → Small L (g i)) (a b : Option Addr) (c d : Nat) (w : World) (hf : VecQ w a n f) (hg : VecQ w b n g) (hn : n ≤ 1000000) :
    Calls Tryz.prog 93 #[.slice a n c, .slice b n d] w (Ret fun v w' => QR w' v (sm n (fun t => f t * g t)) ∧ Below w.heap.size w w') := by
  obtain ⟨csf, hEf, hSf, hTf⟩ := hf
  obtain ⟨csg, hEg, hSg, hTg⟩ := hg
  have hAf := fun g hg => (hTf g hg).lt
  have hAg := fun g hg => (hTg g hg).lt
  refine enter Tryz.func93 rfl Tryz.ntmps93 (Nat.le_of_ble_eq_true rfl) ?_
  refine dr U 600 rfl trivial ?_
  refine al U rfl rfl rfl rfl ?_
  intro b4 w0 hb4 hs0 hk4 hg0
  have hB0 : Below w.heap.size w w0 := (Below.refl _ _).grown hg0 (Nat.le_refl _) (fun k e => by cases e)
  refine dr U 600 rfl trivial ?_
  refine call (f := 94) rfl rfl cb94 (gnumber_calls [48] (by decide) qerr_zero.1 w0) ?_
  rintro v w1 ⟨hz, hB1⟩
  rw [qerr_zero.2] at hz
  have hk4 := hk4.below hB1 hk4.lt
  have hB1' := bl_tr hB0 hB1 hB0.size
  have hlt4 := hk4.lt
  obtain ⟨x1, x2, x3, x4, x5, x6, x7, rfl⟩ := hz.shape
  refine ⟨_, rfl, ?_⟩
  refine al U rfl rfl rfl rfl ?_
  intro b5 w2 hb5 hs2 hk5 hg2
  have hk4 := hk4.keep hg2 (by simp)
  refine dr U 600 rfl trivial ?_
  refine st U rfl rfl rfl rfl rfl rfl rfl rfl rfl rfl (hk5) ?_
  intro w3 hk5 hg3 hs3
  have hk4 := hk4.keep hg3 (by intro e; cases e; omega)
  have hB3 : Below w1.heap.size w1 w3 := ((Below.refl _ _).grown hg2 (Nat.le_refl _) (fun k e => by cases e)).grown hg3 (by omega) (fun k e => by cases e; omega)
  have hz := hz.stay hB3
  have hB3' := bl_tr hB1' hB3 hB1'.size
  have h45 : b4 ≠ b5 := by omega
  have h5w : w.heap.size ≤ b5 := by have := hB1'.size; omega
  refine dr U 600 rfl trivial ?_
  refine loopR (fun fr w' m => ∃ (i : Nat) (x1 : Bool) (x2 : Option Addr) (x3 x4 : Nat) (x5 : Option Addr) (x6 x7 : Nat), fr = [(0, .slice a n c), (1, .slice b n d), (4, .pointer (some ⟨b4, 0, none⟩)), (5, .pointer (some ⟨b5, 0, none⟩)), (6, .int .i64 (i : Nat))] ∧ i ≤ n ∧
      Bk w' b5 75 [.bool x1, .slice x2 x3 x4, .slice x5 x6 x7] ∧ Bk w' b4 75 [.bool false, .slice none 0 0, .slice none 0 0] ∧ QR w' (.agg ⟨[.bool x1, .slice x2 x3 x4, .slice x5 x6 x7]⟩) (sm i (fun t => f t * g t)) ∧ Below w.heap.size w w' ∧ m = n - i)
    ⟨0, x1, x2, x3, x4, x5, x6, x7, rfl, by omega, hk5, hk4, hz, hB3', rfl⟩ ⟨rfl, rfl, rfl, rfl, rfl, trivial⟩ ?_
  rintro fr w1 m ⟨i, x1, x2, x3, x4, x5, x6, x7, rfl, hi, hk5, hk4, hfq, hB, rfl⟩
  refine dr U 600 rfl trivial ?_
  refine cS rfl rfl rfl rfl (fun hq => ?_) (fun hq => ?_)
  · have hin : i < n := by omega
    obtain ⟨ga, oa, rfl, _⟩ := hSf.at (j := i * 3) (by rw [hEf.1]; omega)
    obtain ⟨gb, ob, rfl, _⟩ := hSg.at (j := i * 3) (by rw [hEg.1]; omega)
    refine dr U 600 rfl trivial ?_
    refine dwn 11 (fun W => Bk W b5 75 [.bool x1, .slice x2 x3 x4, .slice x5 x6 x7] ∧ Sl W (some ⟨ga, oa, none⟩) csf ∧ Sl W (some ⟨gb, ob, none⟩) csg) hmo ?_
    intro w2 hh2 hg2
    have hB2' : Below w1.heap.size w1 w2 := (Below.refl _ _).grown hg2 (Nat.le_refl _) (fun k e => by cases e)
    have hB2 := bl_tr hB hB2' hB.size
    have hk5 := hk5.below hB2' hk5.lt
    have hk4 := hk4.below hB2' hk4.lt
    have hl1 : ∀ W, (Bk W b5 75 [.bool x1, .slice x2 x3 x4, .slice x5 x6 x7] ∧ Sl W (some ⟨ga, oa, none⟩) csf ∧ Sl W (some ⟨gb, ob, none⟩) csg) → (loadVar 75 ⟨b5, 0, none⟩).run Tryz.prog W = .ok (.agg ⟨[.bool x1, .slice x2 x3 x4, .slice x5 x6 x7]⟩) W := fun W h => run_load_agg ag_q h.1 rfl
    refine dq U [0,1,2,3,4,5,6,7,8] [(0, .agg ⟨[.bool x1, .slice x2 x3 x4, .slice x5 x6 x7]⟩), (4, .agg ⟨el csf i⟩), (8, .agg ⟨el csg i⟩)] (by kernel_rfl) rfl rfl ⟨hk5, hSf.below hB2 hAf, hSg.below hB2 hAg⟩ (by simp only [AllP, InR, List.nil_append, List.cons_append]; (repeat' apply And.intro); all_goals first | exact True.intro | omega | (with_reducible exact hl1) | (with_reducible exact fun W h => elem_loadq hEf hin h.2.1) | (with_reducible exact fun W h => elem_loadq hEg hin h.2.2)) ?_
    refine d1 rfl rfl (fun _ => ⟨hk5, hSf.below hB2 hAf, hSg.below hB2 hAg⟩) ?_
    have hL2 : i * (2 * L + 1) ≤ n * (2 * L + 1) := Nat.mul_le_mul_right _ hi
    have hL3 : 1 * (2 * L + 1) ≤ n * (2 * L + 1) := Nat.mul_le_mul_right _ (by omega)
    refine call (f := 58) rfl rfl cb58 (rtimesq_calls (f i) (g i) L L (by omega) (by omega) _ _ w2 ((hEf.2 i hin).stay hB2) ((hEg.2 i hin).stay hB2) (hfs i hin) (hgs i hin)) ?_
    rintro v w3 ⟨hm, hB3⟩
    have hk5 := hk5.below hB3 hk5.lt
    have hk4 := hk4.below hB3 hk4.lt
    have hB3' := bl_tr hB2 hB3 hB2.size
    have hBB := bl_tr hB2' hB3 hB2'.size
    refine ⟨_, rfl, d2 ?_⟩
    refine d1 rfl rfl (fun _ => ⟨hk5, hSf.below hB3' hAf, hSg.below hB3' hAg⟩) ?_
    refine call (f := 56) rfl rfl cb56 (rplus_calls (sm i (fun t => f t * g t)) (f i * g i) 1000000 (by omega) _ _ w3 (hfq.stay hBB) hm (small_mono (sm_small hfs hgs i hi) (by omega)) (small_mono (small_mul (hfs i hin) (hgs i hin)) (by omega))) ?_
    rintro v w4 ⟨hs4, hB4⟩
    obtain ⟨u1, u2, u3, u4, u5, u6, u7, rfl⟩ := hs4.shape
    have hk5 := hk5.below hB4 hk5.lt
    have hk4 := hk4.below hB4 hk4.lt
    have hB4' := bl_tr hB3' hB4 hB3'.size
    refine ⟨_, rfl, d2 ?_⟩
    refine d1 rfl rfl (fun _ => ⟨hk5, hSf.below hB4' hAf, hSg.below hB4' hAg⟩) ?_
    refine st U rfl rfl rfl rfl rfl rfl rfl rfl rfl rfl (hk5) ?_
    intro w5 hk5' hg5 hs5
    have hB5 := hB4'.grown hg5 hB4'.size (fun k e => by cases e; omega)
    have hk4 := hk4.keep hg5 (by intro e; cases e; omega)
    refine d2 ?_; refine dend rfl (fun h => by cases h) ?_
    refine dr U 600 rfl (by first | exact True.intro | (simp only [AllP, InR, List.nil_append, List.cons_append, and_true]; omega)) ?_
    refine rend _ _ ⟨i + 1, u1, u2, u3, u4, u5, u6, u7, rfl, by omega, hk5', hk4, hs4.push hg5 (fun g e => by cases e; exact hk5.tg), hB5, rfl⟩ (by omega) ⟨rfl, rfl, rfl, rfl, iv (by omega), trivial⟩
  · obtain rfl : i = n := by omega
    refine dr U 600 rfl trivial ?_
    refine lg rfl ag_q rfl rfl hk5 rfl ?_
    refine st U rfl rfl rfl rfl rfl rfl rfl rfl rfl rfl (hk4) ?_
    intro w4 hk6 hg4 hs4
    refine dr U 600 rfl trivial ?_
    exact retS Tryz.results93 (vs := [_]) ⟨⟨_, rfl, run_load_agg ag_q hk6 rfl⟩, trivial⟩ ⟨_, rfl, hfq.push hg4 (fun g e => by cases e; exact hk4.tg), hB.grown hg4 hB.size (fun k e => by cases e; omega)⟩

theorem gapply_calls (m n L : Nat) (f : Nat → Nat → Rat) (g : Nat → Rat) (hL : n * (2 * L + 1) + 1 ≤ 1000000) (hfs : ∀ k, k < m → ∀ i, i < n → Small L (f k i)) (hgs : ∀ i, i < n → Small L (g i)) (a b : Option Addr) (c d : Nat) (w : World) (hf : MatQ w a m n f) (hg : VecQ w b n g) (hn : n ≤ 1000000) (hm : m ≤ 1000000) :
    Calls Tryz.prog 69 #[.slice a m c, .slice b n d] w (Ret fun v w' => (∃ a' c', v = .slice a' m c' ∧ m ≤ c' ∧ VecQ w' a' m (fun k => sm n (fun t => f k t * g t))) ∧ Below w.heap.size w w') := by
  obtain ⟨A, C, hSl, hV, hTb⟩ := hf
  have hAb := fun g hg => (hTb g hg).lt
  refine enter Tryz.func69 rfl Tryz.ntmps69 (Nat.le_of_ble_eq_true rfl) ?_
  refine dr U 600 rfl trivial ?_
  refine loopR (fun fr w' mm => ∃ (i : Nat) (a2 : Option Addr) (c2 : Nat) (cs : List Value), fr = [(0, .slice a m c), (1, .slice b n d), (5, .slice a2 i c2), (6, .int .i64 (i : Nat))] ∧ i ≤ m ∧
      w'.ownsRow w.heap.size 75 3 (.slice a2 i c2) i cs ∧ ElsQ w' cs i (fun k => sm n (fun t => f k t * g t)) ∧ Below w.heap.size w w' ∧ mm = m - i)
    ⟨0, none, 0, [], rfl, by omega, ⟨rfl, .inl ⟨rfl, rfl⟩⟩, ElsQ.nil _ _, Below.refl _ _, rfl⟩ ⟨rfl, rfl, rfl, rfl, trivial⟩ ?_
  rintro fr w1 mm ⟨i, a2, c2, cs, rfl, hi, ho, hE, hB, rfl⟩
  refine dr U 600 rfl trivial ?_
  refine cS rfl rfl rfl rfl (fun hq => ?_) (fun hq => ?_)
  · have him : i < m := by omega
    refine dr U 600 rfl trivial ?_
    refine il U rfl rfl rfl rfl rfl rfl rfl (fun _ => rfl) rfl i rfl him (hSl.below hB hAb) (rws_get him) ?_
    refine dr U 600 rfl trivial ?_
    refine call (f := 93) rfl rfl cb93 (gdot_calls n L (f i) g hL (hfs i him) hgs (A i) b (C i) d w1 ((hV i him).1.stay hB) (hg.stay hB) hn) ?_
    rintro v w2 ⟨hr, hB2⟩
    have ho2 := own_bw ho hB2
    have hE2 := hE.stay hB2
    have hB2' := bl_tr hB hB2 hB.size
    obtain ⟨u1, u2, u3, u4, u5, u6, u7, rfl⟩ := hr.shape
    refine ⟨_, rfl, ?_⟩
    refine aps U rfl rfl rfl rfl rfl rfl rfl rfl (fun _ => rfl) rfl (fun _ => rfl) rfl rfl rfl ho2 hB2'.size (by omega) rfl ?_
    intro a5 c5 w5 ho5 hg5
    have hB5 := hB2'.grown hg5 hB2'.size (fun g e => (own_block ho2 g e).1)
    have hE5 := (hE2.push hg5 (fun g e => own_tag ho2 g e)).snoc (hr.push hg5 (fun g e => own_tag ho2 g e))
    refine dr U 600 rfl (by first | exact True.intro | (simp only [AllP, InR, List.nil_append, List.cons_append, and_true]; omega)) ?_
    exact rend _ _ ⟨i + 1, a5, c5, _, rfl, by omega, ho5, hE5, hB5, rfl⟩ (by omega) ⟨rfl, rfl, rfl, iv (by omega), trivial⟩
  · obtain rfl : i = m := by omega
    refine dr U 600 rfl trivial ?_
    exact ret Tryz.results69 rfl ⟨_, rfl, ⟨a2, c2, rfl, own_cap3 ho, own_vecq ho hE⟩, hB⟩
end Go.Proofs.YtfdekppnilffeaaGreatDoor
end
section
set_option linter.unusedSimpArgs false
set_option linter.unusedVariables false
set_option maxHeartbeats 2000000
namespace Go.Proofs.YtfdekppnilffeaaGreatDoor
open Go Go.Proofs Go.RowKit Go.Lib


theorem gscale_calls (n K L : Nat) (f : Nat → Rat) (by' : Rat) (hK : K ≤ 1000000000) (hL : L ≤ 1000000000) (hfs : ∀ i, i < n → Small K (f i)) (hbs : Small L by') (a : Option Addr) (c : Nat) (v : Value) (w : World) (hf : VecQ w a n f) (hb : QR w v by') (hn : n ≤ 1000000) :
    Calls Tryz.prog 96 #[.slice a n c, v] w (Ret fun v w' => (∃ a' c', v = .slice a' n c' ∧ n ≤ c' ∧ VecQ w' a' n (fun t => f t * by')) ∧ Below w.heap.size w w') := by
  obtain ⟨csf, hEf, hSf, hTf⟩ := hf
  have hAf := fun g hg => (hTf g hg).lt
  obtain ⟨y1, y2, y3, y4, y5, y6, y7, rfl⟩ := hb.shape
  refine enter Tryz.func96 rfl Tryz.ntmps96 (Nat.le_of_ble_eq_true rfl) ?_
  refine dr U 600 rfl trivial ?_
  refine bx rfl rfl rfl rfl ?_
  intro b3 w0 hb3 hs0 hk3 hg0
  have hB0 : Below w.heap.size w w0 := (Below.refl _ _).grown hg0 (Nat.le_refl _) (fun k e => by cases e)
  refine dr U 600 rfl trivial ?_
  refine loopR (fun fr w' mm => ∃ (i : Nat) (a2 : Option Addr) (c2 : Nat) (cs : List Value), fr = [(0, .slice a n c), (3, .pointer (some ⟨b3, 0, none⟩)), (5, .slice a2 i c2), (6, .int .i64 (i : Nat))] ∧ i ≤ n ∧
      w'.ownsRow w0.heap.size 75 3 (.slice a2 i c2) i cs ∧ ElsQ w' cs i (fun t => f t * by') ∧ Below w0.heap.size w0 w' ∧ mm = n - i)
    ⟨0, none, 0, [], rfl, by omega, ⟨rfl, .inl ⟨rfl, rfl⟩⟩, ElsQ.nil _ _, Below.refl _ _, rfl⟩ ⟨rfl, rfl, rfl, rfl, trivial⟩ ?_
  rintro fr w1 mm ⟨i, a2, c2, cs, rfl, hi, ho, hE, hB, rfl⟩
  have hBw := bl_tr hB0 hB hB0.size
  refine dr U 600 rfl trivial ?_
  refine cS rfl rfl rfl rfl (fun hq => ?_) (fun hq => ?_)
  · have hin : i < n := by omega
    obtain ⟨ga, oa, rfl, _⟩ := hSf.at (j := i * 3) (by rw [hEf.1]; omega)
    refine dr U 600 rfl trivial ?_
    refine dwn 9 (fun W => Bk W b3 75 [.bool y1, .slice y2 y3 y4, .slice y5 y6 y7] ∧ Sl W (some ⟨ga, oa, none⟩) csf) hmo ?_
    intro w5 hh5 hg5
    have hB15 : Below w1.heap.size w1 w5 := (Below.refl _ _).grown hg5 (Nat.le_refl _) (fun k e => by cases e)
    have hB5 := bl_tr hB hB15 hB.size
    have hBw5 := bl_tr hBw hB15 hBw.size
    have hk35 := hk3.below hB5 hk3.lt
    have hl5 : ∀ W, (Bk W b3 75 [.bool y1, .slice y2 y3 y4, .slice y5 y6 y7] ∧ Sl W (some ⟨ga, oa, none⟩) csf) → (loadVar 75 ⟨b3, 0, none⟩).run Tryz.prog W = .ok (.agg ⟨[.bool y1, .slice y2 y3 y4, .slice y5 y6 y7]⟩) W := fun W h => run_load_agg ag_q h.1 rfl
    refine dq U [0,1,2,3,4,5] [(4, .agg ⟨el csf i⟩), (5, .agg ⟨[.bool y1, .slice y2 y3 y4, .slice y5 y6 y7]⟩)] (by kernel_rfl) rfl rfl ⟨hk35, hSf.below hBw5 hAf⟩ (by simp only [AllP, InR, List.nil_append, List.cons_append]; (repeat' apply And.intro); all_goals first | exact True.intro | omega | (with_reducible exact hl5) | (with_reducible exact fun W h => elem_loadq hEf hin h.2)) ?_
    refine d1 rfl rfl (fun _ => ⟨hk35, hSf.below hBw5 hAf⟩) ?_
    refine call (f := 58) rfl rfl cb58 (rtimesq_calls (f i) by' K L hK hL _ _ w5 ((hEf.2 i hin).stay hBw5) (hb.stay hBw5) (hfs i hin) hbs) ?_
    rintro v w6 ⟨hm, hB6⟩
    have hB6' := bl_tr hB5 hB6 hB5.size
    have ho6 := own_bw (own_bw ho hB15) hB6
    have hE6 := (hE.stay hB15).stay hB6
    have hBw6 := bl_tr hBw5 hB6 hBw5.size
    obtain ⟨u1, u2, u3, u4, u5, u6, u7, rfl⟩ := hm.shape
    refine ⟨_, rfl, d2 ?_⟩
    refine d1 rfl rfl (fun _ => ⟨hk3.below hB6' hk3.lt, hSf.below hBw6 hAf⟩) ?_
    refine bsS U [[.bool u1, .slice u2 u3 u4, .slice u5 u6 u7]] rfl rfl rfl rfl rfl rfl (by decide) (by decide) (by intro cs h; simp at h; subst h; rfl) ?_
    intro w7 hk8 hs7 hg7
    have hB67 : Below w6.heap.size w6 w7 := (Below.refl _ _).grown hg7 (Nat.le_refl _) (fun k e => by cases e)
    have hB7 := bl_tr hB6' hB67 hB6'.size
    have ho7 := own_bw ho6 hB67
    have hE7 := hE6.stay hB67
    have hr7 := hm.stay hB67
    refine d2 ?_
    have hBw7 := bl_tr hBw6 hB67 hBw6.size
    refine d1 rfl rfl (fun _ => ⟨hk3.below hB7 hk3.lt, hSf.below hBw7 hAf⟩) ?_
    refine aw U rfl rfl rfl rfl rfl rfl rfl rfl rfl ho7 (hk8.sl 0) rfl (by intro u hu; simp at hu; rcases hu with rfl | rfl | rfl <;> rfl) hB7.size (by omega) rfl ?_
    intro a9 c9 w9 ho9 hg9
    have hB9 := hB7.grown hg9 hB7.size (fun g e => (own_block ho7 g e).1)
    have htk := own_tag ho7
    have hE9 := (hE7.push hg9 htk).snoc (hr7.push hg9 htk)
    refine d2 ?_
    have hBw9 := bl_tr hB0 hB9 hB0.size
    refine d1 rfl rfl (fun _ => ⟨hk3.below hB9 hk3.lt, hSf.below hBw9 hAf⟩) ?_
    refine dr U 600 rfl trivial ?_
    refine d3 ?_; refine dend rfl (fun h => by cases h) ?_
    refine dr U 600 rfl (by first | exact True.intro | (simp only [AllP, InR, List.nil_append, List.cons_append, and_true]; omega)) ?_
    exact rend _ _ ⟨i + 1, a9, c9, _, rfl, by omega, ho9, hE9, hB9, rfl⟩ (by omega) ⟨rfl, rfl, rfl, iv (by omega), trivial⟩
  · obtain rfl : i = n := by omega
    refine dr U 600 rfl trivial ?_
    exact ret Tryz.results96 rfl ⟨_, rfl, ⟨a2, c2, rfl, own_cap3 ho, own_vecq ho hE⟩, hBw⟩

theorem gcombine_calls (n K L M : Nat) (f g : Nat → Rat) (by' : Rat) (hK : K ≤ 1000000) (hL : L + M ≤ K) (hfs : ∀ i, i < n → Small K (f i)) (hgs : ∀ i, i < n → Small L (g i)) (hbs : Small M by') (a b : Option Addr) (c d : Nat) (v : Value) (w : World) (hf : VecQ w a n f) (hg : VecQ w b n g) (hb : QR w v by') (hn : n ≤ 1000000) :
    Calls Tryz.prog 98 #[.slice a n c, .slice b n d, v] w (Ret fun v w' => (∃ a' c', v = .slice a' n c' ∧ n ≤ c' ∧ VecQ w' a' n (fun t => f t + g t * by')) ∧ Below w.heap.size w w') := by
  obtain ⟨csf, hEf, hSf, hTf⟩ := hf
  have hAf := fun g hg => (hTf g hg).lt
  obtain ⟨csg, hEg, hSg, hTg⟩ := hg
  have hAg := fun g hg => (hTg g hg).lt
  obtain ⟨y1, y2, y3, y4, y5, y6, y7, rfl⟩ := hb.shape
  refine enter Tryz.func98 rfl Tryz.ntmps98 (Nat.le_of_ble_eq_true rfl) ?_
  refine dr U 600 rfl trivial ?_
  refine bx rfl rfl rfl rfl ?_
  intro b3 w0 hb3 hs0 hk3 hg0
  have hB0 : Below w.heap.size w w0 := (Below.refl _ _).grown hg0 (Nat.le_refl _) (fun k e => by cases e)
  refine dr U 600 rfl trivial ?_
  refine loopR (fun fr w' mm => ∃ (i : Nat) (a2 : Option Addr) (c2 : Nat) (cs : List Value), fr = [(0, .slice a n c), (1, .slice b n d), (5, .pointer (some ⟨b3, 0, none⟩)), (7, .slice a2 i c2), (8, .int .i64 (i : Nat))] ∧ i ≤ n ∧
      w'.ownsRow w0.heap.size 75 3 (.slice a2 i c2) i cs ∧ ElsQ w' cs i (fun t => f t + g t * by') ∧ Below w0.heap.size w0 w' ∧ mm = n - i)
    ⟨0, none, 0, [], rfl, by omega, ⟨rfl, .inl ⟨rfl, rfl⟩⟩, ElsQ.nil _ _, Below.refl _ _, rfl⟩ ⟨rfl, rfl, rfl, rfl, rfl, trivial⟩ ?_
  rintro fr w1 mm ⟨i, a2, c2, cs, rfl, hi, ho, hE, hB, rfl⟩
  have hBw := bl_tr hB0 hB hB0.size
  refine dr U 600 rfl trivial ?_
  refine cS rfl rfl rfl rfl (fun hq => ?_) (fun hq => ?_)
  · have hin : i < n := by omega
    obtain ⟨ga, oa, rfl, _⟩ := hSf.at (j := i * 3) (by rw [hEf.1]; omega)
    obtain ⟨gb, ob, rfl, _⟩ := hSg.at (j := i * 3) (by rw [hEg.1]; omega)
    refine dr U 600 rfl trivial ?_
    refine dwn 14 (fun W => Bk W b3 75 [.bool y1, .slice y2 y3 y4, .slice y5 y6 y7] ∧ Sl W (some ⟨ga, oa, none⟩) csf ∧ Sl W (some ⟨gb, ob, none⟩) csg) hmo ?_
    intro w5 hh5 hg5
    have hB15 : Below w1.heap.size w1 w5 := (Below.refl _ _).grown hg5 (Nat.le_refl _) (fun k e => by cases e)
    have hB5 := bl_tr hB hB15 hB.size
    have hBw5 := bl_tr hBw hB15 hBw.size
    have hk35 := hk3.below hB5 hk3.lt
    have hl5 : ∀ W, (Bk W b3 75 [.bool y1, .slice y2 y3 y4, .slice y5 y6 y7] ∧ Sl W (some ⟨ga, oa, none⟩) csf ∧ Sl W (some ⟨gb, ob, none⟩) csg) → (loadVar 75 ⟨b3, 0, none⟩).run Tryz.prog W = .ok (.agg ⟨[.bool y1, .slice y2 y3 y4, .slice y5 y6 y7]⟩) W := fun W h => run_load_agg ag_q h.1 rfl
    refine dq U [0,1,2,3,4,5,6,7,8,9] [(4, .agg ⟨el csf i⟩), (8, .agg ⟨el csg i⟩), (9, .agg ⟨[.bool y1, .slice y2 y3 y4, .slice y5 y6 y7]⟩)] (by kernel_rfl) rfl rfl ⟨hk35, hSf.below hBw5 hAf, hSg.below hBw5 hAg⟩ (by simp only [AllP, InR, List.nil_append, List.cons_append]; (repeat' apply And.intro); all_goals first | exact True.intro | omega | (with_reducible exact hl5) | (with_reducible exact fun W h => elem_loadq hEf hin h.2.1) | (with_reducible exact fun W h => elem_loadq hEg hin h.2.2)) ?_
    refine d1 rfl rfl (fun _ => ⟨hk35, hSf.below hBw5 hAf, hSg.below hBw5 hAg⟩) ?_
    refine call (f := 58) rfl rfl cb58 (rtimesq_calls (g i) by' L M (by omega) (by omega) _ _ w5 ((hEg.2 i hin).stay hBw5) (hb.stay hBw5) (hgs i hin) hbs) ?_
    rintro v w6 ⟨hm0, hB6⟩
    have hB6' := bl_tr hB5 hB6 hB5.size
    have hBw6 := bl_tr hBw5 hB6 hBw5.size
    refine ⟨_, rfl, d2 ?_⟩
    refine d1 rfl rfl (fun _ => ⟨hk3.below hB6' hk3.lt, hSf.below hBw6 hAf, hSg.below hBw6 hAg⟩) ?_
    refine call (f := 56) rfl rfl cb56 (rplus_calls (f i) (g i * by') K hK _ _ w6 ((hEf.2 i hin).stay hBw6) hm0 (hfs i hin) (small_mono (small_mul (hgs i hin) hbs) hL)) ?_
    rintro v w8 ⟨hm, hB8⟩
    have hB8' := bl_tr hB6' hB8 hB6'.size
    have hBw8 := bl_tr hBw6 hB8 hBw6.size
    have ho8 := own_bw (own_bw (own_bw ho hB15) hB6) hB8
    have hE8 := ((hE.stay hB15).stay hB6).stay hB8
    obtain ⟨u1, u2, u3, u4, u5, u6, u7, rfl⟩ := hm.shape
    refine ⟨_, rfl, d2 ?_⟩
    refine d1 rfl rfl (fun _ => ⟨hk3.below hB8' hk3.lt, hSf.below hBw8 hAf, hSg.below hBw8 hAg⟩) ?_
    refine bsS U [[.bool u1, .slice u2 u3 u4, .slice u5 u6 u7]] rfl rfl rfl rfl rfl rfl (by decide) (by decide) (by intro cs h; simp at h; subst h; rfl) ?_
    intro w7 hk8 hs7 hg7
    have hB67 : Below w8.heap.size w8 w7 := (Below.refl _ _).grown hg7 (Nat.le_refl _) (fun k e => by cases e)
    have hB7 := bl_tr hB8' hB67 hB8'.size
    have ho7 := own_bw ho8 hB67
    have hE7 := hE8.stay hB67
    have hr7 := hm.stay hB67
    refine d2 ?_
    have hBw7 := bl_tr hBw8 hB67 hBw8.size
    refine d1 rfl rfl (fun _ => ⟨hk3.below hB7 hk3.lt, hSf.below hBw7 hAf, hSg.below hBw7 hAg⟩) ?_
    refine aw U rfl rfl rfl rfl rfl rfl rfl rfl rfl ho7 (hk8.sl 0) rfl (by intro u hu; simp at hu; rcases hu with rfl | rfl | rfl <;> rfl) hB7.size (by omega) rfl ?_
    intro a9 c9 w9 ho9 hg9
    have hB9 := hB7.grown hg9 hB7.size (fun g e => (own_block ho7 g e).1)
    have htk := own_tag ho7
    have hE9 := (hE7.push hg9 htk).snoc (hr7.push hg9 htk)
    refine d2 ?_
    have hBw9 := bl_tr hB0 hB9 hB0.size
    refine d1 rfl rfl (fun _ => ⟨hk3.below hB9 hk3.lt, hSf.below hBw9 hAf, hSg.below hBw9 hAg⟩) ?_
    refine dr U 600 rfl trivial ?_
    refine d3 ?_; refine dend rfl (fun h => by cases h) ?_
    refine dr U 600 rfl (by first | exact True.intro | (simp only [AllP, InR, List.nil_append, List.cons_append, and_true]; omega)) ?_
    exact rend _ _ ⟨i + 1, a9, c9, _, rfl, by omega, ho9, hE9, hB9, rfl⟩ (by omega) ⟨rfl, rfl, rfl, rfl, iv (by omega), trivial⟩
  · obtain rfl : i = n := by omega
    refine dr U 600 rfl trivial ?_
    exact ret Tryz.results98 rfl ⟨_, rfl, ⟨a2, c2, rfl, own_cap3 ho, own_vecq ho hE⟩, hBw⟩

theorem gtimes_calls (m n p L : Nat) (f g : Nat → Nat → Rat) (hL : n * (2 * L + 1) + 1 ≤ 1000000) (hfs : ∀ i, i < m → ∀ t, t < n → Small L (f i t)) (hgs : ∀ t, t < n → ∀ k, k < p → Small L (g t k)) (hn : 0 < n) (hm' : m ≤ 1000000) (hn' : n ≤ 1000000) (hp' : p ≤ 1000000)
    (a b : Option Addr) (c d : Nat) (w : World) (hf : MatQ w a m n f) (hg : MatQ w b n p g) :
    Calls Tryz.prog 66 #[.slice a m c, .slice b n d] w (Ret fun v w' => (∃ a' c', v = .slice a' m c' ∧ MatQ w' a' m p (mmul n f g)) ∧ Below w.heap.size w w') := by
  obtain ⟨A, C, hSl, hV, hTb⟩ := hf
  have hAb := fun g hg => (hTb g hg).lt
  refine enter Tryz.func66 rfl Tryz.ntmps66 (Nat.le_of_ble_eq_true rfl) ?_
  refine dr U 600 rfl trivial ?_
  refine call (f := 64) rfl rfl cb64 (gflip_calls n p g hn hn' hp' b d w hg) ?_
  rintro v w0 ⟨⟨af, cf, rfl, hM⟩, hB0⟩
  obtain ⟨A1, C1, hSl1, hV1, hTb1⟩ := hM
  have hAb1 := fun g hg => (hTb1 g hg).lt
  refine ⟨_, rfl, ?_⟩
  refine dr U 600 rfl trivial ?_
  refine loopR (fun fr w' mm => ∃ (i : Nat) (a2 : Option Addr) (c2 : Nat) (A2 : Nat → Option Addr) (C2 : Nat → Nat), fr = [(0, .slice a m c), (5, .slice af p cf), (6, .slice a2 i c2), (7, .int .i64 (i : Nat))] ∧ i ≤ m ∧
      w'.ownsRow w0.heap.size 93 1 (.slice a2 i c2) i (rws i p A2 C2) ∧ RwsQ w' i p A2 C2 (mmul n f g) ∧ Below w0.heap.size w0 w' ∧ mm = m - i)
    ⟨0, none, 0, fun _ => none, fun _ => 0, rfl, by omega, ⟨rfl, .inl ⟨rfl, rfl⟩⟩, RwsQ.none _ _ _ _ _, Below.refl _ _, rfl⟩ ⟨rfl, rfl, rfl, rfl, trivial⟩ ?_
  rintro fr w1 mm ⟨i, a2, c2, A2, C2, rfl, hi, ho, hR, hB, rfl⟩
  have hBw := bl_tr hB0 hB hB0.size
  refine dr U 600 rfl trivial ?_
  refine cS rfl rfl rfl rfl (fun hq => ?_) (fun hq => ?_)
  · have him : i < m := by omega
    refine dr U 600 rfl trivial ?_
    refine loopR (fun fr w' mm => ∃ (k : Nat) (a3 : Option Addr) (c3 : Nat) (cs : List Value), fr = [(0, .slice a m c), (5, .slice af p cf), (6, .slice a2 i c2), (7, .int .i64 (i : Nat)), (8, .slice a3 k c3), (9, .int .i64 (k : Nat))] ∧ k ≤ p ∧
        w'.ownsRow w1.heap.size 75 3 (.slice a3 k c3) k cs ∧ ElsQ w' cs k (mmul n f g i) ∧ Below w1.heap.size w1 w' ∧ mm = p - k)
      ⟨0, none, 0, [], rfl, by omega, ⟨rfl, .inl ⟨rfl, rfl⟩⟩, ElsQ.nil _ _, Below.refl _ _, rfl⟩ ⟨rfl, rfl, rfl, rfl, rfl, rfl, trivial⟩ ?_
    rintro fr w2 mm ⟨k, a3, c3, cs, rfl, hk, ho3, hE3, hB12, rfl⟩
    have hB2 := bl_tr hB hB12 hB.size
    have hBw2 := bl_tr hBw hB12 hBw.size
    refine dr U 600 rfl trivial ?_
    refine cS rfl rfl rfl rfl (fun hq => ?_) (fun hq => ?_)
    · have hkp : k < p := by omega
      obtain ⟨ga, oa, rfl, _⟩ := hSl.at (j := i) (by rw [rws_length]; omega)
      obtain ⟨gb, ob, rfl, _⟩ := hSl1.at (j := k) (by rw [rws_length]; omega)
      refine dr U 600 rfl trivial ?_
      refine dwn 12 (fun W => Sl W (some ⟨ga, oa, none⟩) (rws m n A C) ∧ Sl W (some ⟨gb, ob, none⟩) (rws p n A1 C1)) hmo ?_
      intro w5 hh5 hg5
      have hB25 : Below w2.heap.size w2 w5 := (Below.refl _ _).grown hg5 (Nat.le_refl _) (fun k e => by cases e)
      have hB5 := bl_tr hB12 hB25 hB12.size
      have hBo5 := bl_tr hB2 hB25 hB2.size
      have hBw5 := bl_tr hBw2 hB25 hBw2.size
      have hl4 : ∀ W, (Sl W (some ⟨ga, oa, none⟩) (rws m n A C) ∧ Sl W (some ⟨gb, ob, none⟩) (rws p n A1 C1)) → (loadVar 93 ((⟨ga, oa, none⟩ : Addr).add (((i : Nat) : Int).toNat * 1))).run Tryz.prog W = .ok (.slice (A i) n (C i)) W := fun W h => run_load_cell U rfl (by simpa [add_plain] using slc2 h.1 (rws_get him))
      have hl8 : ∀ W, (Sl W (some ⟨ga, oa, none⟩) (rws m n A C) ∧ Sl W (some ⟨gb, ob, none⟩) (rws p n A1 C1)) → (loadVar 93 ((⟨gb, ob, none⟩ : Addr).add (((k : Nat) : Int).toNat * 1))).run Tryz.prog W = .ok (.slice (A1 k) n (C1 k)) W := fun W h => run_load_cell U rfl (by simpa [add_plain] using slc2 h.2 (rws_get hkp))
      refine dq U [0,1,2,3,4,5,6,7,8] [(4, .slice (A i) n (C i)), (8, .slice (A1 k) n (C1 k))] (by kernel_rfl) rfl rfl ⟨hSl.below hBw5 hAb, hSl1.below hBo5 hAb1⟩ (by simp only [AllP, InR, List.nil_append, List.cons_append]; (repeat' apply And.intro); all_goals first | exact True.intro | omega | (with_reducible exact hl4) | (with_reducible exact hl8)) ?_
      refine d1 rfl rfl (fun _ => ⟨hSl.below hBw5 hAb, hSl1.below hBo5 hAb1⟩) ?_
      refine call (f := 93) rfl rfl cb93 (gdot_calls n L (f i) (fun t => g t k) hL (hfs i him) (fun t ht => hgs t ht k hkp) (A i) (A1 k) (C i) (C1 k) w5 ((hV i him).1.stay hBw5) ((hV1 k hkp).1.stay hBo5) hn') ?_
      rintro v w6 ⟨hm, hB6⟩
      have hB6' := bl_tr hB5 hB6 hB5.size
      have hBo6 := bl_tr hBo5 hB6 hBo5.size
      have hBw6 := bl_tr hBw5 hB6 hBw5.size
      have ho6 := own_bw (own_bw ho3 hB25) hB6
      have hE6 := (hE3.stay hB25).stay hB6
      obtain ⟨u1, u2, u3, u4, u5, u6, u7, rfl⟩ := hm.shape
      refine ⟨_, rfl, d2 ?_⟩
      refine d1 rfl rfl (fun _ => ⟨hSl.below hBw6 hAb, hSl1.below hBo6 hAb1⟩) ?_
      refine bsS U [[.bool u1, .slice u2 u3 u4, .slice u5 u6 u7]] rfl rfl rfl rfl rfl rfl (by decide) (by decide) (by intro cs h; simp at h; subst h; rfl) ?_
      intro w7 hk8 hs7 hg7
      have hB67 : Below w6.heap.size w6 w7 := (Below.refl _ _).grown hg7 (Nat.le_refl _) (fun k e => by cases e)
      have hB7 := bl_tr hB6' hB67 hB6'.size
      have ho7 := own_bw ho6 hB67
      have hE7 := hE6.stay hB67
      have hr7 := hm.stay hB67
      refine d2 ?_
      have hBw7 := bl_tr hBw6 hB67 hBw6.size
      have hBo7 := bl_tr hBo6 hB67 hBo6.size
      refine d1 rfl rfl (fun _ => ⟨hSl.below hBw7 hAb, hSl1.below hBo7 hAb1⟩) ?_
      refine aw U rfl rfl rfl rfl rfl rfl rfl rfl rfl ho7 (hk8.sl 0) rfl (by intro u hu; simp at hu; rcases hu with rfl | rfl | rfl <;> rfl) hB7.size (by omega) rfl ?_
      intro a9 c9 w9 ho9 hg9
      have hB9 := hB7.grown hg9 hB7.size (fun g e => (own_block ho7 g e).1)
      have htk := own_tag ho7
      have hE9 := (hE7.push hg9 htk).snoc (hr7.push hg9 htk)
      refine d2 ?_
      have hBo9 := bl_tr hB hB9 hB.size
      have hBw9 := bl_tr hBw hB9 hBw.size
      refine d1 rfl rfl (fun _ => ⟨hSl.below hBw9 hAb, hSl1.below hBo9 hAb1⟩) ?_
      refine dr U 600 rfl trivial ?_
      refine d3 ?_; refine dend rfl (fun h => by cases h) ?_
      refine dr U 600 rfl (by first | exact True.intro | (simp only [AllP, InR, List.nil_append, List.cons_append, and_true]; omega)) ?_
      exact rend _ _ ⟨k + 1, a9, c9, _, rfl, by omega, ho9, hE9, hB9, rfl⟩ (by omega) ⟨rfl, rfl, rfl, rfl, rfl, iv (by omega), trivial⟩
    · obtain rfl : p = k := by omega
      have ho2 := own_bw ho hB12
      have hR2 := hR.stay hB12
      have hv3 := own_vecq ho3 hE3
      have hc3 := own_cap3 ho3
      refine dr U 600 rfl trivial ?_
      refine ap U (v := (.slice a3 p c3)) rfl rfl rfl rfl rfl rfl (fun _ => rfl) rfl (fun _ => rfl) rfl rfl rfl ho2 hB2.size (by omega) (by decide) ?_
      intro a5 c5 w5 ho5 hg5
      have hB5 := hB2.grown hg5 hB2.size (fun g e => (own_block ho2 g e).1)
      rw [rws_snoc] at ho5
      refine dr U 600 rfl (by first | exact True.intro | (simp only [AllP, InR, List.nil_append, List.cons_append, and_true]; omega)) ?_
      exact rend _ _ ⟨i + 1, a5, c5, _, _, rfl, by omega, ho5, ((hR2.push hg5 (own_tag ho2)).snoc (VecQ.push hv3 hg5 (own_tag ho2)) hc3), hB5, rfl⟩ (by omega) ⟨rfl, rfl, rfl, iv (by omega), trivial⟩
  · obtain rfl : i = m := by omega
    refine dr U 600 rfl trivial ?_
    exact ret Tryz.results66 rfl ⟨_, rfl, ⟨a2, c2, rfl, A2, C2, own_sl ho, hR, own_tag ho⟩, hBw⟩
end Go.Proofs.YtfdekppnilffeaaGreatDoor
end
section
set_option linter.unusedSimpArgs false
set_option linter.unusedVariables false
set_option maxHeartbeats 4000000
namespace Go.Proofs.YtfdekppnilffeaaGreatDoor
open Go Go.Proofs Go.RowKit Go.Lib

theorem VecQ.congr {w : World} {a : Option Addr} {n : Nat} {f g : Nat → Rat} (h : VecQ w a n f) (he : ∀ i, i < n → f i = g i) : VecQ w a n g := by
  obtain ⟨cs, h1, h2, h3⟩ := h
  exact ⟨cs, h1.congr he, h2, h3⟩
theorem RwsQ.congr {w : World} {m n : Nat} {A : Nat → Option Addr} {C : Nat → Nat} {f g : Nat → Nat → Rat} (h : RwsQ w m n A C f) (he : ∀ i, i < m → ∀ t, t < n → f i t = g i t) : RwsQ w m n A C g :=
  fun i hi => ⟨(h i hi).1.congr (he i hi), (h i hi).2⟩
theorem RwsQ.set {w : World} {m n : Nat} {A : Nat → Option Addr} {C : Nat → Nat} {f : Nat → Nat → Rat} {a : Option Addr} {c r : Nat} {f' : Nat → Rat} (h : RwsQ w m n A C f) (hv : VecQ w a n f') (hc : n ≤ c) : RwsQ w m n (upd A r a) (upd C r c) (upd f r f') := by
  intro i hi
  by_cases hir : i = r
  · subst hir; rw [upd_same, upd_same, upd_same]; exact ⟨hv, hc⟩
  · rw [upd_ne _ _ hir, upd_ne _ _ hir, upd_ne _ _ hir]; exact h i hi
theorem RwsQ.swap {w : World} {m n r i : Nat} {A : Nat → Option Addr} {C : Nat → Nat} {f : Nat → Nat → Rat} (h : RwsQ w m n A C f) (hr : r < m) (hi : i < m) : RwsQ w m n (upd (upd A r (A i)) i (A r)) (upd (upd C r (C i)) i (C r)) (swp r i f) := by
  intro j hj
  by_cases hji : j = i
  · subst hji
    rw [upd_same, upd_same]
    have : swp r j f j = f r := by
      unfold swp
      rw [if_pos rfl]
      split
      · rename_i h2; rw [h2]
      · rfl
    rw [this]; exact h r hr
  · rw [upd_ne _ _ hji, upd_ne _ _ hji]
    by_cases hjr : j = r
    · subst hjr
      rw [upd_same, upd_same]
      have : swp j i f j = f i := by unfold swp; rw [if_pos rfl]
      rw [this]; exact h i hi
    · rw [upd_ne _ _ hjr, upd_ne _ _ hjr]
      have : swp r i f j = f j := by unfold swp; rw [if_neg hjr, if_neg hji]
      rw [this]; exact h j hj

/-- What holds while the reference eliminates. -/
def RdqI (w w' : World) (base go c m n : Nat) (A : Nat → Option Addr) (C : Nat → Nat) (g : Mx) : Prop :=
  w'.ownsRow base 93 1 (.slice (some ⟨go, 0, none⟩) m c) m (rws m n A C) ∧ RwsQ w' m n A C g ∧ Below base w w'
theorem RdqI.step {w w1 w2 : World} {base go c m n : Nat} {A : Nat → Option Addr} {C : Nat → Nat} {g : Mx} (h : RdqI w w1 base go c m n A C g) (hb : Below w1.heap.size w1 w2) (hbase : base ≤ w.heap.size) : RdqI w w2 base go c m n A C g :=
  ⟨own_bw h.1 hb, h.2.1.stay hb, bl_base h.2.2 hb hbase⟩
theorem RdqI.congr {w w1 : World} {base go c m n : Nat} {A : Nat → Option Addr} {C : Nat → Nat} {g g' : Mx} (h : RdqI w w1 base go c m n A C g) (he : ∀ i, i < m → ∀ t, t < n → g i t = g' i t) : RdqI w w1 base go c m n A C g' :=
  ⟨h.1, h.2.1.congr he, h.2.2⟩
/-- A row's place is taken by another. -/
theorem RdqI.put {w w1 w2 : World} {base go c m n r : Nat} {A : Nat → Option Addr} {C : Nat → Nat} {g : Mx} {a : Option Addr} {d : Nat} {f' : Nat → Rat} (h : RdqI w w1 base go c m n A C g) (hr : r < m) (hv : VecQ w1 a n f') (hd : n ≤ d)
    (ho : w2.ownsRow base 93 1 (.slice (some ⟨go, 0, none⟩) m c) m ((rws m n A C).set r (.slice a n d))) (hg : w1.grownBy w2 (some go)) (hbase : base ≤ w.heap.size) : RdqI w w2 base go c m n (upd A r a) (upd C r d) (upd g r f') := by
  have htg : ∀ q, some go = some q → Tg w1 93 q := fun q e => by cases e; exact own_tag h.1 go rfl
  rw [rws_set hr] at ho
  exact ⟨ho, (h.2.1.push hg htg).set (hv.push hg htg) hd, h.2.2.grown hg (Nat.le_trans hbase h.2.2.size) (fun q e => by cases e; exact (own_block h.1 go rfl).1)⟩
/-- A row of numbers is somewhere. -/
theorem VecQ.at {w : World} {a : Option Addr} {n : Nat} {f : Nat → Rat} (h : VecQ w a n f) (hn : 0 < n) : ∃ g o cs, a = some ⟨g, o, none⟩ ∧ ElsQ w cs n f ∧ Sl w (some ⟨g, o, none⟩) cs ∧ g < w.heap.size := by
  obtain ⟨cs, h1, h2, h3⟩ := h
  obtain ⟨g, o, rfl, _⟩ := h2.at (j := 0) (by rw [h1.1]; omega)
  exact ⟨g, o, cs, rfl, h1, h2, (h3 g rfl).lt⟩

set_option maxRecDepth 100000 in
theorem greduce_calls (m n cols L : Nat) (f : Nat → Nat → Rat) (hn : 0 < n) (hcols : cols ≤ n) (hm' : m ≤ 1000000) (hn' : n ≤ 1000000) (hL : 3 * L ≤ 1000000)
    (hS : ∀ k, k < cols → ∀ i t, i < m → t < n → Small L ((gj m f k).1 i t)) (go c base : Nat) (A0 : Nat → Option Addr) (C0 : Nat → Nat) (w : World)
    (ho0 : w.ownsRow base 93 1 (.slice (some ⟨go, 0, none⟩) m c) m (rws m n A0 C0)) (hO0 : RwsQ w m n A0 C0 f) (hbase : base ≤ w.heap.size) :
    Calls Tryz.prog 71 #[.slice (some ⟨go, 0, none⟩) m c, .int .i64 (cols : Nat)] w (Ret fun v w' => v = .tuple ⟨[.slice (some ⟨go, 0, none⟩) m c, .int .i64 ((gj m f cols).2 : Nat)]⟩ ∧ ∃ A C, RdqI w w' base go c m n A C (gj m f cols).1) := by
  refine enter Tryz.func71 rfl Tryz.ntmps71 (Nat.le_of_ble_eq_true rfl) ?_
  refine dr U 600 rfl trivial ?_
  refine loopR (fun fr w' mm => ∃ (k : Nat) (g : Mx) (r : Nat) (A : Nat → Option Addr) (C : Nat → Nat), fr = [(0, .slice (some ⟨go, 0, none⟩) m c), (1, .int .i64 (cols : Nat)), (6, .int .i64 (r : Nat)), (7, .int .i64 (k : Nat))] ∧ k ≤ cols ∧ gj m f k = (g, r) ∧ RdqI w w' base go c m n A C g ∧ mm = cols - k)
    ⟨0, f, 0, A0, C0, rfl, by omega, rfl, ⟨ho0, hO0, Below.refl _ _⟩, rfl⟩ ⟨rfl, rfl, rfl, rfl, trivial⟩ ?_
  rintro fr w1 mm ⟨k, g, r, A, C, rfl, hk, hs, hI, rfl⟩
  have hle := gj_le m f k
  rw [hs] at hle
  obtain ⟨hrm, hrk⟩ : r ≤ m ∧ r ≤ k := hle
  refine dr U 600 rfl trivial ?_
  refine cS rfl rfl rfl rfl (fun hq => ?_) (fun hq => ?_)
  · have hkc : k < cols := by omega
    have hkn : k < n := by omega
    have hSg := hS k hkc
    rw [hs] at hSg
    have hSg : ∀ i t, i < m → t < n → Small L (g i t) := hSg
    refine dr U 600 rfl trivial ?_
    refine cS rfl rfl rfl rfl (fun hq1 => ?_) (fun hq1 => ?_)
    · have hr : r < m := by omega
      refine dr U 600 rfl trivial ?_
      refine loopR (fun fr w' mm => ∃ (i : Nat), fr = [(0, .slice (some ⟨go, 0, none⟩) m c), (1, .int .i64 (cols : Nat)), (6, .int .i64 (r : Nat)), (7, .int .i64 (k : Nat)), (8, .int .i64 (i : Nat))] ∧ r ≤ i ∧ i ≤ m ∧ (∀ j, r ≤ j → j < i → g j k = 0) ∧ RdqI w w' base go c m n A C g ∧ mm = m - i)
        ⟨r, rfl, by omega, by omega, fun j h1 h2 => by omega, hI, rfl⟩ ⟨rfl, rfl, rfl, rfl, rfl, trivial⟩ ?_
      rintro fr w2 mm ⟨i, rfl, hri, him, hz, hI, rfl⟩
      refine dr U 600 rfl trivial ?_
      refine cS rfl rfl rfl rfl (fun hq => ?_) (fun hq => ?_)
      · have hi : i < m := by omega
        refine dr U 600 rfl trivial ?_
        refine il U rfl rfl rfl rfl rfl rfl rfl (fun _ => rfl) rfl i rfl hi (own_sl hI.1) (rws_get hi) ?_
        refine dr U 600 rfl trivial ?_
        obtain ⟨⟨csi, hEi, hSi, hTi⟩, _⟩ := hI.2.1 i hi
        refine ig U rfl rfl rfl rfl ag_q rfl rfl (fun _ => rfl) rfl k rfl hkn hSi (fun j v hv => el_get hv) (el_length (by rw [hEi.1]; omega)) (by decide) ?_
        refine call (f := 95) rfl rfl cb95 (gzero_calls (g i k) (small_mono (hSg i k hi hkn) (by omega)) _ w2 (hEi.2 k hkn)) ?_
        rintro v w3 ⟨rfl, hB3⟩
        have hI := hI.step hB3 hbase
        refine ⟨_, rfl, ?_⟩
        by_cases hz0 : g i k = 0
        · rw [decide_eq_true hz0]
          refine dr U 600 rfl (by first | exact True.intro | (simp only [AllP, InR, List.nil_append, List.cons_append, and_true]; omega)) ?_
          refine rend _ _ ⟨i + 1, rfl, by omega, by omega, fun j h1 h2 => ?_, hI, rfl⟩ (by omega) ⟨rfl, rfl, rfl, rfl, iv (by omega), trivial⟩
          rcases Nat.lt_succ_iff_lt_or_eq.1 h2 with h | rfl
          · exact hz j h1 h
          · exact hz0
        rw [decide_eq_false hz0]
        have hgs := gj_succ_some hs hri hi hz0 hz
        refine dr U 600 rfl trivial ?_
        refine cF rfl rfl rfl ((by omega)) ?_; refine dr U 600 rfl trivial ?_
        refine dwn 13 (fun W => Sl W (some ⟨go, 0, none⟩) (rws m n A C)) hmo ?_
        intro w5 hh5 hg5
        have hB35 : Below w3.heap.size w3 w5 := (Below.refl _ _).grown hg5 (Nat.le_refl _) (fun k e => by cases e)
        have hI := hI.step hB35 hbase
        have hl7 : ∀ W, Sl W (some ⟨go, 0, none⟩) (rws m n A C) → (loadVar 93 ((⟨go, 0, none⟩ : Addr).add (((i : Nat) : Int).toNat * 1))).run Tryz.prog W = .ok (.slice (A i) n (C i)) W := fun W h => run_load_cell U rfl (by simpa [add_plain] using slc2 h (rws_get hi))
        have hl11 : ∀ W, Sl W (some ⟨go, 0, none⟩) (rws m n A C) → (loadVar 93 ((⟨go, 0, none⟩ : Addr).add (((r : Nat) : Int).toNat * 1))).run Tryz.prog W = .ok (.slice (A r) n (C r)) W := fun W h => run_load_cell U rfl (by simpa [add_plain] using slc2 h (rws_get hr))
        refine dq U [0,1,2,3,4,5,6,7,8,9,10,11,12] [(7, .slice (A i) n (C i)), (11, .slice (A r) n (C r))] (by kernel_rfl) rfl rfl (own_sl hI.1) (by simp only [AllP, InR, List.nil_append, List.cons_append]; (repeat' apply And.intro); all_goals first | exact True.intro | omega | (with_reducible exact hl7) | (with_reducible exact hl11)) ?_
        refine d1 rfl rfl (fun _ => own_sl hI.1) ?_
        refine so U (v := (.slice (A i) n (C i))) rfl rfl rfl rfl rfl rfl rfl r (by simp [add_plain]) hr hI.1 ?_
        intro w6 ho6 hg6 hs6
        have hvr := hI.2.1 r hr
        have htg6 : ∀ q, some go = some q → Tg w5 93 q := fun q e => by cases e; exact own_tag hI.1 go rfl
        have hR6 := hI.2.1.push hg6 htg6
        have hbg : base ≤ go := (own_block hI.1 go rfl).1
        have hBb := hI.2.2.grown hg6 (Nat.le_trans hbase hI.2.2.size) (fun q e => by cases e; exact hbg)
        rw [rws_set hr] at ho6
        refine d2 ?_
        refine d1 rfl rfl (fun h => by cases h) ?_
        refine ia U rfl rfl rfl rfl rfl rfl i rfl hi ?_
        refine d2 ?_
        refine d1 rfl rfl (fun h => by cases h) ?_
        refine so U (v := (.slice (A r) n (C r))) rfl rfl rfl rfl rfl rfl rfl i (by simp [add_plain]) hi ho6 ?_
        intro w7 ho7 hg7 hs7
        rw [rws_set hi] at ho7
        have htg7 : ∀ q, some go = some q → Tg w6 93 q := fun q e => by cases e; exact own_tag ho6 go rfl
        have hBb := hBb.grown hg7 (Nat.le_trans hbase hBb.size) (fun q e => by cases e; exact hbg)
        have hI : RdqI w w7 base go c m n (upd (upd A r (A i)) i (A r)) (upd (upd C r (C i)) i (C r)) (swp r i g) := ⟨ho7, (hR6.push hg7 htg7).swap hr hi, hBb⟩
        generalize upd (upd A r (A i)) i (A r) = A1 at hI
        generalize upd (upd C r (C i)) i (C r) = C1 at hI
        refine d2 ?_; refine dend rfl (fun h => by cases h) ?_
        have hpS : Small L (g i k) := hSg i k hi hkn
        have hS1 : ∀ a, a < m → ∀ t, t < n → Small L (swp r i g a t) := fun a ha t ht => by
          unfold swp
          split
          · exact hSg _ t hi ht
          · split
            · exact hSg r t hr ht
            · exact hSg a t ha ht
        have hgn : gnew r i k g = elm r k (scl r (g i k)⁻¹ (swp r i g)) := rfl
        have hpi := small_inv hz0 hpS
        have hsr : swp r i g r k = g i k := by unfold swp; rw [if_pos rfl]
        generalize g i k = p at *
        generalize swp r i g = g1 at *
        refine dr U 600 rfl trivial ?_
        obtain ⟨gr, orr, csr, hAr, hEr, hSr, hltr⟩ := (hI.2.1 r hr).1.at hn
        refine dwn 16 (fun W => Sl W (some ⟨go, 0, none⟩) (rws m n A1 C1) ∧ Sl W (some ⟨gr, orr, none⟩) csr) hmo ?_
        intro w8 hh8 hg8
        have hB78 : Below w7.heap.size w7 w8 := (Below.refl _ _).grown hg8 (Nat.le_refl _) (fun k e => by cases e)
        have hI := hI.step hB78 hbase
        have hEr := hEr.stay hB78
        have hSr := hSr.below hB78 (fun q e => by cases e; exact hltr)
        have hvr := (hI.2.1 r hr).1
        rw [hAr] at hvr
        have hl5 : ∀ W, (Sl W (some ⟨go, 0, none⟩) (rws m n A1 C1) ∧ Sl W (some ⟨gr, orr, none⟩) csr) → (loadVar 93 ((⟨go, 0, none⟩ : Addr).add (((r : Nat) : Int).toNat * 1))).run Tryz.prog W = .ok (.slice (some ⟨gr, orr, none⟩) n (C1 r)) W := fun W h => run_load_cell U rfl (by rw [← hAr]; simpa [add_plain] using slc2 h.1 (rws_get hr))
        refine dq U [0,1,2,3,4,5,6,7,8,9,10,11,12] [(5, .slice (some ⟨gr, orr, none⟩) n (C1 r)), (9, .slice (some ⟨gr, orr, none⟩) n (C1 r)), (12, .agg ⟨el csr k⟩)] (by kernel_rfl) rfl rfl ⟨own_sl hI.1, hSr⟩ (by simp only [AllP, InR, List.nil_append, List.cons_append]; (repeat' apply And.intro); all_goals first | exact True.intro | omega | (with_reducible exact hl5) | (with_reducible exact fun W h => elem_loadq hEr hkn h.2)) ?_
        refine d1 rfl rfl (fun _ => ⟨own_sl hI.1, hSr⟩) ?_
        have hxr := hEr.2 k hkn
        rw [hsr] at hxr
        refine call (f := 97) rfl rfl cb97 (rover_calls p hz0 _ w8 hxr) ?_
        rintro v w9 ⟨hby, hB9⟩
        have hI := hI.step hB9 hbase
        have hlt8 : gr < w8.heap.size := Nat.lt_of_lt_of_le hltr hB78.size
        have hlt9 : gr < w9.heap.size := Nat.lt_of_lt_of_le hlt8 hB9.size
        have hSr := hSr.below hB9 (fun q e => by cases e; exact hlt8)
        have hvr := hvr.stay hB9
        refine ⟨_, rfl, d2 ?_⟩
        refine d1 rfl rfl (fun _ => ⟨own_sl hI.1, hSr⟩) ?_
        refine call (f := 96) rfl rfl cb96 (gscale_calls n L L (g1 r) p⁻¹ (by omega) (by omega) (hS1 r hr) hpi _ _ _ w9 hvr hby hn') ?_
        rintro v w10 ⟨⟨a10, c10, rfl, hc10, hv10⟩, hB10⟩
        have hI := hI.step hB10 hbase
        have hSr := hSr.below hB10 (fun q e => by cases e; exact hlt9)
        refine ⟨_, rfl, d2 ?_⟩
        refine dq U [15] [] (by kernel_rfl) rfl rfl ⟨own_sl hI.1, hSr⟩ (by simp only [AllP, InR, List.nil_append, List.cons_append]; (repeat' apply And.intro); all_goals first | exact True.intro | omega | (simp only [List.length_cons, List.length_nil]; omega) | (intro w_ hw_; refine ldC U rfl hw_ ?_; first | assumption | (simp [add_plain]; assumption)) | (intro w_ hw_; refine run_load_cell U rfl ?_; first | exact hw_ | exact hw_.1 | exact hw_.2 | exact hw_.2.1 | exact hw_.2.2 | exact hw_.2.2.1 | exact hw_.2.2.2 | (simp [add_plain]; first | exact hw_.1 | exact hw_.2.1 | exact hw_.2.2))) ?_
        refine d1 rfl rfl (fun _ => ⟨own_sl hI.1, hSr⟩) ?_
        refine so U (v := (.slice a10 n c10)) rfl rfl rfl rfl rfl rfl rfl r (by simp [add_plain]) hr hI.1 ?_
        intro w11 ho11 hg11 hs11
        have hI := hI.put hr hv10 hc10 ho11 hg11 hbase
        have hI := hI.congr (g' := scl r p⁻¹ g1) (fun a ha t ht => by
          unfold scl
          by_cases har : a = r
          · subst har; rw [upd_same, if_pos rfl]
          · rw [upd_ne _ _ har, if_neg har])
        generalize upd A1 r a10 = A2 at hI
        generalize upd C1 r c10 = C2 at hI
        have hS2 : ∀ a, a < m → ∀ t, t < n → Small (2 * L) (scl r p⁻¹ g1 a t) := fun a ha t ht => by
          unfold scl
          split
          · exact small_mono (small_mul (hS1 r hr t ht) hpi) (by omega)
          · exact small_mono (hS1 a ha t ht) (by omega)
        have hS3 : ∀ a, a < m → a ≠ r → ∀ t, t < n → Small L (scl r p⁻¹ g1 a t) := fun a ha hne t ht => by
          unfold scl
          rw [if_neg hne]
          exact hS1 a ha t ht
        generalize scl r p⁻¹ g1 = g2 at *
        refine d2 ?_; refine dend rfl (fun h => by cases h) ?_
        refine dr U 600 rfl trivial ?_
        refine loopR (fun fr w' mm => ∃ (q : Nat) (A3 : Nat → Option Addr) (C3 : Nat → Nat), fr = [(0, .slice (some ⟨go, 0, none⟩) m c), (1, .int .i64 (cols : Nat)), (6, .int .i64 (r : Nat)), (7, .int .i64 (k : Nat)), (9, .int .i64 (q : Nat))] ∧ q ≤ m ∧ RdqI w w' base go c m n A3 C3 (elq r k q g2) ∧ mm = m - q)
          ⟨0, A2, C2, rfl, by omega, hI.congr (fun a ha t ht => (elq_zero r k g2 a t).symm), rfl⟩ ⟨rfl, rfl, rfl, rfl, rfl, trivial⟩ ?_
        rintro fr w12 mm ⟨q, A3, C3, rfl, hq', hI, rfl⟩
        refine dr U 600 rfl trivial ?_
        refine cS rfl rfl rfl rfl (fun hq => ?_) (fun hq => ?_)
        · have hqm : q < m := by omega
          refine dr U 600 rfl trivial ?_
          refine cS rfl rfl rfl rfl (fun hq2 => ?_) (fun hq2 => ?_)
          · have hqr : q ≠ r := by omega
            obtain ⟨gq, oq, csq, hAq, hEq, hSq, hltq⟩ := (hI.2.1 q hqm).1.at hn
            have hxq := hEq.2 k hkn
            rw [elq_at] at hxq
            refine dr U 600 rfl trivial ?_
            refine il U rfl rfl rfl rfl rfl rfl rfl (fun _ => rfl) rfl q rfl hqm (own_sl hI.1) (rws_get hqm) ?_
            rw [hAq]
            refine dr U 600 rfl trivial ?_
            refine ig U rfl rfl rfl rfl ag_q rfl rfl (fun _ => rfl) rfl k rfl hkn hSq (fun j v hv => el_get hv) (el_length (by rw [hEq.1]; omega)) (by decide) ?_
            refine call (f := 95) rfl rfl cb95 (gzero_calls (g2 q k) (small_mono (hS3 q hqm hqr k hkn) (by omega)) _ w12 hxq) ?_
            rintro v w13 ⟨rfl, hB13⟩
            have hI := hI.step hB13 hbase
            refine ⟨_, rfl, ?_⟩
            by_cases hz2 : g2 q k = 0
            · rw [decide_eq_true hz2]
              refine dr U 600 rfl (by first | exact True.intro | (simp only [AllP, InR, List.nil_append, List.cons_append, and_true]; omega)) ?_
              refine rend _ _ ⟨q + 1, _, _, rfl, by omega, hI.congr (fun a ha t ht => elq_skip (.inr hz2) a t), rfl⟩ (by omega) ⟨rfl, rfl, rfl, rfl, iv (by omega), trivial⟩
            rw [decide_eq_false hz2]
            refine dr U 600 rfl trivial ?_
            have hltq' := hB13.size
            obtain ⟨gr', or', csr', hAr', hEr', hSr', hltr'⟩ := (hI.2.1 r hr).1.at hn
            refine dwn 20 (fun W => Sl W (some ⟨go, 0, none⟩) (rws m n A3 C3) ∧ Sl W (some ⟨gq, oq, none⟩) csq) hmo ?_
            intro w14 hh14 hg14
            have hB14 : Below w13.heap.size w13 w14 := (Below.refl _ _).grown hg14 (Nat.le_refl _) (fun k e => by cases e)
            have hI := hI.step hB14 hbase
            have hB12 := bl_tr hB13 hB14 hB13.size
            have hEq := hEq.stay hB12
            have hSq := hSq.below hB12 (fun q e => by cases e; exact hltq)
            have hxq := hxq.stay hB12
            have hvq := (hI.2.1 q hqm).1
            have hvr := (hI.2.1 r hr).1
            rw [hAq] at hvq
            have hl5 : ∀ W, (Sl W (some ⟨go, 0, none⟩) (rws m n A3 C3) ∧ Sl W (some ⟨gq, oq, none⟩) csq) → (loadVar 93 ((⟨go, 0, none⟩ : Addr).add (((q : Nat) : Int).toNat * 1))).run Tryz.prog W = .ok (.slice (some ⟨gq, oq, none⟩) n (C3 q)) W := fun W h => run_load_cell U rfl (by rw [← hAq]; simpa [add_plain] using slc2 h.1 (rws_get hqm))
            have hl9 : ∀ W, (Sl W (some ⟨go, 0, none⟩) (rws m n A3 C3) ∧ Sl W (some ⟨gq, oq, none⟩) csq) → (loadVar 93 ((⟨go, 0, none⟩ : Addr).add (((r : Nat) : Int).toNat * 1))).run Tryz.prog W = .ok (.slice (A3 r) n (C3 r)) W := fun W h => run_load_cell U rfl (by simpa [add_plain] using slc2 h.1 (rws_get hr))
            refine dq U [0,1,2,3,4,5,6,7,8,9,10,11,12,13,14,15,16] [(5, .slice (some ⟨gq, oq, none⟩) n (C3 q)), (9, .slice (A3 r) n (C3 r)), (13, .slice (some ⟨gq, oq, none⟩) n (C3 q)), (16, .agg ⟨el csq k⟩)] (by kernel_rfl) rfl rfl ⟨own_sl hI.1, hSq⟩ (by simp only [AllP, InR, List.nil_append, List.cons_append]; (repeat' apply And.intro); all_goals first | exact True.intro | omega | (with_reducible exact hl5) | (with_reducible exact hl9) | (with_reducible exact fun W h => elem_loadq hEq hkn h.2)) ?_
            refine d1 rfl rfl (fun _ => ⟨own_sl hI.1, hSq⟩) ?_
            refine call (f := 57) rfl rfl cb57 (rneg_calls (g2 q k) _ w14 hxq) ?_
            rintro v w15 ⟨hng, hB15⟩
            have hI := hI.step hB15 hbase
            have hlt14 : gq < w14.heap.size := Nat.lt_of_lt_of_le hltq hB12.size
            have hlt15 : gq < w15.heap.size := Nat.lt_of_lt_of_le hlt14 hB15.size
            have hSq := hSq.below hB15 (fun q e => by cases e; exact hlt14)
            refine ⟨_, rfl, d2 ?_⟩
            refine d1 rfl rfl (fun _ => ⟨own_sl hI.1, hSq⟩) ?_
            have hnS := small_neg (hS3 q hqm hqr k hkn)
            refine call (f := 98) rfl rfl cb98 (gcombine_calls n (3 * L) (2 * L) L (g2 q) (g2 r) (-(g2 q k)) hL (by omega) (fun t ht => small_mono (hS3 q hqm hqr t ht) (by omega)) (hS2 r hr) hnS _ _ _ _ _ w15 ((hvq.congr (fun t ht => elq_at r k q g2 t)).stay hB15) ((hvr.congr (fun t ht => elq_piv r k q g2 t)).stay hB15) hng hn') ?_
            rintro v w16 ⟨⟨a16, c16, rfl, hc16, hv16⟩, hB16⟩
            have hI := hI.step hB16 hbase
            have hSq := hSq.below hB16 (fun q e => by cases e; exact hlt15)
            refine ⟨_, rfl, d2 ?_⟩
            refine dq U [19] [] (by kernel_rfl) rfl rfl ⟨own_sl hI.1, hSq⟩ (by simp only [AllP, InR, List.nil_append, List.cons_append]; (repeat' apply And.intro); all_goals first | exact True.intro | omega | (simp only [List.length_cons, List.length_nil]; omega) | (intro w_ hw_; refine ldC U rfl hw_ ?_; first | assumption | (simp [add_plain]; assumption)) | (intro w_ hw_; refine run_load_cell U rfl ?_; first | exact hw_ | exact hw_.1 | exact hw_.2 | exact hw_.2.1 | exact hw_.2.2 | exact hw_.2.2.1 | exact hw_.2.2.2 | (simp [add_plain]; first | exact hw_.1 | exact hw_.2.1 | exact hw_.2.2))) ?_
            refine d1 rfl rfl (fun _ => ⟨own_sl hI.1, hSq⟩) ?_
            refine so U (v := (.slice a16 n c16)) rfl rfl rfl rfl rfl rfl rfl q (by simp [add_plain]) hqm hI.1 ?_
            intro w17 ho17 hg17 hs17
            have hI := hI.put hqm hv16 hc16 ho17 hg17 hbase
            refine d2 ?_; refine dend rfl (fun h => by cases h) ?_
            refine dr U 600 rfl (by first | exact True.intro | (simp only [AllP, InR, List.nil_append, List.cons_append, and_true]; omega)) ?_
            refine rend _ _ ⟨q + 1, _, _, rfl, by omega, hI.congr (fun a ha t ht => ?_), rfl⟩ (by omega) ⟨rfl, rfl, rfl, rfl, iv (by omega), trivial⟩
            rw [← elq_step hqr a t ht]
            by_cases haq : a = q
            · subst haq; rw [upd_same, upd_same]; unfold ela; rw [if_pos ht]
            · rw [upd_ne _ _ haq, upd_ne _ _ haq]
          · have hqr : q = r := by omega
            refine dr U 600 rfl (by first | exact True.intro | (simp only [AllP, InR, List.nil_append, List.cons_append, and_true]; omega)) ?_
            refine rend _ _ ⟨q + 1, _, _, rfl, by omega, hI.congr (fun a ha t ht => elq_skip (.inl hqr) a t), rfl⟩ (by omega) ⟨rfl, rfl, rfl, rfl, iv (by omega), trivial⟩
        · obtain rfl : m = q := by omega
          refine dr U 600 rfl (by first | exact True.intro | (simp only [AllP, InR, List.nil_append, List.cons_append, and_true]; omega)) ?_
          refine rend _ _ ⟨k + 1, _, _, _, _, rfl, by omega, hgs, hI.congr (fun a ha t ht => by rw [hgn]; exact elq_all ha t), rfl⟩ (by omega) ⟨rfl, rfl, iv (by omega), iv (by omega), trivial⟩
      · obtain rfl : i = m := by omega
        refine dr U 600 rfl trivial ?_
        refine cT rfl rfl rfl rfl ?_
        refine dr U 600 rfl (by first | exact True.intro | (simp only [AllP, InR, List.nil_append, List.cons_append, and_true]; omega)) ?_
        refine rend _ _ ⟨k + 1, g, r, A, C, rfl, by omega, gj_succ_none hs hz, hI, rfl⟩ (by omega) ⟨rfl, rfl, rfl, iv (by omega), trivial⟩
    · obtain rfl : r = m := by omega
      have hst := gj_stop (m := r) (k := k) (f := f) (by rw [hs]) (cols - k)
      rw [show k + (cols - k) = cols by omega, hs] at hst
      refine dr U 600 rfl trivial ?_
      exact ret Tryz.results71 rfl ⟨_, rfl, by rw [hst]; rfl, A, C, by rw [hst]; exact hI⟩
  · obtain rfl : k = cols := by omega
    refine dr U 600 rfl trivial ?_
    exact ret Tryz.results71 rfl ⟨_, rfl, by rw [hs]; rfl, A, C, by rw [hs]; exact hI⟩
end Go.Proofs.YtfdekppnilffeaaGreatDoor
end
