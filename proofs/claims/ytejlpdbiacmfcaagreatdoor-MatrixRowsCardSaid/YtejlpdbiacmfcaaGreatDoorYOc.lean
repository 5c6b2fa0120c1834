/-
  Walks of the reference's Norm and Apply.
  Conditions: rows take at most a million ints.

  The law MatrixRows: it returns true for every input.
  Conditions: the library's table of powers of ten is laid.
-/
import Derived.Test.YtejlpdbiacmfcaaGreatDoorYOa
import Derived.Test.YtejlpdbiacmfcaaGreatDoorYOb
section
set_option linter.unusedSimpArgs false
set_option linter.unusedVariables false
set_option maxHeartbeats 4000000
set_option maxRecDepth 100000
namespace Go.Proofs.YtejlpdbiacmfcaaGreatDoor
open Go Go.Proofs Go.RowKit Go.Lib

theorem gnorm_calls (xss : List (List Int)) (hl : xss.length ≤ 1099511627776) (hx : ∀ i, i < xss.length → (irow xss i).length ≤ 1000000) (a : Option Addr) (c : Nat) (w : World) (hs : SZ w a xss) :
    Calls Tryz.prog 35 #[.slice a xss.length c] w (Ret fun v w' => v = .int .i64 (normF xss) ∧ Below w.heap.size w w') := by
  obtain ⟨A, C, hSl, hR⟩ := hs
  refine enter Tryz.func35 rfl Tryz.ntmps35 (Nat.le_of_ble_eq_true rfl) ?_
  refine dr U 600 rfl trivial ?_
  refine cS rfl rfl rfl rfl (fun hq => ?_) (fun hq => ?_)
  · refine dr U 600 rfl trivial ?_
    exact ret Tryz.results35 rfl ⟨_, rfl, by unfold normF; rw [if_pos (by omega)]; rfl, Below.refl _ _⟩
  refine dr U 600 rfl trivial ?_
  refine cS rfl rfl rfl rfl (fun hq2 => ?_) (fun hq2 => ?_)
  · refine dr U 600 rfl trivial ?_
    exact ret Tryz.results35 rfl ⟨_, rfl, by unfold normF; rw [if_pos (by omega)]; rfl, Below.refl _ _⟩
  have h0 : 0 < xss.length := by omega
  have hn := hx 0 h0
  obtain ⟨gr, or_, rfl, _⟩ := hSl.at (j := 0) (by rw [irws_length]; exact h0)
  refine dr U 600 rfl trivial ?_
  refine il U rfl rfl rfl rfl rfl rfl rfl (fun _ => rfl) rfl 0 rfl h0 hSl (irws_get h0) ?_
  refine dr U 600 rfl trivial ?_
  refine mkn U rfl rfl rfl rfl rfl rfl rfl (irow xss 0).length rfl rfl (by omega) (by omega) w.heap.size (Nat.le_refl _) ?_
  intro a3 w1 ho1 hg1
  have hB1 : Below w.heap.size w w1 := (Below.refl _ _).grown hg1 (Nat.le_refl _) (fun k e => by cases e)
  rw [ivs_zero, ← csum_zero xss] at ho1
  have hnf : (∀ r, r ∈ xss → r.length = (irow xss 0).length ∧ Wthn r 1000000) → normF xss = normTo xss (irow xss 0).length := fun h => by unfold normF; rw [if_neg (by omega), if_pos h]
  have hnn : ∀ i, i < xss.length → ¬ ((irow xss i).length = (irow xss 0).length ∧ Wthn (irow xss i) 1000000) → normF xss = 0 := fun i hi h => by unfold normF; rw [if_neg (by omega), if_neg (fun h' => h (h' _ (irow_mem hi)))]
  obtain ⟨n, hnE⟩ : ∃ n, (irow xss 0).length = n := ⟨_, rfl⟩
  rw [hnE] at hnf hnn hn ho1 ⊢
  have hl7 : ∀ W, Sl W (some ⟨gr, or_, none⟩) (irws xss A C) → (loadVar 23 ((⟨gr, or_, none⟩ : Addr).add ((0 : Int).toNat * 1))).run Tryz.prog W = .ok (.slice (A 0) n (C 0)) W := fun W h => run_load_cell U rfl (by have := slc2 h (irws_get h0); rw [hnE] at this; simpa [add_plain] using this)
  refine dr U 600 rfl trivial ?_
  refine loopR (fun fr w' mm => ∃ (i : Nat), fr = [(0, .slice (some ⟨gr, or_, none⟩) xss.length c), (3, .int .i64 0), (4, .slice a3 n n), (5, .int .i64 (i : Nat))] ∧ i ≤ xss.length ∧ (∀ j, j < i → (irow xss j).length = n ∧ Wthn (irow xss j) 1000000) ∧ w'.ownsRow w.heap.size 3 1 (.slice a3 n n) n (ivs (csum xss n i)) ∧ Below w.heap.size w w' ∧ mm = xss.length - i)
    ⟨0, rfl, by omega, fun j hj => absurd hj (by omega), ho1, hB1, rfl⟩ ⟨rfl, rfl, rfl, rfl, trivial⟩ ?_
  rintro fr w2 mm ⟨i, rfl, hi, hok, ho, hB, rfl⟩
  refine dr U 600 rfl trivial ?_
  refine cS rfl rfl rfl rfl (fun hq3 => ?_) (fun hq3 => ?_)
  · have hil : i < xss.length := by omega
    have hl3 : ∀ W, Sl W (some ⟨gr, or_, none⟩) (irws xss A C) → (loadVar 23 ((⟨gr, or_, none⟩ : Addr).add (((i : Nat) : Int).toNat * 1))).run Tryz.prog W = .ok (.slice (A i) (irow xss i).length (C i)) W := fun W h => run_load_cell U rfl (by simpa [add_plain] using slc2 h (irws_get hil))
    refine dr U 600 rfl trivial ?_
    refine dwn 17 (fun W => Sl W (some ⟨gr, or_, none⟩) (irws xss A C)) hmo ?_
    intro w3 hh3 hg3
    have hB3 := hB.grown hg3 hB.size (fun k e => by cases e)
    have hB23 : Below w2.heap.size w2 w3 := (Below.refl _ _).grown hg3 (Nat.le_refl _) (fun k e => by cases e)
    have hC3 := hSl.stay hB3
    refine dq U [0,1,2,3,4,5,6,7,8] [(3, .slice (A i) (irow xss i).length (C i)), (7, .slice (A 0) n (C 0))] (by kernel_rfl) rfl rfl hC3 (by simp only [AllP, InR, List.nil_append, List.cons_append]; (repeat' apply And.intro); all_goals first | exact True.intro | omega | (with_reducible exact hl3) | (with_reducible exact hl7)) ?_
    refine d1 rfl rfl (fun _ => hC3) ?_
    refine cS rfl rfl rfl rfl (fun hq4 => ?_) (fun hq4 => ?_)
    · refine d2 ?_
      refine dq U [10,11,12,13,14,15,16] [] (by kernel_rfl) rfl rfl hC3 (by simp only [AllP, InR, List.nil_append, List.cons_append]; (repeat' apply And.intro); all_goals first | exact True.intro | omega | (simp only [List.length_cons, List.length_nil]; omega) | (intro w_ hw_; refine ldC U rfl hw_ ?_; first | assumption | (simp [add_plain]; assumption)) | (intro w_ hw_; refine run_load_cell U rfl ?_; first | exact hw_ | exact hw_.1 | exact hw_.2 | exact hw_.2.1 | exact hw_.2.2 | exact hw_.2.2.1 | exact hw_.2.2.2 | (simp [add_plain]; first | exact hw_.1 | exact hw_.2.1 | exact hw_.2.2))) ?_
      refine d1 rfl rfl (fun _ => hC3) ?_
      refine dr U 600 rfl trivial ?_
      refine d3 ?_; refine dend rfl (fun h => by cases h) ?_
      refine dr U 600 rfl trivial ?_
      exact ret Tryz.results35 rfl ⟨_, rfl, by rw [hnn i hil (fun h => hq4 (by rw [h.1]))]; rfl, hB3⟩
    have hli : (irow xss i).length = n := by omega
    refine d2 ?_
    refine dq U [10,11,12,13,14] [(14, .slice (A i) (irow xss i).length (C i))] (by kernel_rfl) rfl rfl hC3 (by simp only [AllP, InR, List.nil_append, List.cons_append]; (repeat' apply And.intro); all_goals first | exact True.intro | omega | (with_reducible exact hl3)) ?_
    refine d1 rfl rfl (fun _ => hC3) ?_
    refine call (f := 68) rfl rfl cb68 (gwithin_calls (irow xss i) 1000000 (by omega) (by have := hx i hil; omega) (A i) (C i) w3 ((hR i hil).stay hB3)) ?_
    rintro v w4 ⟨rfl, hB34⟩
    have hB4 := bl_tr hB3 hB34 hB3.size
    have hC4 := hSl.stay hB4
    have ho4 := own_bw ho (bl_tr hB23 hB34 hB23.size)
    refine ⟨_, rfl, d2 ?_⟩
    by_cases hw : Wthn (irow xss i) 1000000
    case neg =>
      rw [decide_eq_false hw]
      refine dq U [16] [] (by kernel_rfl) rfl rfl hC4 (by simp only [AllP, InR, List.nil_append, List.cons_append]; (repeat' apply And.intro); all_goals first | exact True.intro | omega | (simp only [List.length_cons, List.length_nil]; omega) | (intro w_ hw_; refine ldC U rfl hw_ ?_; first | assumption | (simp [add_plain]; assumption)) | (intro w_ hw_; refine run_load_cell U rfl ?_; first | exact hw_ | exact hw_.1 | exact hw_.2 | exact hw_.2.1 | exact hw_.2.2 | exact hw_.2.2.1 | exact hw_.2.2.2 | (simp [add_plain]; first | exact hw_.1 | exact hw_.2.1 | exact hw_.2.2))) ?_
      refine d1 rfl rfl (fun _ => hC4) ?_
      refine dr U 600 rfl trivial ?_
      refine d3 ?_; refine dend rfl (fun h => by cases h) ?_
      refine dr U 600 rfl trivial ?_
      exact ret Tryz.results35 rfl ⟨_, rfl, by rw [hnn i hil (fun h => hw h.2)]; rfl, hB4⟩
    rw [decide_eq_true hw]
    refine dq U [16] [] (by kernel_rfl) rfl rfl hC4 (by simp only [AllP, InR, List.nil_append, List.cons_append]; (repeat' apply And.intro); all_goals first | exact True.intro | omega | (simp only [List.length_cons, List.length_nil]; omega) | (intro w_ hw_; refine ldC U rfl hw_ ?_; first | assumption | (simp [add_plain]; assumption)) | (intro w_ hw_; refine run_load_cell U rfl ?_; first | exact hw_ | exact hw_.1 | exact hw_.2 | exact hw_.2.1 | exact hw_.2.2 | exact hw_.2.2.1 | exact hw_.2.2.2 | (simp [add_plain]; first | exact hw_.1 | exact hw_.2.1 | exact hw_.2.2))) ?_
    refine d1 rfl rfl (fun _ => hC4) ?_
    refine dr U 600 rfl trivial ?_
    refine d3 ?_; refine dend rfl (fun h => by cases h) ?_
    rw [← csumK_zero] at ho4
    refine dr U 600 rfl trivial ?_
    refine loopR (fun fr w' m2 => ∃ (k : Nat), fr = [(0, .slice (some ⟨gr, or_, none⟩) xss.length c), (3, .int .i64 0), (4, .slice a3 n n), (5, .int .i64 (i : Nat)), (6, .int .i64 (k : Nat))] ∧ k ≤ n ∧ w'.ownsRow w.heap.size 3 1 (.slice a3 n n) n (ivs (csumK xss n i k)) ∧ Below w.heap.size w w' ∧ m2 = n - k)
      ⟨0, rfl, by omega, ho4, hB4, rfl⟩ (by repeat' (first | exact True.intro | exact rfl | exact iv (by omega) | refine ⟨?_, ?_⟩)) ?_
    rintro fr w5 m2 ⟨k, rfl, hk, ho5, hB5, rfl⟩
    refine dr U 600 rfl trivial ?_
    refine cS rfl rfl rfl rfl (fun hq5 => ?_) (fun hq5 => ?_)
    · have hkn : k < n := by omega
      have hcb := colS_bound (rows := xss) (i := i) (k := k) hi (fun j hj => (hok j hj).2)
      have hwb := wthn_get hw (by omega) k
      have hct := colS_take hil k
      have hset := csumK_set (rows := xss) (n := n) (i := i) hkn
      have hgl := csumK_get (rows := xss) (n := n) (i := i) hkn
      obtain ⟨gs, rfl⟩ := own_go ho5 (by omega)
      have hRi := (hR i hil).stay hB5
      obtain ⟨ga, oa, hga, _⟩ := hRi k _ (ivs_get (by omega))
      rw [hga] at hRi
      have hl3 : ∀ W, Sl W (some ⟨gr, or_, none⟩) (irws xss A C) → (loadVar 23 ((⟨gr, or_, none⟩ : Addr).add (((i : Nat) : Int).toNat * 1))).run Tryz.prog W = .ok (.slice (some ⟨ga, oa, none⟩) n (C i)) W := fun W h => run_load_cell U rfl (by have := slc2 h (irws_get hil); rw [hga, hli] at this; simpa [add_plain] using this)
      refine dr U 600 rfl trivial ?_
      refine dwn 24 (fun W => Sl W (some ⟨gr, or_, none⟩) (irws xss A C) ∧ Sl W (some ⟨gs, 0, none⟩) (ivs (csumK xss n i k)) ∧ Sl W (some ⟨ga, oa, none⟩) (ivs (irow xss i))) hmo ?_
      intro w6 hh6 hg6
      have hB56 : Below w5.heap.size w5 w6 := (Below.refl _ _).grown hg6 (Nat.le_refl _) (fun k e => by cases e)
      have hB6 := bl_tr hB5 hB56 hB5.size
      have ho6 := own_bw ho5 hB56
      have hm5 : ∀ W, (Sl W (some ⟨gr, or_, none⟩) (irws xss A C) ∧ Sl W (some ⟨gs, 0, none⟩) (ivs (csumK xss n i k)) ∧ Sl W (some ⟨ga, oa, none⟩) (ivs (irow xss i))) → (loadVar 3 ((⟨gs, 0, none⟩ : Addr).add (((k : Nat) : Int).toNat * 1))).run Tryz.prog W = .ok (.int .i64 (colS (xss.take i) k)) W := fun W h => run_load_cell U rfl (by have := slc2 h.2.1 (ivs_get (i := k) (by rw [csumK_len]; exact hkn)); rw [hgl] at this; simpa [add_plain] using this)
      have hm9 : ∀ W, (Sl W (some ⟨gr, or_, none⟩) (irws xss A C) ∧ Sl W (some ⟨gs, 0, none⟩) (ivs (csumK xss n i k)) ∧ Sl W (some ⟨ga, oa, none⟩) (ivs (irow xss i))) → (loadVar 23 ((⟨gr, or_, none⟩ : Addr).add (((i : Nat) : Int).toNat * 1))).run Tryz.prog W = .ok (.slice (some ⟨ga, oa, none⟩) n (C i)) W := fun W h => hl3 W h.1
      have hm12 : ∀ W, (Sl W (some ⟨gr, or_, none⟩) (irws xss A C) ∧ Sl W (some ⟨gs, 0, none⟩) (ivs (csumK xss n i k)) ∧ Sl W (some ⟨ga, oa, none⟩) (ivs (irow xss i))) → (loadVar 3 ((⟨ga, oa, none⟩ : Addr).add (((k : Nat) : Int).toNat * 1))).run Tryz.prog W = .ok (.int .i64 ((irow xss i).getD k 0)) W := fun W h => run_load_cell U rfl (by simpa [add_plain] using slc2 h.2.2 (ivs_get (i := k) (by omega)))
      refine dq U [0,1,2,3,4,5,6,7,8,9,10,11,12,13,14,15,16,17,18,19,20,21,22,23] [(5, .int .i64 (colS (xss.take i) k)), (9, .slice (some ⟨ga, oa, none⟩) n (C i)), (12, .int .i64 ((irow xss i).getD k 0)), (16, .slice (some ⟨ga, oa, none⟩) n (C i)), (19, .int .i64 ((irow xss i).getD k 0))] (by kernel_rfl) rfl rfl ⟨hSl.stay hB6, own_sl ho6, hRi.stay hB56⟩ (by simp only [AllP, InR, List.nil_append, List.cons_append]; (repeat' apply And.intro); all_goals first | exact True.intro | omega | (with_reducible exact hm5) | (with_reducible exact hm9) | (with_reducible exact hm12)) ?_
      refine d1 rfl rfl (fun _ => ⟨hSl.stay hB6, own_sl ho6, hRi.stay hB56⟩) ?_
      refine so U (v := .int .i64 (colS (xss.take (i + 1)) k)) rfl (iv (by rw [hct, Int.zero_sub])) rfl rfl rfl rfl rfl k (by simp [add_plain]) hkn ho6 ?_
      intro w7 ho7 hg7 hs7
      rw [ivs_set, hset] at ho7
      have hB7 := hB6.grown hg7 hB6.size (fun g e => (own_block ho6 g e).1)
      refine d2 ?_; refine dend rfl (fun h => by cases h) ?_
      refine dr U 600 rfl (by first | exact True.intro | (simp only [AllP, InR, List.nil_append, List.cons_append, and_true]; omega)) ?_
      exact rend _ _ ⟨k + 1, rfl, by omega, ho7, hB7, rfl⟩ (by omega) (by repeat' (first | exact True.intro | exact rfl | exact iv (by omega) | refine ⟨?_, ?_⟩))
    · obtain rfl : k = n := by omega
      rw [csumK_end] at ho5
      refine dr U 600 rfl (by first | exact True.intro | (simp only [AllP, InR, List.nil_append, List.cons_append, and_true]; omega)) ?_
      refine rend _ _ ⟨i + 1, rfl, by omega, fun j hj => ?_, ho5, hB5, rfl⟩ (by omega) (by repeat' (first | exact True.intro | exact rfl | exact iv (by omega) | refine ⟨?_, ?_⟩))
      rcases Nat.lt_succ_iff_lt_or_eq.1 hj with h' | rfl
      · exact hok j h'
      · exact ⟨hli, hw⟩
  · obtain rfl : i = xss.length := by omega
    have hfin := hnf (fun r hr => by
      obtain ⟨j, hj, rfl⟩ := List.getElem_of_mem hr
      have := hok j hj
      simpa [irow, List.getD, hj] using this)
    have hget : ∀ k, k < n → (csum xss n xss.length).getD k 0 = colS xss k := fun k hk => by
      unfold csum
      rw [List.take_length]
      simp [List.getD, hk]
    refine dr U 600 rfl trivial ?_
    refine loopR (fun fr w' m2 => ∃ (k : Nat), fr = [(4, .slice a3 n n), (3, .int .i64 (normTo xss k)), (7, .int .i64 (k : Nat))] ∧ k ≤ n ∧ w' = w2 ∧ m2 = n - k)
      ⟨0, rfl, by omega, rfl, rfl⟩ (by repeat' (first | exact True.intro | exact rfl | exact iv (by omega) | refine ⟨?_, ?_⟩)) ?_
    rintro fr w3 m2 ⟨k, rfl, hk, rfl, rfl⟩
    refine dr U 600 rfl trivial ?_
    refine cS rfl rfl rfl rfl (fun hq5 => ?_) (fun hq5 => ?_)
    · have hkn : k < n := by omega
      refine dr U 600 rfl trivial ?_
      refine il U rfl rfl rfl rfl rfl rfl rfl (fun _ => rfl) rfl k rfl hkn (own_sl ho) (ivs_get (by rw [csum_len]; exact hkn)) ?_
      rw [hget k hkn]
      refine dr U 600 rfl (by first | exact True.intro | (simp only [AllP, InR, List.nil_append, List.cons_append, and_true]; omega)) ?_
      exact rend _ _ ⟨k + 1, rfl, by omega, rfl, rfl⟩ (by omega) (by repeat' (first | exact True.intro | exact rfl | exact iv (by omega) | refine ⟨?_, ?_⟩))
    · obtain rfl : k = n := by omega
      refine dr U 600 rfl trivial ?_
      refine ret Tryz.results35 rfl ⟨_, rfl, ?_, hB⟩
      rw [hfin]; rfl

theorem g28apply_calls (xss : List (List Int)) (h : List Int) (hl : xss.length ≤ 1099511627776) (hx : ∀ i, i < xss.length → (irow xss i).length ≤ 1099511627776) (hh : h.length ≤ 1099511627776) (a b : Option Addr) (c d : Nat) (w : World) (hs : SZ w a xss) (hb : Sl w b (ivs h)) :
    Calls Tryz.prog 32 #[.slice a xss.length c, .slice b h.length d] w (Ret fun v w' => IOut (applyF xss h).1 (applyF xss h).2 v w' ∧ Below w.heap.size w w') := by
  obtain ⟨A, C, hSl, hR⟩ := hs
  refine enter Tryz.func32 rfl Tryz.ntmps32 (Nat.le_of_ble_eq_true rfl) ?_
  refine dr U 600 rfl trivial ?_
  refine cS rfl rfl rfl rfl (fun hq1 => ?_) (fun hq1 => ?_)
  · refine dr U 600 rfl trivial ?_
    refine ret Tryz.results32 rfl ⟨_, rfl, ?_, Below.refl _ _⟩
    unfold applyF; rw [if_pos (.inl (by omega))]; exact IOut.nil _ _
  refine dr U 600 rfl trivial ?_
  refine cS rfl rfl rfl rfl (fun hq2 => ?_) (fun hq2 => ?_)
  · refine dr U 600 rfl trivial ?_
    refine ret Tryz.results32 rfl ⟨_, rfl, ?_, Below.refl _ _⟩
    unfold applyF; rw [if_pos (.inr (by omega))]; exact IOut.nil _ _
  refine dr U 600 rfl trivial ?_
  refine loopR (fun fr w' m => ∃ (i : Nat), fr = [(0, .slice a xss.length c), (1, .slice b h.length d), (6, .int .i64 (i : Nat))] ∧ i ≤ xss.length ∧ (∀ j, j < i → (irow xss j).length = h.length) ∧ w' = w ∧ m = xss.length - i)
    ⟨0, rfl, by omega, fun j hj => absurd hj (by omega), rfl, rfl⟩ (by repeat' (first | exact True.intro | exact rfl | exact iv (by omega) | refine ⟨?_, ?_⟩)) ?_
  rintro fr w1 m ⟨i, rfl, hi, hlen, rfl, rfl⟩
  refine dr U 600 rfl trivial ?_
  refine cS rfl rfl rfl rfl (fun hq3 => ?_) (fun hq3 => ?_)
  · have hil : i < xss.length := by omega
    refine dr U 600 rfl trivial ?_
    refine il U rfl rfl rfl rfl rfl rfl rfl (fun _ => rfl) rfl i rfl hil hSl (irws_get hil) ?_
    refine dr U 600 rfl trivial ?_
    refine cS rfl rfl rfl rfl (fun hq4 => ?_) (fun hq4 => ?_)
    · refine dr U 600 rfl trivial ?_
      refine ret Tryz.results32 rfl ⟨_, rfl, ?_, Below.refl _ _⟩
      unfold applyF; rw [if_neg (by omega), if_pos (fun hall => hq4 (by rw [hall _ (irow_mem hil)]))]; exact IOut.nil _ _
    · refine dr U 600 rfl (by first | exact True.intro | (simp only [AllP, InR, List.nil_append, List.cons_append, and_true]; omega)) ?_
      refine rend _ _ ⟨i + 1, rfl, by omega, fun j hj => ?_, rfl, rfl⟩ (by omega) (by repeat' (first | exact True.intro | exact rfl | exact iv (by omega) | refine ⟨?_, ?_⟩))
      rcases Nat.lt_succ_iff_lt_or_eq.1 hj with h' | rfl
      · exact hlen j h'
      · omega
  obtain rfl : i = xss.length := by omega
  have hall : ∀ r, r ∈ xss → r.length = h.length := fun r hr => by
    obtain ⟨q, hq, rfl⟩ := irow_iff.1 hr
    exact hlen q hq
  refine dr U 600 rfl trivial ?_
  refine call (f := 68) rfl rfl cb68 (gwithin_calls h 1000000 (by omega) hh b d w1 hb) ?_
  rintro v w2 ⟨rfl, hB2⟩
  refine ⟨_, rfl, ?_⟩
  refine dr U 600 rfl trivial ?_
  refine loopR (fun fr w' m => ∃ (i : Nat) (tw : Bool), fr = [(0, .slice a xss.length c), (1, .slice b h.length d), (7, .bool tw), (8, .int .i64 (i : Nat))] ∧ i ≤ xss.length ∧ (tw = true ↔ Wthn h 1000000 ∧ ∀ j, j < i → Wthn (irow xss j) 1000000) ∧ Below w1.heap.size w1 w' ∧ m = xss.length - i)
    ⟨0, decide (Wthn h 1000000), rfl, by omega, ⟨fun e => ⟨of_decide_eq_true e, fun j hj => absurd hj (by omega)⟩, fun e => decide_eq_true e.1⟩, hB2, rfl⟩ ⟨rfl, rfl, rfl, rfl, trivial⟩ ?_
  rintro fr w3 m ⟨i, tw, rfl, hi, htw, hB3, rfl⟩
  refine dr U 600 rfl trivial ?_
  refine cS rfl rfl rfl rfl (fun hq5 => ?_) (fun hq5 => ?_)
  · have hil : i < xss.length := by omega
    cases tw with
    | false =>
      refine dr U 600 rfl (by first | exact True.intro | (simp only [AllP, InR, List.nil_append, List.cons_append, and_true]; omega)) ?_
      exact rend _ _ ⟨i + 1, false, rfl, by omega, ⟨fun e => (by cases e), fun e => htw.2 ⟨e.1, fun j hj => e.2 j (by omega)⟩⟩, hB3, rfl⟩ (by omega) ⟨rfl, rfl, rfl, iv (by omega), trivial⟩
    | true =>
      refine dr U 600 rfl trivial ?_
      refine il U rfl rfl rfl rfl rfl rfl rfl (fun _ => rfl) rfl i rfl hil (hSl.stay hB3) (irws_get hil) ?_
      refine dr U 600 rfl trivial ?_
      refine call (f := 68) rfl rfl cb68 (gwithin_calls (irow xss i) 1000000 (by omega) (hx i hil) (A i) (C i) w3 ((hR i hil).stay hB3)) ?_
      rintro v w4 ⟨rfl, hB34⟩
      have hB4 := bl_tr hB3 hB34 hB3.size
      refine ⟨_, rfl, ?_⟩
      obtain ⟨ht1, ht2⟩ := htw.1 rfl
      refine dr U 600 rfl (by first | exact True.intro | (simp only [AllP, InR, List.nil_append, List.cons_append, and_true]; omega)) ?_
      refine rend _ _ ⟨i + 1, decide (Wthn (irow xss i) 1000000), rfl, by omega, ⟨fun e => ⟨ht1, fun j hj => ?_⟩, fun e => decide_eq_true (e.2 i (by omega))⟩, hB4, rfl⟩ (by omega) ⟨rfl, rfl, rfl, iv (by omega), trivial⟩
      rcases Nat.lt_succ_iff_lt_or_eq.1 hj with h' | rfl
      · exact ht2 j h'
      · exact of_decide_eq_true e
  obtain rfl : i = xss.length := by omega
  have hwE : (∀ j, j < xss.length → Wthn (irow xss j) 1000000) ↔ ∀ r, r ∈ xss → Wthn r 1000000 := ⟨fun hw r hr => by
    obtain ⟨q, hq, rfl⟩ := irow_iff.1 hr
    exact hw q hq, fun hw j hj => hw _ (irow_mem hj)⟩
  rw [hwE] at htw
  cases tw with
  | false =>
    refine dr U 600 rfl trivial ?_
    refine ret Tryz.results32 rfl ⟨_, rfl, ?_, hB3⟩
    unfold applyF; rw [if_neg (by omega), if_neg (fun hn => hn hall), if_pos (fun hw => absurd (htw.2 hw) (by decide))]; exact IOut.nil _ _
  | true =>
  obtain ⟨h2, hwth⟩ := htw.1 rfl
  have hfin : applyF xss h = (appTo xss h xss.length, 0) := by
    unfold applyF; rw [if_neg (by omega), if_neg (fun hn => hn hall), if_neg (fun hw => hw ⟨h2, hwth⟩), appTo_all]
  refine dr U 600 rfl trivial ?_
  refine loopR (fun fr w' mm => ∃ (i : Nat) (a2 : Option Addr) (c2 : Nat), fr = [(0, .slice a xss.length c), (1, .slice b h.length d), (9, .slice a2 i c2), (10, .int .i64 (i : Nat))] ∧ i ≤ xss.length ∧ w'.ownsRow w1.heap.size 3 1 (.slice a2 i c2) i (ivs (appTo xss h i)) ∧ Below w1.heap.size w1 w' ∧ mm = xss.length - i)
    ⟨0, none, 0, rfl, by omega, ⟨rfl, .inl ⟨rfl, rfl⟩⟩, hB3, rfl⟩ (by repeat' (first | exact True.intro | exact rfl | exact iv (by omega) | refine ⟨?_, ?_⟩)) ?_
  rintro fr w4 mm ⟨i, a2, c2, rfl, hi, ho, hB, rfl⟩
  refine dr U 600 rfl trivial ?_
  refine cS rfl rfl rfl rfl (fun hq6 => ?_) (fun hq6 => ?_)
  · have hil : i < xss.length := by omega
    have hri := hall _ (irow_mem hil)
    have hwi := hwth _ (irow_mem hil)
    refine dr U 600 rfl trivial ?_
    refine loopR (fun fr w' m2 => ∃ (k : Nat), fr = [(0, .slice a xss.length c), (1, .slice b h.length d), (9, .slice a2 i c2), (10, .int .i64 (i : Nat)), (11, .int .i64 (dotI (irow xss i) h k)), (12, .int .i64 (k : Nat))] ∧ k ≤ h.length ∧ Below w4.heap.size w4 w' ∧ m2 = h.length - k)
      ⟨0, rfl, by omega, Below.refl _ _, rfl⟩ (by repeat' (first | exact True.intro | exact rfl | exact iv (by omega) | refine ⟨?_, ?_⟩)) ?_
    rintro fr w5 m2 ⟨k, rfl, hk, hB45, rfl⟩
    have hB5 := bl_tr hB hB45 hB.size
    refine dr U 600 rfl trivial ?_
    refine cS rfl rfl rfl rfl (fun hq7 => ?_) (fun hq7 => ?_)
    · have hkh : k < h.length := by omega
      have hb1 := wthn_get hwi (by omega) k
      have hb2 := wthn_get h2 (by omega) k
      have hb3' := dotI_le hwi h2 (by omega) (by omega) k
      have hb4 := dotI_le hwi h2 (by omega) (by omega) (k + 1)
      have hmul : -1000000000000 ≤ (irow xss i).getD k 0 * h.getD k 0 ∧ (irow xss i).getD k 0 * h.getD k 0 ≤ 1000000000000 := by
        have := dotI_le (r := [(irow xss i).getD k 0]) (h := [h.getD k 0]) (A := 1000000) (B := 1000000) (by intro x hx; simp at hx; subst hx; exact hb1) (by intro x hx; simp at hx; subst hx; exact hb2) (by omega) (by omega) 1
        have h2 : dotI [(irow xss i).getD k 0] [h.getD k 0] 1 = 0 + (irow xss i).getD k 0 * h.getD k 0 := rfl
        rw [h2] at this
        omega
      have hds : dotI (irow xss i) h (k + 1) = dotI (irow xss i) h k + (irow xss i).getD k 0 * h.getD k 0 := rfl
      have hk64 : k < 64 := by omega
      have hC := hSl.stay hB5
      have hbk := hb.stay hB5
      have hRi := (hR i hil).stay hB5
      obtain ⟨ga, oa, hga, _⟩ := hRi k _ (ivs_get (by omega))
      obtain ⟨gb, ob, rfl, _⟩ := hb k _ (ivs_get hkh)
      obtain ⟨gr, or_, rfl, _⟩ := hSl.at (j := i) (by rw [irws_length]; exact hil)
      rw [hga] at hRi
      refine dr U 600 rfl trivial ?_
      refine dwn 14 (fun W => Sl W (some ⟨gr, or_, none⟩) (irws xss A C) ∧ Sl W (some ⟨gb, ob, none⟩) (ivs h) ∧ Sl W (some ⟨ga, oa, none⟩) (ivs (irow xss i))) hmo ?_
      intro w6 hh6 hg6
      have hB56 : Below w5.heap.size w5 w6 := (Below.refl _ _).grown hg6 (Nat.le_refl _) (fun k e => by cases e)
      have hm4 : ∀ W, (Sl W (some ⟨gr, or_, none⟩) (irws xss A C) ∧ Sl W (some ⟨gb, ob, none⟩) (ivs h) ∧ Sl W (some ⟨ga, oa, none⟩) (ivs (irow xss i))) → (loadVar 23 ((⟨gr, or_, none⟩ : Addr).add (((i : Nat) : Int).toNat * 1))).run Tryz.prog W = .ok (.slice (some ⟨ga, oa, none⟩) h.length (C i)) W := fun W h => run_load_cell U rfl (by have := slc2 h.1 (irws_get hil); rw [hga, hri] at this; simpa [add_plain] using this)
      have hm7 : ∀ W, (Sl W (some ⟨gr, or_, none⟩) (irws xss A C) ∧ Sl W (some ⟨gb, ob, none⟩) (ivs h) ∧ Sl W (some ⟨ga, oa, none⟩) (ivs (irow xss i))) → (loadVar 3 ((⟨ga, oa, none⟩ : Addr).add (((k : Nat) : Int).toNat * 1))).run Tryz.prog W = .ok (.int .i64 ((irow xss i).getD k 0)) W := fun W h => run_load_cell U rfl (by simpa [add_plain] using slc2 h.2.2 (ivs_get (i := k) (by omega)))
      have hm11 : ∀ W, (Sl W (some ⟨gr, or_, none⟩) (irws xss A C) ∧ Sl W (some ⟨gb, ob, none⟩) (ivs h) ∧ Sl W (some ⟨ga, oa, none⟩) (ivs (irow xss i))) → (loadVar 3 ((⟨gb, ob, none⟩ : Addr).add (((k : Nat) : Int).toNat * 1))).run Tryz.prog W = .ok (.int .i64 (h.getD k 0)) W := fun W h => run_load_cell U rfl (by simpa [add_plain] using slc2 h.2.1 (ivs_get hkh))
      refine dq U [0,1,2,3,4,5,6,7,8,9,10,11,12,13] [(4, .slice (some ⟨ga, oa, none⟩) h.length (C i)), (7, .int .i64 ((irow xss i).getD k 0)), (11, .int .i64 (h.getD k 0))] (by kernel_rfl) rfl rfl ⟨hC.stay hB56, hbk.stay hB56, hRi.stay hB56⟩ (by simp only [AllP, InR, List.nil_append, List.cons_append]; (repeat' apply And.intro); all_goals first | exact True.intro | omega | (with_reducible exact hm4) | (with_reducible exact hm7) | (with_reducible exact hm11)) ?_
      refine d1 rfl rfl (fun _ => ⟨hC.stay hB56, hbk.stay hB56, hRi.stay hB56⟩) ?_
      refine dr U 600 rfl trivial ?_
      refine d3 ?_; refine dend rfl (fun h => by cases h) ?_
      refine dr U 600 rfl (by first | exact True.intro | (simp only [AllP, InR, List.nil_append, List.cons_append, and_true]; omega)) ?_
      exact rend _ _ ⟨k + 1, rfl, by omega, bl_tr hB45 hB56 hB45.size, rfl⟩ (by omega) ⟨rfl, rfl, rfl, rfl, iv (by rw [hds]), iv (by omega), trivial⟩
    · obtain rfl : k = h.length := by omega
      have ho5 := own_bw ho hB45
      refine dr U 600 rfl trivial ?_
      refine ap U (v := (.int .i64 (dotI (irow xss i) h h.length))) rfl rfl rfl rfl rfl rfl (fun _ => rfl) rfl (fun _ => rfl) rfl rfl rfl ho5 hB5.size (by omega) (by decide) ?_
      intro a5 c5 w6 ho6 hg6
      have hB6 := hB5.grown hg6 hB5.size (fun g e => (own_block ho5 g e).1)
      rw [ivs_snoc, appTo_snoc] at ho6
      refine dr U 600 rfl (by first | exact True.intro | (simp only [AllP, InR, List.nil_append, List.cons_append, and_true]; omega)) ?_
      exact rend _ _ ⟨i + 1, a5, c5, rfl, by omega, ho6, hB6, rfl⟩ (by omega) (by repeat' (first | exact True.intro | exact rfl | exact iv (by omega) | refine ⟨?_, ?_⟩))
  · obtain rfl : i = xss.length := by omega
    refine dr U 600 rfl trivial ?_
    refine ret Tryz.results32 rfl ⟨_, rfl, ?_, hB⟩
    rw [hfin]
    exact ⟨a2, c2, by rw [appTo_len]; rfl, own_sl ho⟩
end Go.Proofs.YtejlpdbiacmfcaaGreatDoor
end
section
set_option linter.unusedSimpArgs false
set_option linter.unusedVariables false
set_option maxHeartbeats 4000000
set_option maxRecDepth 100000
namespace Go.Proofs.YtejlpdbiacmfcaaGreatDoor
open Go Go.Proofs Go.RowKit Go.Lib

theorem applyF_len (xss : List (List Int)) (h : List Int) : (applyF xss h).1.length ≤ xss.length := by
  unfold applyF
  split
  · simp
  · split
    · simp
    · split
      · simp
      · simp
theorem matrixRows_calls (kind n : Int) (xss : List (List Int)) (a : Option Addr) (c : Nat) (l : List Int) (b : Option Addr) (d : Nat) (hk : -9223372036854775808 ≤ kind ∧ kind ≤ 9223372036854775807) (hn : -9223372036854775808 ≤ n ∧ n ≤ 9223372036854775807) (w : World) (ht : TabOk w)
    (hs : SZ w a xss) (hxl : xss.length ≤ 8796093022208) (hl : LitI w (.slice b l.length d) l ∧ I64 l) (hll : l.length ≤ 17592186044416) :
    Calls Tryz.prog 8 #[.int .i64 kind, .int .i64 n, .slice a xss.length c, .slice b l.length d] w (Ret fun v w' => v = .bool true ∧ Below w.heap.size w w') := by
  obtain ⟨hl, _⟩ := hl
  have hb := hl.sl.1
  refine enter Tryz.func8 rfl Tryz.ntmps8 (Nat.le_of_ble_eq_true rfl) ?_
  refine dr U 600 rfl trivial ?_
  refine call (f := 9) rfl rfl cb9 (lives28_calls w ht) ?_
  rintro v w1 ⟨rfl, hB1⟩
  refine ⟨_, rfl, ?_⟩
  refine dr U 600 rfl trivial ?_
  refine call (f := 31) rfl rfl cb31 (zlight_calls xss l a b c d w1 (hs.stay hB1) hxl) ?_
  rintro v w2 ⟨⟨q, rfl, hq⟩, hB2⟩
  have hB2' := bl_tr hB1 hB2 hB1.size
  refine ⟨_, rfl, ?_⟩
  cases q with
  | false =>
    refine dr U 600 rfl trivial ?_
    exact ret Tryz.results8 rfl ⟨_, rfl, rfl, hB2'⟩
  | true =>
  obtain ⟨hL1, hL2, hL3⟩ := hq.1 rfl
  have hLZ : LenZ xss := ⟨by omega, fun i hi => by have := hL1 i hi; omega⟩
  refine dr U 600 rfl trivial ?_
  refine call (f := 21) rfl rfl cb21 (iown_calls l b d w2 (hb.stay hB2') (by omega)) ?_
  rintro v w3 ⟨⟨a3, c3, rfl, ho3⟩, hB3⟩
  have hB3' := bl_tr hB2' hB3 hB2'.size
  refine ⟨_, rfl, ?_⟩
  refine call (f := 10) rfl rfl cb10 (mapply_calls xss l hLZ.l (fun i hi => by have := hLZ.r i hi; omega) (by omega) a a3 c c3 w3 (hs.stay hB3') (own_sl ho3)) ?_
  rintro v w4 ⟨⟨a4, c4, rfl, hA4⟩, hB4⟩
  have hB4' := bl_tr hB3' hB4 hB3'.size
  refine ⟨_, rfl, ?_⟩
  refine dr U 600 rfl trivial ?_
  refine call (f := 32) rfl rfl cb32 (g28apply_calls xss l hLZ.l (fun i hi => by have := hLZ.r i hi; omega) (by omega) a b c d w4 (hs.stay hB4') (hb.stay hB4')) ?_
  rintro v w5 ⟨⟨a5, c5, rfl, hA5⟩, hB5⟩
  have hB5' := bl_tr hB4' hB5 hB4'.size
  have hA4 := hA4.stay hB5
  refine ⟨_, rfl, ?_⟩
  refine dr U 600 rfl trivial ?_
  refine call (f := 11) rfl rfl cb11 (mstrat_calls kind n w5) ?_
  rintro v w6 ⟨⟨a6, c6, rfl, hO6, _⟩, hB6⟩
  have hB6' := bl_tr hB5' hB6 hB5'.size
  have hA4 := hA4.stay hB6
  have hA5 := hA5.stay hB6
  have hS6 := hO6.sz
  have hal := applyF_len xss l
  refine ⟨_, rfl, ?_⟩
  refine dr U 600 rfl trivial ?_
  refine call (f := 15) rfl rfl cb15 (isame_calls _ _ a4 a5 c4 c5 w6 hA4 hA5 (by omega) (by omega)) ?_
  rintro v w7 ⟨rfl, hB7⟩
  have hB7' := bl_tr hB6' hB7 hB6'.size
  have hS7 := hS6.stay hB7
  refine ⟨_, rfl, ?_⟩
  rw [decide_eq_true rfl]
  refine dr U 600 rfl trivial ?_
  refine cT rfl rfl rfl rfl ?_
  refine dr U 600 rfl trivial ?_
  refine call (f := 34) rfl rfl cb34 (gstrat_calls kind n w7) ?_
  rintro v w8 ⟨⟨a8, c8, rfl, hO8, _⟩, hB8⟩
  have hB8' := bl_tr hB7' hB8 hB7'.size
  have hS8 := hS7.stay hB8
  refine ⟨_, rfl, ?_⟩
  refine call (f := 33) rfl rfl cb33 (zsame_calls _ _ a6 a8 c6 c8 w8 hS8 hO8.sz (strat_lenz kind n) (strat_lenz kind n)) ?_
  rintro v w9 ⟨rfl, hB9⟩
  have hB9' := bl_tr hB8' hB9 hB8'.size
  have hS9 := hS8.stay hB9
  refine ⟨_, rfl, ?_⟩
  rw [decide_eq_true rfl]
  refine dr U 600 rfl trivial ?_
  refine call (f := 17) rfl rfl cb17 (mnorm_calls xss hLZ.l hLZ.r a c w9 (hs.stay hB9')) ?_
  rintro v w10 ⟨rfl, hB10⟩
  have hB10' := bl_tr hB9' hB10 hB9'.size
  have hS10 := hS9.stay hB10
  refine ⟨_, rfl, ?_⟩
  refine dr U 600 rfl trivial ?_
  refine call (f := 35) rfl rfl cb35 (gnorm_calls xss hLZ.l hLZ.r a c w10 (hs.stay hB10')) ?_
  rintro v w11 ⟨rfl, hB11⟩
  have hB11' := bl_tr hB10' hB11 hB10'.size
  have hS11 := hS10.stay hB11
  refine ⟨_, rfl, ?_⟩
  refine cT rfl rfl rfl rfl ?_
  refine dr U 600 rfl trivial ?_
  refine call (f := 17) rfl rfl cb17 (mnorm_calls _ (strat_lenz kind n).l (strat_lenz kind n).r a6 c6 w11 hS11) ?_
  rintro v w12 ⟨rfl, hB12⟩
  have hB12' := bl_tr hB11' hB12 hB11'.size
  have hS12 := hS11.stay hB12
  refine ⟨_, rfl, ?_⟩
  refine dr U 600 rfl trivial ?_
  refine call (f := 35) rfl rfl cb35 (gnorm_calls _ (strat_lenz kind n).l (strat_lenz kind n).r a6 c6 w12 hS12) ?_
  rintro v w13 ⟨rfl, hB13⟩
  refine ⟨_, rfl, ?_⟩
  refine cT rfl rfl rfl rfl ?_
  refine dr U 600 rfl trivial ?_
  exact ret Tryz.results8 rfl ⟨_, rfl, rfl, bl_tr hB12' hB13 hB12'.size⟩
end Go.Proofs.YtejlpdbiacmfcaaGreatDoor
end
