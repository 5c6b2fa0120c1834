/-
  Walks of linear.Rank, Solve, Inverse, Least.
  Conditions: a bound on the sizes of the numbers; the library's table of powers of ten is laid.
-/
import Derived.Test.YtfdekppnilffeaaGreatDoorYVv
set_option linter.unusedSimpArgs false
set_option linter.unusedVariables false
set_option maxHeartbeats 2000000
namespace Go.Proofs.YtfdekppnilffeaaGreatDoor
open Go Go.Proofs Go.RowKit Go.Lib

theorem own_go {w : World} {base e m c : Nat} {a : Option Addr} {cs : List Value} (h : w.ownsRow base e 1 (.slice a m c) m cs) (hm : 0 < m) : ∃ go, a = some ⟨go, 0, none⟩ := by
  rcases h.2 with ⟨_, e⟩ | ⟨q, cap, cur, e, _⟩
  · have : m = 0 := e
    omega
  · simp only [Value.slice.injEq] at e; exact ⟨q, e.1⟩

theorem lRank_calls (xss : List (List Tx)) (S : Nat) (a : Option Addr) (c : Nat) (w : World) (hs : SM w a xss) (hl : xss.length ≤ 1099511627776) (hl2 : ∀ i, i < xss.length → (rw' xss i).length ≤ 1099511627776) (hx : ∀ i, i < xss.length → ∀ j, j < (rw' xss i).length → ((rw' xss i).getD j []).length ≤ 1099511627776)
    (hS : XErr xss 0 → (∀ i t, i < xss.length → t < (rw' xss 0).length → Small S (mval xss i t)) ∧ grw (rw' xss 0).length S ≤ 1000000) :
    Calls Tryz.prog 14 #[.slice a xss.length c] w (Ret fun v w' => (∃ n e, v = .tuple ⟨[.int .i64 n, .int .i64 e]⟩ ∧ RnkS xss n e) ∧ Below w.heap.size w w') := by
  refine enter Tryz.func14 rfl Tryz.ntmps14 (Nat.le_of_ble_eq_true rfl) ?_
  refine dr U 600 rfl trivial ?_
  refine call (f := 50) rfl rfl cb50 (lread_calls xss a c w hs hl hl2 hx) ?_
  rintro v w1 ⟨hr, hB1⟩
  rcases hr with ⟨e, h1, h2, rfl⟩ | ⟨he, am, cm, A, C, rfl, hoM, hOM⟩
  · refine ⟨_, rfl, ?_⟩
    refine dr U 600 rfl trivial ?_
    refine cT rfl rfl rfl (h1) ?_; refine dr U 600 rfl trivial ?_
    exact ret Tryz.results14 rfl ⟨_, rfl, ⟨0, e, rfl, .inl ⟨h1, h2, rfl⟩⟩, hB1⟩
  obtain ⟨h0, h1, h64, h65, _⟩ := he.ok
  obtain ⟨hSm, hG⟩ := hS he
  obtain ⟨go, rfl⟩ := own_go hoM h0
  refine ⟨_, rfl, ?_⟩
  refine dr U 600 rfl trivial ?_
  refine cF rfl rfl rfl ((fun h => h rfl)) ?_; refine dr U 600 rfl trivial ?_
  refine il U rfl rfl rfl rfl rfl rfl rfl (fun _ => rfl) rfl 0 rfl h0 (own_sl hoM) (rws_get h0) ?_
  refine dr U 600 rfl trivial ?_
  refine call (f := 51) rfl rfl cb51 (lreduce_small xss.length (rw' xss 0).length (rw' xss 0).length S (mval xss) h1 (Nat.le_refl _) h1 (by omega) (by omega) hSm hG go cm w.heap.size A C w1 hoM hOM hB1.size) ?_
  rintro v w2 ⟨rfl, A2, C2, ho2, hO2, hB12⟩
  refine ⟨_, rfl, ?_⟩
  refine dr U 600 rfl trivial ?_
  exact ret Tryz.results14 rfl ⟨_, rfl, ⟨_, 0, rfl, .inr ⟨he, rfl, rfl⟩⟩, hB1.trans hB12⟩

/-- The only column of the solution of a system, as texts. -/
theorem gj_sol {n : Nat} {f : Mx} {b : Nat → Rat} (h : (gj n f n).2 = n) : ∀ i, i < n → mapp n f (fun i => (gj n (aug n f (fun i _ => b i)) n).1 i (n + 0)) i = b i := fun i hi =>
  (solve_iff (c := 1) (b := fun i _ => b i) h 0 (by omega) (fun i => (gj n (aug n f (fun i _ => b i)) n).1 i (n + 0))).2 (fun _ _ => rfl) i hi
theorem gj_aug_small {n p S : Nat} {f b : Mx} (hfS : ∀ i t, i < n → t < n → Small S (f i t)) (hbS : ∀ i t, i < n → t < p → Small S (b i t)) (hG : grw n S ≤ 1000000) : ∀ i t, i < n → t < n + p → Small 1000000 ((gj n (aug n f b) n).1 i t) :=
  fun i t hi ht => small_mono (gj_small (aug_small hfS hbS) n (by omega) i t hi ht) hG

theorem BErr.xok {xss : List (List Tx)} {ys : List Tx} (h : BErr xss ys 0) : 0 < xss.length ∧ 0 < (rw' xss 0).length ∧ xss.length ≤ 64 ∧ (rw' xss 0).length ≤ 64 := by
  obtain ⟨h1, _⟩ := h.ok
  obtain ⟨a, b, c, d, _⟩ := h1.ok
  exact ⟨a, b, c, d⟩

theorem lSolve_calls (xss : List (List Tx)) (ys : List Tx) (S : Nat) (a b : Option Addr) (c d : Nat) (w : World) (hs : SM w a xss) (hl : xss.length ≤ 1099511627776) (hl2 : ∀ i, i < xss.length → (rw' xss i).length ≤ 1099511627776) (hx : ∀ i, i < xss.length → ∀ j, j < (rw' xss i).length → ((rw' xss i).getD j []).length ≤ 1099511627776)
    (hsy : Sl w b (strs ys)) (hly : ys.length ≤ 1099511627776) (hy : ∀ j, j < ys.length → (ys.getD j []).length ≤ 1099511627776) (ht : TabOk w)
    (hS : BErr xss ys 0 → (∀ i t, i < xss.length → t < (rw' xss 0).length → Small S (mval xss i t)) ∧ (∀ i, i < ys.length → Small S (vval ys i)) ∧ grw xss.length S ≤ 1000000) :
    Calls Tryz.prog 12 #[.slice a xss.length c, .slice b ys.length d] w (Ret fun v w' => (∃ zs e, SolS xss ys zs e ∧ VOut zs e v w') ∧ Below w.heap.size w w') := by
  refine enter Tryz.func12 rfl Tryz.ntmps12 (Nat.le_of_ble_eq_true rfl) ?_
  refine dr U 600 rfl trivial ?_
  refine call (f := 44) rfl rfl cb44 (lboth_calls xss ys a b c d w hs hl hl2 hx hsy hly hy) ?_
  rintro v w1 ⟨⟨am, nm, cm, av, nv, cv, e, rfl, he, hok⟩, hB1⟩
  refine ⟨_, rfl, ?_⟩
  refine dr U 600 rfl trivial ?_
  refine cS rfl rfl rfl rfl (fun hq1 => ?_) (fun hq1 => ?_)
  · refine dr U 600 rfl trivial ?_
    exact ret Tryz.results12 rfl ⟨_, rfl, ⟨[], e, .inl ⟨hq1, he, rfl⟩, VOut.nil _ _⟩, hB1⟩
  obtain rfl := Classical.not_not.1 hq1
  obtain ⟨rfl, rfl, hM, hV⟩ := hok rfl
  obtain ⟨h0, h1, h64, h65⟩ := he.xok
  obtain ⟨hSm, hSv, hG⟩ := hS he
  have hM0 := hM
  obtain ⟨A, C, hSl, hR, hTb⟩ := hM0
  refine dr U 600 rfl trivial ?_
  refine il U rfl rfl rfl rfl rfl rfl rfl (fun _ => rfl) rfl 0 rfl h0 hSl (rws_get h0) ?_
  refine dr U 600 rfl trivial ?_
  refine cS rfl rfl rfl rfl (fun hq2 => ?_) (fun hq2 => ?_)
  · refine dr U 600 rfl trivial ?_
    exact ret Tryz.results12 rfl ⟨_, rfl, ⟨[], 10, .inr (.inl ⟨he, .inl (fun h => hq2 (by rw [← h])), rfl, rfl⟩), VOut.nil _ _⟩, hB1⟩
  have hsq : xss.length = (rw' xss 0).length := by omega
  refine dr U 600 rfl trivial ?_
  refine cS rfl rfl rfl rfl (fun hq3 => ?_) (fun hq3 => ?_)
  · refine dr U 600 rfl trivial ?_
    exact ret Tryz.results12 rfl ⟨_, rfl, ⟨[], 10, .inr (.inl ⟨he, .inr (fun h => hq3 (by rw [← h])), rfl, rfl⟩), VOut.nil _ _⟩, hB1⟩
  have hlen : ys.length = xss.length := by omega
  rw [hlen] at hV hSv
  rw [← hsq] at hM hSm
  rw [hlen]
  refine dr U 600 rfl trivial ?_
  refine call (f := 47) rfl rfl cb47 (lcolumn_calls xss.length (vval ys) (by omega) av cv w1 hV) ?_
  rintro v w2 ⟨⟨a2, c2, rfl, hN⟩, hB2⟩
  have hB2' := bl_tr hB1 hB2 hB1.size
  refine ⟨_, rfl, ?_⟩
  refine call (f := 46) rfl rfl cb46 (lsolve_calls xss.length 1 S (mval xss) (fun i _ => vval ys i) h0 (by omega) (by omega) (by omega) hSm (fun i t hi _ => hSv i hi) hG am a2 cm c2 w2 (hM.stay hB2) hN) ?_
  rintro v w3 ⟨hr, hB3⟩
  have hB3' := bl_tr hB2' hB3 hB2'.size
  rcases hr with ⟨hns, rfl⟩ | ⟨hfull, a3, c3, rfl, hX⟩
  · refine ⟨_, rfl, ?_⟩
    refine dr U 600 rfl trivial ?_
    refine call (f := 45) rfl rfl cb45 (lsolved_no w3) ?_
    rintro v w4 ⟨⟨a4, c4, rfl, h4⟩, hB4⟩
    refine ⟨_, rfl, ?_⟩
    refine dr U 600 rfl trivial ?_
    exact ret Tryz.results12 rfl ⟨_, rfl, ⟨[], 17, .inr (.inr ⟨he, hsq, hlen, .inl ⟨hns, rfl, rfl⟩⟩), a4, c4, rfl, h4⟩, bl_tr hB3' hB4 hB3'.size⟩
  · refine ⟨_, rfl, ?_⟩
    refine dr U 600 rfl trivial ?_
    refine call (f := 45) rfl rfl cb45 (lsolved_calls xss.length _ h0 (by omega) (fun i hi => gj_aug_small (p := 1) hSm (fun i t hi _ => hSv i hi) hG i (xss.length + 0) hi (by omega)) a3 c3 w3 hX (ht.below hB3')) ?_
    rintro v w4 ⟨⟨zs, e4, h3, a4, c4, rfl, h4⟩, hB4⟩
    refine ⟨_, rfl, ?_⟩
    refine dr U 600 rfl trivial ?_
    exact ret Tryz.results12 rfl ⟨_, rfl, ⟨zs, e4, .inr (.inr ⟨he, hsq, hlen, .inr ⟨hfull, _, gj_sol hfull, h3⟩⟩), a4, c4, rfl, h4⟩, bl_tr hB3' hB4 hB3'.size⟩

theorem sm_small2 {n L M : Nat} {f g : Nat → Rat} (hf : ∀ i, i < n → Small L (f i)) (hg : ∀ i, i < n → Small M (g i)) : ∀ i, i ≤ n → Small (i * (L + M + 1) + 1) (sm i (fun t => f t * g t))
  | 0, _ => small_mono small_zero (by omega)
  | i + 1, h => small_mono (small_add (sm_small2 hf hg i (by omega)) (small_mul (hf i (by omega)) (hg i (by omega)))) (by rw [Nat.add_mul]; omega)
theorem lLeast_calls (xss : List (List Tx)) (ys : List Tx) (S R : Nat) (a b : Option Addr) (c d : Nat) (w : World) (hs : SM w a xss) (hl : xss.length ≤ 1099511627776) (hl2 : ∀ i, i < xss.length → (rw' xss i).length ≤ 1099511627776) (hx : ∀ i, i < xss.length → ∀ j, j < (rw' xss i).length → ((rw' xss i).getD j []).length ≤ 1099511627776)
    (hsy : Sl w b (strs ys)) (hly : ys.length ≤ 1099511627776) (hy : ∀ j, j < ys.length → (ys.getD j []).length ≤ 1099511627776) (ht : TabOk w)
    (hS : BErr xss ys 0 → S ≤ R ∧ (∀ i t, i < xss.length → t < (rw' xss 0).length → Small S (mval xss i t)) ∧ (∀ i, i < ys.length → Small R (vval ys i)) ∧ xss.length * (2 * R + 1) + 1 ≤ 1000000 ∧ grw (rw' xss 0).length (xss.length * (S + R + 1) + 1) ≤ 1000000) :
    Calls Tryz.prog 17 #[.slice a xss.length c, .slice b ys.length d] w (Ret fun v w' => (∃ zs e, LeaS xss ys zs e ∧ VOut zs e v w') ∧ Below w.heap.size w w') := by
  refine enter Tryz.func17 rfl Tryz.ntmps17 (Nat.le_of_ble_eq_true rfl) ?_
  refine dr U 600 rfl trivial ?_
  refine call (f := 44) rfl rfl cb44 (lboth_calls xss ys a b c d w hs hl hl2 hx hsy hly hy) ?_
  rintro v w1 ⟨⟨am, nm, cm, av, nv, cv, e, rfl, he, hok⟩, hB1⟩
  refine ⟨_, rfl, ?_⟩
  refine dr U 600 rfl trivial ?_
  refine cS rfl rfl rfl rfl (fun hq1 => ?_) (fun hq1 => ?_)
  · refine dr U 600 rfl trivial ?_
    exact ret Tryz.results17 rfl ⟨_, rfl, ⟨[], e, .inl ⟨hq1, he, rfl⟩, VOut.nil _ _⟩, hB1⟩
  obtain rfl := Classical.not_not.1 hq1
  obtain ⟨rfl, rfl, hM, hV⟩ := hok rfl
  obtain ⟨h0, h1, h64, h65⟩ := he.xok
  obtain ⟨hSR, hSm, hSv, hK, hG⟩ := hS he
  refine dr U 600 rfl trivial ?_
  refine cS rfl rfl rfl rfl (fun hq2 => ?_) (fun hq2 => ?_)
  · refine dr U 600 rfl trivial ?_
    exact ret Tryz.results17 rfl ⟨_, rfl, ⟨[], 10, .inr (.inl ⟨he, (fun h => hq2 (by rw [← h])), rfl, rfl⟩), VOut.nil _ _⟩, hB1⟩
  have hlen : ys.length = xss.length := by omega
  rw [hlen] at hV hSv
  rw [hlen]
  generalize hm : xss.length = m at *
  generalize hn : (rw' xss 0).length = n at *
  generalize hf : mval xss = f at *
  generalize hv : vval ys = y at *
  refine dr U 600 rfl trivial ?_
  refine call (f := 52) rfl rfl cb52 (lflip_calls m n f h0 h1 (by omega) (by omega) am cm w1 hM) ?_
  rintro v w2 ⟨⟨a2, c2, rfl, hT⟩, hB2⟩
  have hB2' := bl_tr hB1 hB2 hB1.size
  have hM2 := hM.stay hB2
  have hV2 := hV.stay hB2
  refine ⟨_, rfl, ?_⟩
  refine dr U 600 rfl trivial ?_
  refine call (f := 53) rfl rfl cb53 (ltimes_calls n m n R (fun j i => f i j) f hK (fun i hi t ht => small_mono (hSm t i ht hi) hSR) (fun t ht k hk => small_mono (hSm t k ht hk) hSR) h0 h1 (by omega) (by omega) (by omega) a2 am c2 cm w2 hT hM2) ?_
  rintro v w3 ⟨⟨a3, c3, rfl, hP⟩, hB3⟩
  have hB3' := bl_tr hB2' hB3 hB2'.size
  refine ⟨_, rfl, ?_⟩
  refine dr U 600 rfl trivial ?_
  refine call (f := 49) rfl rfl cb49 (lapply_calls n m R (fun j i => f i j) y hK (fun k hk i hi => small_mono (hSm i k hi hk) hSR) hSv a2 av c2 cv w3 (hT.stay hB3) (hV2.stay hB3) (by omega) (by omega)) ?_
  rintro v w4 ⟨⟨a4, c4, rfl, hc4, hA⟩, hB4⟩
  have hB4' := bl_tr hB3' hB4 hB3'.size
  refine ⟨_, rfl, ?_⟩
  refine call (f := 47) rfl rfl cb47 (lcolumn_calls n _ (by omega) a4 c4 w4 hA) ?_
  rintro v w5 ⟨⟨a5, c5, rfl, hN⟩, hB5⟩
  have hB5' := bl_tr hB4' hB5 hB4'.size
  refine ⟨_, rfl, ?_⟩
  have hfS : ∀ i t, i < n → t < n → Small (m * (S + R + 1) + 1) (sm m (fun t' => f t' t * f t' i)) := fun i t hi ht => small_mono (sm_small2 (fun q hq => hSm q t hq ht) (fun q hq => hSm q i hq hi) m (Nat.le_refl _)) (Nat.add_le_add_right (Nat.mul_le_mul_left m (by omega)) 1)
  have hbS : ∀ i t, i < n → t < 1 → Small (m * (S + R + 1) + 1) (sm m (fun t' => f t' i * y t')) := fun i t hi _ => sm_small2 (fun q hq => hSm q i hq hi) hSv m (Nat.le_refl _)
  refine call (f := 46) rfl rfl cb46 (lsolve_calls n 1 (m * (S + R + 1) + 1) _ _ h1 (by omega) (by omega) (by omega) hfS hbS hG a3 a5 c3 c5 w5 ((hP.stay hB4).stay hB5) hN) ?_
  rintro v w6 ⟨hr, hB6⟩
  have hB6' := bl_tr hB5' hB6 hB5'.size
  have hfe : ∀ i, i < n → ∀ k, k < n → sm m (fun t => f t k * f t i) = mmul m (trp f) f i k := fun i hi k hk => by
    unfold mmul trp
    exact sm_congr fun t _ => by grind
  rcases hr with ⟨hns, rfl⟩ | ⟨hfull, a7, c7, rfl, hX⟩
  · refine ⟨_, rfl, ?_⟩
    refine dr U 600 rfl trivial ?_
    refine call (f := 45) rfl rfl cb45 (lsolved_no w6) ?_
    rintro v w7 ⟨⟨a7, c7, rfl, h7⟩, hB7⟩
    refine ⟨_, rfl, ?_⟩
    refine dr U 600 rfl trivial ?_
    refine ret Tryz.results17 rfl ⟨_, rfl, ⟨[], 17, .inr (.inr ⟨he, hlen.trans hm.symm, ?_⟩), a7, c7, rfl, h7⟩, bl_tr hB6' hB7 hB6'.size⟩
    rw [hm, hn, hf, hv]
    exact SlvS.congr (f := fun i k => sm m (fun t => f t k * f t i)) (b := fun i => sm m (fun t => f t i * y t)) (.inl ⟨hns, rfl, rfl⟩) hfe (fun _ _ => rfl)
  · refine ⟨_, rfl, ?_⟩
    refine dr U 600 rfl trivial ?_
    refine call (f := 45) rfl rfl cb45 (lsolved_calls n _ h1 (by omega) (fun i hi => gj_aug_small hfS hbS hG i (n + 0) hi (by omega)) a7 c7 w6 hX (ht.below hB6')) ?_
    rintro v w7 ⟨⟨zs, e4, h3, a8, c8, rfl, h4⟩, hB7⟩
    refine ⟨_, rfl, ?_⟩
    refine dr U 600 rfl trivial ?_
    refine ret Tryz.results17 rfl ⟨_, rfl, ⟨zs, e4, .inr (.inr ⟨he, hlen.trans hm.symm, ?_⟩), a8, c8, rfl, h4⟩, bl_tr hB6' hB7 hB6'.size⟩
    rw [hm, hn, hf, hv]
    exact SlvS.congr (f := fun i k => sm m (fun t => f t k * f t i)) (b := fun i => sm m (fun t => f t i * y t)) (.inr ⟨hfull, _, gj_sol hfull, h3⟩) hfe (fun _ _ => rfl)
end Go.Proofs.YtfdekppnilffeaaGreatDoor
