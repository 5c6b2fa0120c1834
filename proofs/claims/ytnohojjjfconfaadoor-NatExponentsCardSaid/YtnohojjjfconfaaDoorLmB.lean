/-
  Walks of package limbs: Add, Sub, Mul, Of return what the arithmetic of limbs says, and leave all older memory alone.
  Conditions: the numbers take fewer than 2^40 limbs.
-/
import Derived.Test.YtnohojjjfconfaaDoorLmA
import Derived.Test.YtnohojjjfconfaaDoorNumB
set_option linter.unusedSimpArgs false
set_option linter.unusedVariables false
namespace Go.Proofs.YtnohojjjfconfaaDoor
open Go Go.Proofs Go.RowKit


theorem add_calls (p q : Nat) (a b : Option Addr) (c d : Nat) (w : World) (ha : Rd w a c (lim p)) (hb : Rd w b d (lim q)) (hpl : (lim p).length ≤ 1099511627776) (hql : (lim q).length ≤ 1099511627776) :
    Calls Tryd.prog 35 #[.slice a (lim p).length c, .slice b (lim q).length d] w (Ret fun v w' => Own w w' v (lim (p + q))) := by
  have hxl := lim_Lm p
  have hyl := lim_Lm q
  have hvp := val_lim p
  have hvq := val_lim q
  have hres1 : ∀ zs, Lm zs → zs.length = (lim p).length → val zs + 1 * pw (lim p).length = val (lim p) + val (lim q) → zs ++ [1] = lim (p + q) := fun zs h1 h2 h3 => add_can1 h1 h2 (by omega)
  have hres0 : ∀ zs, Lm zs → zs.length = (lim p).length → val zs = val (lim p) + val (lim q) → zs = lim (p + q) := fun zs h1 h2 h3 => add_can0 h1 h2 (by omega)
  have hrs1 : ∀ zs, Lm zs → zs.length = (lim q).length → val zs + 1 * pw (lim q).length = val (lim q) + val (lim p) → zs ++ [1] = lim (p + q) := fun zs h1 h2 h3 => by rw [Nat.add_comm]; exact add_can1 h1 h2 (by omega)
  have hrs0 : ∀ zs, Lm zs → zs.length = (lim q).length → val zs = val (lim q) + val (lim p) → zs = lim (p + q) := fun zs h1 h2 h3 => by rw [Nat.add_comm]; exact add_can0 h1 h2 (by omega)
  generalize hxs : lim p = xs at *
  generalize hys : lim q = ys at *
  refine enter Tryd.func35 rfl Tryd.ntmps35 (Nat.le_of_ble_eq_true rfl) ?_
  refine dr U 600 rfl trivial ?_
  refine cS rfl rfl rfl rfl (fun hq => ?_) (fun hq => ?_)
  · skip
    refine dr U 600 rfl (by first | exact True.intro | (simp only [AllP, InR, List.nil_append, List.cons_append, and_true]; omega)) ?_
    refine mk0 U rfl rfl rfl rfl rfl rfl (ys.length + 1) rfl (by omega) (by omega) (by omega) w.heap.size (Nat.le_refl _) ?_
    intro a0 w0 ho0 hg0
    refine dr U 600 rfl trivial ?_
    refine loopR (fun l w' m => ∃ i zs cy ao co, l = [(20, .slice b ys.length d), (21, .int .i64 ys.length), (22, .int .i64 (i : Nat)), (1, .slice a xs.length c), (5, .slice ao i co), (6, .int .u64 (cy : Nat))] ∧ i ≤ ys.length ∧ zs.length = i ∧ Lm zs ∧ cy ≤ 1 ∧
      val zs + cy * pw i = val (ys.take i) + val (xs.take i) ∧ w'.ownsRow w.heap.size 44 1 (.slice ao i co) i (zs.map u64) ∧ Below w.heap.size w w' ∧ m = ys.length - i)
      ⟨0, [], 0, a0, ys.length + 1, rfl, by omega, rfl, Lm.nil, by omega, by simp [val], ho0, (Below.refl _ _).grown hg0 (Nat.le_refl _) (fun k e => by cases e), rfl⟩ ⟨rfl, rfl, rfl, rfl, rfl, rfl, trivial⟩ ?_
    rintro l w' m ⟨i, zs, cy, ao, co, rfl, hi, hz, hzl, hcy, hv, ho, hB, rfl⟩
    refine dr U 600 rfl trivial ?_
    refine cS rfl rfl rfl rfl (fun hq => ?_) (fun hq => ?_)
    · refine dr U 600 rfl (by first | exact True.intro | (simp only [AllP, InR, List.nil_append, List.cons_append, and_true]; omega)) ?_
      have hi' : i < ys.length := by omega
      have hx1 := hyl.getD i
      have hs := @add_step zs ys xs i cy hi' hz
      refine il U rfl rfl rfl rfl rfl rfl rfl (fun _ => rfl) rfl i (by omega) (by omega) (hb.below hB).1 (getU hi') ?_
      refine dr U 600 rfl (by first | exact True.intro | (simp only [AllP, InR, List.nil_append, List.cons_append, and_true]; omega)) ?_
      refine cS rfl rfl rfl rfl (fun hq => ?_) (fun hq => ?_)
      · refine dr U 600 rfl (by first | exact True.intro | (simp only [AllP, InR, List.nil_append, List.cons_append, and_true]; omega)) ?_
        have hj : i < xs.length := by omega
        have hy1 := hxl.getD i
        have hs := hs _ (val_take_succ xs i hj) hv
        refine il U rfl rfl rfl rfl rfl rfl rfl (fun _ => rfl) rfl i (by omega) (by omega) (ha.below hB).1 (getU hj) ?_
        generalize hx2 : ys.getD i 0 = x at *
        generalize hy2 : xs.getD i 0 = y at *
        refine dr U 600 rfl (by first | exact True.intro | (simp only [AllP, InR, List.nil_append, List.cons_append, and_true]; omega)) ?_
        refine ap U (v := (u64 ((x + cy + y) % 1000000000))) (iv (by omega)) rfl rfl rfl rfl rfl (fun _ => rfl) rfl (fun _ => rfl) rfl rfl rfl ho hB.size (by omega) (by decide) ?_
        intro a1 c1 w1 ho1 hg1
        refine dr U 600 rfl (by first | exact True.intro | (simp only [AllP, InR, List.nil_append, List.cons_append, and_true]; omega)) ?_
        refine rend _ _ ⟨i + 1, zs ++ [(x + cy + y) % 1000000000], (x + cy + y) / 1000000000, a1, c1, rfl, by omega, by simp [hz], hzl.snoc (by omega), by omega, hs, by simpa using ho1, hB.grown hg1 hB.size (fun g hg => (own_block ho g hg).1), rfl⟩ (by omega) ⟨rfl, rfl, iv (by omega), rfl, rfl, iv (by omega), trivial⟩
      · have hs := hs _ (val_take_beyond xs i (by omega)) hv
        generalize hx2 : ys.getD i 0 = x at *
        refine dr U 600 rfl (by first | exact True.intro | (simp only [AllP, InR, List.nil_append, List.cons_append, and_true]; omega)) ?_
        refine ap U (v := (u64 ((x + cy + 0) % 1000000000))) (iv (by omega)) rfl rfl rfl rfl rfl (fun _ => rfl) rfl (fun _ => rfl) rfl rfl rfl ho hB.size (by omega) (by decide) ?_
        intro a1 c1 w1 ho1 hg1
        refine dr U 600 rfl (by first | exact True.intro | (simp only [AllP, InR, List.nil_append, List.cons_append, and_true]; omega)) ?_
        refine rend _ _ ⟨i + 1, zs ++ [(x + cy + 0) % 1000000000], (x + cy + 0) / 1000000000, a1, c1, rfl, by omega, by simp [hz], hzl.snoc (by omega), by omega, hs, by simpa using ho1, hB.grown hg1 hB.size (fun g hg => (own_block ho g hg).1), rfl⟩ (by omega) ⟨rfl, rfl, iv (by omega), rfl, rfl, iv (by omega), trivial⟩
    · obtain rfl : i = ys.length := by omega
      rw [take_all (Nat.le_refl _), take_all (show xs.length ≤ ys.length by omega)] at hv
      refine dr U 600 rfl trivial ?_
      refine cS rfl rfl rfl rfl (fun hq => ?_) (fun hq => ?_)
      · obtain rfl : cy = 1 := by omega
        refine dr U 600 rfl (by first | exact True.intro | (simp only [AllP, InR, List.nil_append, List.cons_append, and_true]; omega)) ?_
        refine ap U (v := (u64 1)) rfl rfl rfl rfl rfl rfl (fun _ => rfl) rfl (fun _ => rfl) rfl rfl rfl ho hB.size (by omega) (by decide) ?_
        intro a1 c1 w1 ho1 hg1
        refine dr U 600 rfl (by first | exact True.intro | (simp only [AllP, InR, List.nil_append, List.cons_append, and_true]; omega)) ?_
        refine ret Tryd.results35 rfl ⟨_, rfl, ?_⟩
        have e := hrs1 zs hzl hz hv
        have e2 : (lim (p + q)).length = ys.length + 1 := by rw [← e]; simp [hz]
        refine ⟨a1, c1, by rw [e2]; rfl, ?_, hB.grown hg1 hB.size (fun g hg => (own_block ho g hg).1)⟩
        rw [e2, ← e]; simpa using ho1
      · obtain rfl : cy = 0 := by omega
        refine dr U 600 rfl (by first | exact True.intro | (simp only [AllP, InR, List.nil_append, List.cons_append, and_true]; omega)) ?_
        refine ret Tryd.results35 rfl ⟨_, rfl, ?_⟩
        have e := hrs0 zs hzl hz (by simpa using hv)
        have e2 : (lim (p + q)).length = ys.length := by rw [← e]; simp [hz]
        refine ⟨ao, co, by rw [e2]; rfl, ?_, hB⟩
        rw [e2, ← e]; exact ho
  · skip
    refine dr U 600 rfl (by first | exact True.intro | (simp only [AllP, InR, List.nil_append, List.cons_append, and_true]; omega)) ?_
    refine mk0 U rfl rfl rfl rfl rfl rfl (xs.length + 1) rfl (by omega) (by omega) (by omega) w.heap.size (Nat.le_refl _) ?_
    intro a0 w0 ho0 hg0
    refine dr U 600 rfl trivial ?_
    refine loopR (fun l w' m => ∃ i zs cy ao co, l = [(20, .slice a xs.length c), (21, .int .i64 xs.length), (22, .int .i64 (i : Nat)), (1, .slice b ys.length d), (5, .slice ao i co), (6, .int .u64 (cy : Nat))] ∧ i ≤ xs.length ∧ zs.length = i ∧ Lm zs ∧ cy ≤ 1 ∧
      val zs + cy * pw i = val (xs.take i) + val (ys.take i) ∧ w'.ownsRow w.heap.size 44 1 (.slice ao i co) i (zs.map u64) ∧ Below w.heap.size w w' ∧ m = xs.length - i)
      ⟨0, [], 0, a0, xs.length + 1, rfl, by omega, rfl, Lm.nil, by omega, by simp [val], ho0, (Below.refl _ _).grown hg0 (Nat.le_refl _) (fun k e => by cases e), rfl⟩ ⟨rfl, rfl, rfl, rfl, rfl, rfl, trivial⟩ ?_
    rintro l w' m ⟨i, zs, cy, ao, co, rfl, hi, hz, hzl, hcy, hv, ho, hB, rfl⟩
    refine dr U 600 rfl trivial ?_
    refine cS rfl rfl rfl rfl (fun hq => ?_) (fun hq => ?_)
    · refine dr U 600 rfl (by first | exact True.intro | (simp only [AllP, InR, List.nil_append, List.cons_append, and_true]; omega)) ?_
      have hi' : i < xs.length := by omega
      have hx1 := hxl.getD i
      have hs := @add_step zs xs ys i cy hi' hz
      refine il U rfl rfl rfl rfl rfl rfl rfl (fun _ => rfl) rfl i (by omega) (by omega) (ha.below hB).1 (getU hi') ?_
      refine dr U 600 rfl (by first | exact True.intro | (simp only [AllP, InR, List.nil_append, List.cons_append, and_true]; omega)) ?_
      refine cS rfl rfl rfl rfl (fun hq => ?_) (fun hq => ?_)
      · refine dr U 600 rfl (by first | exact True.intro | (simp only [AllP, InR, List.nil_append, List.cons_append, and_true]; omega)) ?_
        have hj : i < ys.length := by omega
        have hy1 := hyl.getD i
        have hs := hs _ (val_take_succ ys i hj) hv
        refine il U rfl rfl rfl rfl rfl rfl rfl (fun _ => rfl) rfl i (by omega) (by omega) (hb.below hB).1 (getU hj) ?_
        generalize hx2 : xs.getD i 0 = x at *
        generalize hy2 : ys.getD i 0 = y at *
        refine dr U 600 rfl (by first | exact True.intro | (simp only [AllP, InR, List.nil_append, List.cons_append, and_true]; omega)) ?_
        refine ap U (v := (u64 ((x + cy + y) % 1000000000))) (iv (by omega)) rfl rfl rfl rfl rfl (fun _ => rfl) rfl (fun _ => rfl) rfl rfl rfl ho hB.size (by omega) (by decide) ?_
        intro a1 c1 w1 ho1 hg1
        refine dr U 600 rfl (by first | exact True.intro | (simp only [AllP, InR, List.nil_append, List.cons_append, and_true]; omega)) ?_
        refine rend _ _ ⟨i + 1, zs ++ [(x + cy + y) % 1000000000], (x + cy + y) / 1000000000, a1, c1, rfl, by omega, by simp [hz], hzl.snoc (by omega), by omega, hs, by simpa using ho1, hB.grown hg1 hB.size (fun g hg => (own_block ho g hg).1), rfl⟩ (by omega) ⟨rfl, rfl, iv (by omega), rfl, rfl, iv (by omega), trivial⟩
      · have hs := hs _ (val_take_beyond ys i (by omega)) hv
        generalize hx2 : xs.getD i 0 = x at *
        refine dr U 600 rfl (by first | exact True.intro | (simp only [AllP, InR, List.nil_append, List.cons_append, and_true]; omega)) ?_
        refine ap U (v := (u64 ((x + cy + 0) % 1000000000))) (iv (by omega)) rfl rfl rfl rfl rfl (fun _ => rfl) rfl (fun _ => rfl) rfl rfl rfl ho hB.size (by omega) (by decide) ?_
        intro a1 c1 w1 ho1 hg1
        refine dr U 600 rfl (by first | exact True.intro | (simp only [AllP, InR, List.nil_append, List.cons_append, and_true]; omega)) ?_
        refine rend _ _ ⟨i + 1, zs ++ [(x + cy + 0) % 1000000000], (x + cy + 0) / 1000000000, a1, c1, rfl, by omega, by simp [hz], hzl.snoc (by omega), by omega, hs, by simpa using ho1, hB.grown hg1 hB.size (fun g hg => (own_block ho g hg).1), rfl⟩ (by omega) ⟨rfl, rfl, iv (by omega), rfl, rfl, iv (by omega), trivial⟩
    · obtain rfl : i = xs.length := by omega
      rw [take_all (Nat.le_refl _), take_all (show ys.length ≤ xs.length by omega)] at hv
      refine dr U 600 rfl trivial ?_
      refine cS rfl rfl rfl rfl (fun hq => ?_) (fun hq => ?_)
      · obtain rfl : cy = 1 := by omega
        refine dr U 600 rfl (by first | exact True.intro | (simp only [AllP, InR, List.nil_append, List.cons_append, and_true]; omega)) ?_
        refine ap U (v := (u64 1)) rfl rfl rfl rfl rfl rfl (fun _ => rfl) rfl (fun _ => rfl) rfl rfl rfl ho hB.size (by omega) (by decide) ?_
        intro a1 c1 w1 ho1 hg1
        refine dr U 600 rfl (by first | exact True.intro | (simp only [AllP, InR, List.nil_append, List.cons_append, and_true]; omega)) ?_
        refine ret Tryd.results35 rfl ⟨_, rfl, ?_⟩
        have e := hres1 zs hzl hz hv
        have e2 : (lim (p + q)).length = xs.length + 1 := by rw [← e]; simp [hz]
        refine ⟨a1, c1, by rw [e2]; rfl, ?_, hB.grown hg1 hB.size (fun g hg => (own_block ho g hg).1)⟩
        rw [e2, ← e]; simpa using ho1
      · obtain rfl : cy = 0 := by omega
        refine dr U 600 rfl (by first | exact True.intro | (simp only [AllP, InR, List.nil_append, List.cons_append, and_true]; omega)) ?_
        refine ret Tryd.results35 rfl ⟨_, rfl, ?_⟩
        have e := hres0 zs hzl hz (by simpa using hv)
        have e2 : (lim (p + q)).length = xs.length := by rw [← e]; simp [hz]
        refine ⟨ao, co, by rw [e2]; rfl, ?_, hB⟩
        rw [e2, ← e]; exact ho
end Go.Proofs.YtnohojjjfconfaaDoor
