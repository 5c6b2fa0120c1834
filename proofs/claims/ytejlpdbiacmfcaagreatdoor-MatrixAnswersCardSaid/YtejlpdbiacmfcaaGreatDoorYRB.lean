/-
  Walks of the reference's limbs: Plus, Minus, Order.
  Conditions: fewer than 2^36 limbs.
  Walks of the reference's limbs: Order, Times.
  Walks of the reference's limbs: short, scaled.
  Conditions: fewer than 2^36 limbs; the small number is below the base (and not 0 where it divides).
  The remainder of an int that may be negative, as the program computes it.
  No conditions: each theorem names its own premises.
-/
import Derived.Test.YtejlpdbiacmfcaaGreatDoorYRul
import Derived.Test.YtejlpdbiacmfcaaGreatDoorYFr
set_option linter.unusedSimpArgs false
set_option linter.unusedVariables false
namespace Go.Proofs.YtejlpdbiacmfcaaGreatDoor
section
set_option maxHeartbeats 1000000
open Go Go.Proofs Go.RowKit Go.Lib

theorem plus_step {zs : List Nat} {A B A' B' i cy x y s : Nat} (hz : zs.length = i) (hs : s = cy + x + y) (hA : A' = A + pw i * x) (hB : B' = B + pw i * y) (h : val zs + cy * pw i = A + B) :
  val (zs ++ [s % 1000000000]) + s / 1000000000 * pw (i + 1) = A' + B' := by
 rw [val_snoc, hz, pw_succ, hA, hB]
 have e : pw i * (s % 1000000000) + s / 1000000000 * (1000000000 * pw i) = pw i * s := by
  have h1 : s / 1000000000 * (1000000000 * pw i) = pw i * (1000000000 * (s / 1000000000)) := by
   rw [← Nat.mul_assoc, Nat.mul_comm, Nat.mul_comm (s / 1000000000)]
  rw [h1, ← Nat.mul_add, Nat.mod_add_div]
 rw [hs] at e ⊢
 rw [Nat.mul_add, Nat.mul_add] at e
 rw [Nat.mul_comm cy] at h
 omega

theorem plus_can {zs : List Nat} {p q : Nat} (hz : Lm zs) (hv : val zs = p + q) (hl : zs.length ≤ max (lim p).length (lim q).length ∨ ∃ k, zs.length = k + 1 ∧ pw k ≤ val zs) : zs = lim (p + q) := by
 rw [← hv]
 refine (lim_val hz (fun k hk => ?_)).symm
 rcases hl with hl | ⟨k', h1, h2⟩
 ·rcases Nat.le_total (lim p).length (lim q).length with h | h
  ·rw [Nat.max_eq_right h] at hl
   obtain ⟨j, hj⟩ : ∃ j, (lim q).length = j + 1 := ⟨(lim q).length - 1, by omega⟩
   have := lim_len_ge hj
   have := pw_le (show k ≤ j by omega)
   omega
  ·rw [Nat.max_eq_left h] at hl
   obtain ⟨j, hj⟩ : ∃ j, (lim p).length = j + 1 := ⟨(lim p).length - 1, by omega⟩
   have := lim_len_ge hj
   have := pw_le (show k ≤ j by omega)
   omega
 ·obtain rfl : k = k' := by omega
  exact h2


theorem plus_calls (p q : Nat) (a b : Option Addr) (c d : Nat) (w : World) (ha : RdI w a c (lim p)) (hb : RdI w b d (lim q)) (hpl : (lim p).length ≤ 1099511627776) (hql : (lim q).length ≤ 1099511627776) :
  Calls Tryz.prog 61 #[.slice a (lim p).length c, .slice b (lim q).length d] w (Ret fun v w' => OwnI w w' v (lim (p + q))) := by
 have hxl := lim_Lm p
 have hyl := lim_Lm q
 have hvp := val_lim p
 have hvq := val_lim q
 have hcan := fun zs h1 h2 h3 => @plus_can zs p q h1 h2 h3
 generalize hxs : lim p = xs at *
 generalize hys : lim q = ys at *
 refine enter Tryz.func61 rfl Tryz.ntmps61 (Nat.le_of_ble_eq_true rfl) ?_
 refine dT rfl ?_
 refine loopR (fun l w' m => ∃ i zs cy ao co, l = [(0, .slice a xs.length c), (1, .slice b ys.length d), (5, .slice ao i co), (6, .int .i64 (cy : Nat)), (7, .int .i64 (i : Nat))] ∧ i ≤ max xs.length ys.length + 1 ∧ zs.length = i ∧ Lm zs ∧ cy ≤ 1 ∧
  val zs + cy * pw i = val (xs.take i) + val (ys.take i) ∧ (i ≤ max xs.length ys.length ∨ (cy = 0 ∧ ∃ k, i = k + 1 ∧ pw k ≤ val zs)) ∧ w'.ownsRow w.heap.size 3 1 (.slice ao i co) i (zs.map i64n) ∧ Below w.heap.size w w' ∧ m = max xs.length ys.length + 1 - i)
  ⟨0, [], 0, none, 0, rfl, by omega, rfl, Lm.nil, by omega, by simp [val], .inl (by omega), ⟨rfl, .inl ⟨rfl, rfl⟩⟩, Below.refl _ _, rfl⟩ ⟨rfl, rfl, rfl, rfl, rfl, trivial⟩ ?_
 rintro l w' m ⟨i, zs, cy, ao, co, rfl, hi, hz, hzl, hcy, hv, hd, ho, hB, rfl⟩
 refine dT rfl ?_
 refine cS rfl rfl rfl rfl (fun hq => ?_) (fun hq => ?_)
 ·have hi' : i < xs.length := by omega
  have hx1 := hxl.getD i
  have hs1 := val_take_succ xs i hi'
  refine dT rfl ?_
  refine cT rfl rfl rfl (by omega) ?_
  refine dT rfl ?_
  refine il U rfl rfl rfl rfl rfl rfl rfl (fun _ => rfl) rfl i (by omega) (by omega) (ha.below hB).1 (getI hi') ?_
  generalize hx2 : xs.getD i 0 = x at *
  refine dS rfl ?_
  refine cS rfl rfl rfl rfl (fun hq => ?_) (fun hq => ?_)
  ·have hj : i < ys.length := by omega
   have hy1 := hyl.getD i
   have hs2 := val_take_succ ys i hj
   refine dT rfl ?_
   refine il U rfl rfl rfl rfl rfl rfl rfl (fun _ => rfl) rfl i (by omega) (by omega) (hb.below hB).1 (getI hj) ?_
   generalize hy2 : ys.getD i 0 = y at *
   refine dS rfl ?_
   refine ap U (v := (i64n ((cy + x + y) % 1000000000))) (iv (by omega)) rfl rfl rfl rfl rfl (fun _ => rfl) rfl (fun _ => rfl) rfl rfl rfl ho hB.size (by omega) (by decide) ?_
   intro a1 c1 w1 ho1 hg1
   refine dS rfl ?_
   refine rend _ _ ⟨i + 1, zs ++ [(cy + x + y) % 1000000000], (cy + x + y) / 1000000000, a1, c1, rfl, by omega, by simp [hz], hzl.snoc (by omega), by omega, plus_step hz rfl hs1 hs2 hv, ?_, by simpa using ho1, hB.grown hg1 hB.size (fun g hg => (own_block ho g hg).1), rfl⟩ (by omega) ⟨rfl, rfl, rfl, iv (by omega), iv (by omega), trivial⟩
   exact .inl (by omega)
  ·have hs2 := val_take_beyond ys i (by omega)
   refine dS rfl ?_
   refine ap U (v := (i64n ((cy + x) % 1000000000))) (iv (by omega)) rfl rfl rfl rfl rfl (fun _ => rfl) rfl (fun _ => rfl) rfl rfl rfl ho hB.size (by omega) (by decide) ?_
   intro a1 c1 w1 ho1 hg1
   refine dS rfl ?_
   refine rend _ _ ⟨i + 1, zs ++ [(cy + x) % 1000000000], (cy + x) / 1000000000, a1, c1, rfl, by omega, by simp [hz], hzl.snoc (by omega), by omega, plus_step hz (by omega) hs1 hs2 hv, ?_, by simpa using ho1, hB.grown hg1 hB.size (fun g hg => (own_block ho g hg).1), rfl⟩ (by omega) ⟨rfl, rfl, rfl, iv (by omega), iv (by omega), trivial⟩
   exact .inl (by omega)
 ·have hs1 := val_take_beyond xs i (by omega)
  have hx0 : ¬ i < xs.length := by omega
  refine dT rfl ?_
  refine cS rfl rfl rfl rfl (fun hq => ?_) (fun hq => ?_)
  ·have hj : i < ys.length := by omega
   have hy1 := hyl.getD i
   have hs2 := val_take_succ ys i hj
   refine dT rfl ?_
   refine cF rfl rfl rfl (by omega) ?_
   refine dT rfl ?_
   refine cT rfl rfl rfl (by omega) ?_
   refine dT rfl ?_
   refine il U rfl rfl rfl rfl rfl rfl rfl (fun _ => rfl) rfl i (by omega) (by omega) (hb.below hB).1 (getI hj) ?_
   generalize hy2 : ys.getD i 0 = y at *
   refine dS rfl ?_
   refine ap U (v := (i64n ((cy + y) % 1000000000))) (iv (by omega)) rfl rfl rfl rfl rfl (fun _ => rfl) rfl (fun _ => rfl) rfl rfl rfl ho hB.size (by omega) (by decide) ?_
   intro a1 c1 w1 ho1 hg1
   refine dS rfl ?_
   refine rend _ _ ⟨i + 1, zs ++ [(cy + y) % 1000000000], (cy + y) / 1000000000, a1, c1, rfl, by omega, by simp [hz], hzl.snoc (by omega), by omega, plus_step hz (by omega) hs1 hs2 hv, ?_, by simpa using ho1, hB.grown hg1 hB.size (fun g hg => (own_block ho g hg).1), rfl⟩ (by omega) ⟨rfl, rfl, rfl, iv (by omega), iv (by omega), trivial⟩
   exact .inl (by omega)
  ·have hs2 := val_take_beyond ys i (by omega)
   have hy0 : ¬ i < ys.length := by omega
   refine dT rfl ?_
   refine cS rfl rfl rfl rfl (fun hq => ?_) (fun hq => ?_)
   ·obtain rfl : cy = 1 := by omega
    have hi2 : i = max xs.length ys.length := by
     rcases hd with h | ⟨h, _⟩
     ·omega
     ·omega
    refine dT rfl ?_
    refine cF rfl rfl rfl (by omega) ?_
    refine dT rfl ?_
    refine cF rfl rfl rfl (by omega) ?_
    refine dS rfl ?_
    refine ap U (v := (i64n (1 % 1000000000))) (iv (by omega)) rfl rfl rfl rfl rfl (fun _ => rfl) rfl (fun _ => rfl) rfl rfl rfl ho hB.size (by omega) (by decide) ?_
    intro a1 c1 w1 ho1 hg1
    refine dS rfl ?_
    refine rend _ _ ⟨i + 1, zs ++ [1 % 1000000000], 1 / 1000000000, a1, c1, rfl, by omega, by simp [hz], hzl.snoc (by omega), by omega, plus_step hz (by omega) hs1 hs2 hv, ?_, by simpa using ho1, hB.grown hg1 hB.size (fun g hg => (own_block ho g hg).1), rfl⟩ (by omega) ⟨rfl, rfl, rfl, iv (by omega), iv (by omega), trivial⟩
    refine .inr ⟨rfl, i, rfl, ?_⟩
    rw [val_snoc, hz]
    have := pw_pos i
    omega
   ·obtain rfl : cy = 0 := by omega
    refine dT rfl ?_
    refine ret Tryz.results61 rfl ⟨_, rfl, ?_⟩
    have e := hcan zs hzl (by rw [take_all (by omega), take_all (by omega)] at hv; omega) (by
     rcases hd with h | ⟨_, k, h1, h2⟩
     ·exact .inl (by omega)
     ·exact .inr ⟨k, by omega, h2⟩)
    have e2 : (lim (p + q)).length = i := by rw [← e]; exact hz
    refine ⟨ao, co, by rw [e2]; rfl, ?_, hB⟩
    rw [e2, ← e]; exact ho


theorem minus_calls (p q : Nat) (hpq : q ≤ p) (a b : Option Addr) (c d : Nat) (w : World) (ha : RdI w a c (lim p)) (hb : RdI w b d (lim q)) (hpl : (lim p).length ≤ 1099511627776) :
  Calls Tryz.prog 104 #[.slice a (lim p).length c, .slice b (lim q).length d] w (Ret fun v w' => OwnI w w' v (lim (p - q))) := by
 have hxl := lim_Lm p
 have hyl := lim_Lm q
 have hvp := val_lim p
 have hvq := val_lim q
 have hll := lim_len_mono hpq
 have hres : ∀ zs bo, Lm zs → zs.length = (lim p).length → bo ≤ 1 → val zs + val (lim q) = val (lim p) + bo * pw (lim p).length → val zs = p - q := by
  intro zs bo h1 h2 h3 h4
  have := val_lt h1
  rw [h2] at this
  obtain rfl | rfl : bo = 0 ∨ bo = 1 := by omega
  ·omega
  ·omega
 generalize hxs : lim p = xs at *
 generalize hys : lim q = ys at *
 refine enter Tryz.func104 rfl Tryz.ntmps104 (Nat.le_of_ble_eq_true rfl) ?_
 refine dT rfl ?_
 refine loopR (fun l w' m => ∃ i zs bo ao co, l = [(0, .slice a xs.length c), (1, .slice b ys.length d), (5, .slice ao i co), (6, .int .i64 (bo : Nat)), (7, .int .i64 (i : Nat))] ∧ i ≤ xs.length ∧ zs.length = i ∧ Lm zs ∧ bo ≤ 1 ∧
  val zs + val (ys.take i) = val (xs.take i) + bo * pw i ∧ w'.ownsRow w.heap.size 3 1 (.slice ao i co) i (zs.map i64n) ∧ Below w.heap.size w w' ∧ m = xs.length - i)
  ⟨0, [], 0, none, 0, rfl, by omega, rfl, Lm.nil, by omega, by simp [val], ⟨rfl, .inl ⟨rfl, rfl⟩⟩, Below.refl _ _, rfl⟩ ⟨rfl, rfl, rfl, rfl, rfl, trivial⟩ ?_
 rintro l w' m ⟨i, zs, bo, ao, co, rfl, hi, hz, hzl, hcy, hv, ho, hB, rfl⟩
 refine dT rfl ?_
 refine cS rfl rfl rfl rfl (fun hq => ?_) (fun hq => ?_)
 ·have hi' : i < xs.length := by omega
  have hx1 := hxl.getD i
  refine dT rfl ?_
  refine il U rfl rfl rfl rfl rfl rfl rfl (fun _ => rfl) rfl i (by omega) (by omega) (ha.below hB).1 (getI hi') ?_
  refine dS rfl ?_
  refine cS rfl rfl rfl rfl (fun hq => ?_) (fun hq => ?_)
  ·have hj : i < ys.length := by omega
   have hy1 := hyl.getD i
   have hyt := val_take_succ ys i hj
   refine dT rfl ?_
   refine il U rfl rfl rfl rfl rfl rfl rfl (fun _ => rfl) rfl i (by omega) (by omega) (hb.below hB).1 (getI hj) ?_
   have hs := @sub_step zs xs ys i bo hi' hz hxl _ hy1 hcy hyt hv
   generalize hx2 : xs.getD i 0 = x at *
   generalize hy2 : ys.getD i 0 = y at *
   refine dS rfl ?_
   refine cS rfl rfl rfl rfl (fun hq => ?_) (fun hq => ?_)
   ·refine dS rfl ?_
    refine ap U (v := (i64n (x + 1000000000 - (bo + y)))) (iv (by omega)) rfl rfl rfl rfl rfl (fun _ => rfl) rfl (fun _ => rfl) rfl rfl rfl ho hB.size (by omega) (by decide) ?_
    intro a1 c1 w1 ho1 hg1
    refine dS rfl ?_
    refine rend _ _ ⟨i + 1, zs ++ [x + 1000000000 - (bo + y)], 1, a1, c1, rfl, by omega, by simp [hz], hzl.snoc (by omega), by omega, hs _ 1 (by omega), by simpa using ho1, hB.grown hg1 hB.size (fun g hg => (own_block ho g hg).1), rfl⟩ (by omega) ⟨rfl, rfl, rfl, rfl, iv (by omega), trivial⟩
   ·refine dS rfl ?_
    refine ap U (v := (i64n (x - (bo + y)))) (iv (by omega)) rfl rfl rfl rfl rfl (fun _ => rfl) rfl (fun _ => rfl) rfl rfl rfl ho hB.size (by omega) (by decide) ?_
    intro a1 c1 w1 ho1 hg1
    refine dS rfl ?_
    refine rend _ _ ⟨i + 1, zs ++ [x - (bo + y)], 0, a1, c1, rfl, by omega, by simp [hz], hzl.snoc (by omega), by omega, hs _ 0 (by omega), by simpa using ho1, hB.grown hg1 hB.size (fun g hg => (own_block ho g hg).1), rfl⟩ (by omega) ⟨rfl, rfl, rfl, rfl, iv (by omega), trivial⟩
  ·have hyt := val_take_beyond ys i (by omega)
   have hy1 : 0 < 1000000000 := by omega
   have hs := @sub_step zs xs ys i bo hi' hz hxl 0 hy1 hcy hyt hv
   generalize hx2 : xs.getD i 0 = x at *
   refine dS rfl ?_
   refine cS rfl rfl rfl rfl (fun hq => ?_) (fun hq => ?_)
   ·refine dS rfl ?_
    refine ap U (v := (i64n (x + 1000000000 - (bo + 0)))) (iv (by omega)) rfl rfl rfl rfl rfl (fun _ => rfl) rfl (fun _ => rfl) rfl rfl rfl ho hB.size (by omega) (by decide) ?_
    intro a1 c1 w1 ho1 hg1
    refine dS rfl ?_
    refine rend _ _ ⟨i + 1, zs ++ [x + 1000000000 - (bo + 0)], 1, a1, c1, rfl, by omega, by simp [hz], hzl.snoc (by omega), by omega, hs _ 1 (by omega), by simpa using ho1, hB.grown hg1 hB.size (fun g hg => (own_block ho g hg).1), rfl⟩ (by omega) ⟨rfl, rfl, rfl, rfl, iv (by omega), trivial⟩
   ·refine dS rfl ?_
    refine ap U (v := (i64n (x - (bo + 0)))) (iv (by omega)) rfl rfl rfl rfl rfl (fun _ => rfl) rfl (fun _ => rfl) rfl rfl rfl ho hB.size (by omega) (by decide) ?_
    intro a1 c1 w1 ho1 hg1
    refine dS rfl ?_
    refine rend _ _ ⟨i + 1, zs ++ [x - (bo + 0)], 0, a1, c1, rfl, by omega, by simp [hz], hzl.snoc (by omega), by omega, hs _ 0 (by omega), by simpa using ho1, hB.grown hg1 hB.size (fun g hg => (own_block ho g hg).1), rfl⟩ (by omega) ⟨rfl, rfl, rfl, rfl, iv (by omega), trivial⟩
 ·obtain rfl : i = xs.length := by omega
  refine dT rfl ?_
  rw [take_all (Nat.le_refl _), take_all (show ys.length ≤ xs.length by omega)] at hv
  have e := hres zs bo hzl hz hcy hv
  refine call (f := 105) rfl rfl cb105 (rtrim_ownN xs.length zs hz ao co w.heap.size w' ho hzl (by omega)) ?_
  rintro v w1 ⟨rfl, rfl, ho1⟩
  refine ⟨_, rfl, ?_⟩
  refine dT rfl ?_
  refine ret Tryz.results104 rfl ⟨_, rfl, ?_⟩
  rw [e] at ho1
  exact ⟨_, _, by rw [e]; rfl, ho1, hB⟩
end
section
set_option maxHeartbeats 1000000
open Go Go.Proofs Go.RowKit Go.Lib

theorem order_calls (p q : Nat) (a b : Option Addr) (c d : Nat) (w : World) (ha : RdI w a c (lim p)) (hb : RdI w b d (lim q)) (hpl : (lim p).length ≤ 1099511627776) (hql : (lim q).length ≤ 1099511627776) :
  Calls Tryz.prog 103 #[.slice a (lim p).length c, .slice b (lim q).length d] w (Ret fun v w' => v = .int .i64 (cmpN p q) ∧ Below w.heap.size w w') := by
 have hxl := lim_Lm p
 have hyl := lim_Lm q
 have hvp := val_lim p
 have hvq := val_lim q
 have hres1 := @cmp_len p q
 generalize hxs : lim p = xs at *
 generalize hys : lim q = ys at *
 refine enter Tryz.func103 rfl Tryz.ntmps103 (Nat.le_of_ble_eq_true rfl) ?_
 refine dT rfl ?_
 refine cS rfl rfl rfl rfl (fun hq => ?_) (fun hq => ?_)
 ·have hr := hres1 (by omega)
  refine dT rfl ?_
  refine cS rfl rfl rfl rfl (fun hq => ?_) (fun hq => ?_)
  ·refine dT rfl ?_
   refine ret Tryz.results103 rfl ⟨_, rfl, ?_, Below.refl _ _⟩
   rw [← hr]; unfold cmpN; rw [if_pos (by omega)]; rfl
  ·refine dT rfl ?_
   refine ret Tryz.results103 rfl ⟨_, rfl, ?_, Below.refl _ _⟩
   rw [← hr]; unfold cmpN; rw [if_neg (by omega), if_pos (by omega)]; rfl
 ·have hl : xs.length = ys.length := by omega
  refine dS rfl ?_
  refine loopR (fun l w' m => ∃ j : Nat, l = [(0, .slice a xs.length c), (1, .slice b ys.length d), (5, .int .i64 ((j : Int) - 1))] ∧ j ≤ xs.length ∧ xs.drop j = ys.drop j ∧ w'.heap = w.heap ∧ w.grownBy w' none ∧ m = j)
   ⟨xs.length, rfl, Nat.le_refl _, by simp [hl], rfl, ⟨rfl, rfl, rfl, Nat.le_refl _, fun _ _ _ => rfl⟩, rfl⟩ ⟨rfl, rfl, rfl, trivial⟩ ?_
  rintro l w1 m ⟨j, rfl, hj, hd, hh, hg, hmj⟩
  refine dT rfl ?_
  refine cS rfl rfl rfl rfl (fun hq => ?_) (fun hq => ?_)
  ·obtain ⟨i, rfl⟩ : ∃ i, j = i + 1 := ⟨j - 1, by omega⟩
   have hi : i < xs.length := by omega
   have hi2 : i < ys.length := by omega
   have hcmp := cmp_at hxl hyl hl i hi hd
   have hdn : xs.getD i 0 = ys.getD i 0 → xs.drop i = ys.drop i := fun e => by
    rw [List.drop_eq_getElem_cons hi, List.drop_eq_getElem_cons hi2, hd]
    simp [List.getD, hi, hi2] at e
    rw [e]
   obtain ⟨g1, o1, rfl, hc1⟩ := (heap_sl hh ha.1) i _ (getI hi)
   obtain ⟨g2, o2, rfl, hc2⟩ := (heap_sl hh hb.1) i _ (getI hi2)
   generalize xs.getD i 0 = x at *
   generalize ys.getD i 0 = y at *
   rw [show (((i + 1 : Nat) : Int) - 1) = (i : Int) by omega]
   refine dT rfl ?_
   refine dwn 8 (fun w' => w'.heap = w1.heap) hmo ?_
   intro w6 hh6 hg6
   refine dqS [0,1,2,3,4,5,6,7] [(3, i64n x), (7, i64n y)] rfl rfl hh6 ?_
   refine d1 rfl rfl (fun _ => hh6) ?_
   refine cS rfl rfl rfl rfl (fun hq => ?_) (fun hq => ?_)
   ·refine d2 ?_; refine dend rfl (fun h => by cases h) ?_
    refine dT rfl ?_
    refine ret Tryz.results103 rfl ⟨_, rfl, ?_, (Below.refl _ _).grown (gb_trans hg hg6) (Nat.le_refl _) (fun k e => by cases e)⟩
    have hlt : x < y := by omega
    rw [← hvp, ← hvq, ← hcmp (by omega)]; unfold cmpN; rw [if_pos hlt]; rfl
   ·refine d2 ?_; refine dend rfl (fun h => by cases h) ?_
    refine dT rfl ?_
    refine dwn 8 (fun w' => w'.heap = w1.heap) hmo ?_
    intro w7 hh7 hg7
    have hh7 := hh7.trans hh6
    refine dqS [0,1,2,3,4,5,6,7] [(3, i64n x), (7, i64n y)] rfl rfl hh7 ?_
    refine d1 rfl rfl (fun _ => hh7) ?_
    refine cS rfl rfl rfl rfl (fun hq => ?_) (fun hq => ?_)
    ·refine d2 ?_; refine dend rfl (fun h => by cases h) ?_
     refine dT rfl ?_
     refine ret Tryz.results103 rfl ⟨_, rfl, ?_, (Below.refl _ _).grown (gb_trans (gb_trans hg hg6) hg7) (Nat.le_refl _) (fun k e => by cases e)⟩
     have hlt : y < x := by omega
     rw [← hvp, ← hvq, ← hcmp (by omega)]; unfold cmpN; rw [if_neg (by omega), if_pos hlt]; rfl
    ·refine d2 ?_; refine dend rfl (fun h => by cases h) ?_
     refine dS rfl ?_
     exact rend _ i ⟨i, rfl, by omega, hdn (by omega), hh7.trans hh, gb_trans (gb_trans hg hg6) hg7, rfl⟩ (by omega) ⟨rfl, rfl, rfl, trivial⟩
  ·obtain rfl : j = 0 := by omega
   refine dT rfl ?_
   refine ret Tryz.results103 rfl ⟨_, rfl, ?_, (Below.refl _ _).grown hg (Nat.le_refl _) (fun k e => by cases e)⟩
   simp at hd
   rw [← hvp, ← hvq, hd, cmp_self]; rfl

theorem times_calls (p q : Nat) (a b : Option Addr) (c d : Nat) (w : World) (ha : RdI w a c (lim p)) (hb : RdI w b d (lim q)) (hpl : (lim p).length ≤ 549755813888) (hql : (lim q).length ≤ 549755813888) :
  Calls Tryz.prog 101 #[.slice a (lim p).length c, .slice b (lim q).length d] w (Ret fun v w' => OwnI w w' v (lim (p * q))) := by
 have hxl := lim_Lm p
 have hyl := lim_Lm q
 have hvp := val_lim p
 have hvq := val_lim q
 generalize hxs : lim p = xs at *
 generalize hys : lim q = ys at *
 refine enter Tryz.func101 rfl Tryz.ntmps101 (Nat.le_of_ble_eq_true rfl) ?_
 refine dS rfl ?_
 refine mkn U rfl rfl rfl rfl rfl rfl rfl (xs.length + ys.length) (by omega) (by omega) (by omega) (by omega) w.heap.size (Nat.le_refl _) ?_
 intro a0 w0 ho0 hg0
 rw [rep_i64n] at ho0
 refine dT rfl ?_
 refine loopR (fun l w' m => ∃ i zs, l = [(0, .slice a xs.length c), (1, .slice b ys.length d), (5, .slice a0 (xs.length + ys.length) (xs.length + ys.length)), (6, .int .i64 (i : Nat))] ∧ i ≤ xs.length ∧ zs.length = i + ys.length ∧ Lm zs ∧
  val zs = val (xs.take i) * val ys ∧ w'.ownsRow w.heap.size 3 1 (.slice a0 (xs.length + ys.length) (xs.length + ys.length)) (xs.length + ys.length) ((zs ++ List.replicate (xs.length - i) 0).map i64n) ∧ Below w.heap.size w w' ∧ m = xs.length - i)
  ⟨0, List.replicate ys.length 0, rfl, by omega, by simp, Lm.replicate _, by simp [val_replicate, val], by simpa [Nat.add_comm] using ho0, (Below.refl _ _).grown hg0 (Nat.le_refl _) (fun k e => by cases e), rfl⟩ ⟨rfl, rfl, rfl, rfl, trivial⟩ ?_
 rintro l w' m ⟨i, zs, rfl, hi, hz, hzl, hv, ho, hB, rfl⟩
 refine dT rfl ?_
 refine cS rfl rfl rfl rfl (fun hq => ?_) (fun hq => ?_)
 ·refine dS rfl ?_
  have hi' : i < xs.length := by omega
  have hx1 := hxl.getD i
  have hrnd := @mul_round (xs := xs) (ys := ys) (zs := zs) (i := i) (r := xs.length - i)
  have hgx := getI hi'
  generalize hx2 : xs.getD i 0 = x at *
  refine loopR (fun l w2 m => ∃ k cs cy, l = [(0, .slice a xs.length c), (1, .slice b ys.length d), (5, .slice a0 (xs.length + ys.length) (xs.length + ys.length)), (6, .int .i64 (i : Nat)), (7, .int .i64 (cy : Nat)), (8, .int .i64 (k : Nat))] ∧ k ≤ ys.length ∧ cs.length = (zs ++ List.replicate (xs.length - i) 0).length ∧ Lm cs ∧ cy < 1000000000 ∧
   cs.drop (i + k) = (zs ++ List.replicate (xs.length - i) 0).drop (i + k) ∧ val (cs.take (i + k)) + cy * pw (i + k) = val ((zs ++ List.replicate (xs.length - i) 0).take (i + k)) + x * (pw i * val (ys.take k)) ∧
   w2.ownsRow w.heap.size 3 1 (.slice a0 (xs.length + ys.length) (xs.length + ys.length)) (xs.length + ys.length) (cs.map i64n) ∧ Below w.heap.size w w2 ∧ m = ys.length - k)
   ⟨0, zs ++ List.replicate (xs.length - i) 0, 0, rfl, by omega, rfl, hzl.append (Lm.replicate _), by omega, rfl, by simp [val], ho, hB, rfl⟩ ⟨rfl, rfl, rfl, rfl, rfl, rfl, trivial⟩ ?_
  rintro l w2 m ⟨k, cs, cy, rfl, hk, hcl, hcs, hcy, hd, hcv, ho2, hB2, rfl⟩
  have hcl2 : cs.length = xs.length + ys.length := by rw [hcl]; simp; omega
  refine dT rfl ?_
  refine cS rfl rfl rfl rfl (fun hq => ?_) (fun hq => ?_)
  ·have hk' : k < ys.length := by omega
   have hy1 := hyl.getD k
   have hj : i + k < cs.length := by omega
   have hc1 := hcs.getD (i + k)
   have hs := mul_step (x := x) hk' hj hcl hd hcv
   obtain ⟨g1, o1, rfl, hm1⟩ := (ha.below hB2).1 i _ hgx
   obtain ⟨g2, o2, rfl, hm2⟩ := (hb.below hB2).1 k _ (getI hk')
   obtain ⟨g0, o0, rfl, hm0⟩ := (own_sl ho2) (i + k) _ (getI hj)
   generalize hy2 : ys.getD k 0 = y at *
   generalize hc2 : cs.getD (i + k) 0 = o at *
   have hxy : x * y ≤ 999999998000000001 := Nat.le_trans (Nat.mul_le_mul (show x ≤ 999999999 by omega) (show y ≤ 999999999 by omega)) (by decide)
   have hxyI : (x : Int) * (y : Int) = ((x * y : Nat) : Int) := (Int.natCast_mul x y).symm
   refine dT rfl ?_
   refine dwn 18 (fun w' => w'.heap = w2.heap) hmo ?_
   intro w6 hh6 hg6
   have hm0' : w2.cell? ⟨g0, o0 + ((i : Int) + k).toNat, none⟩ = some (i64n o) := by rw [show ((i : Int) + k).toNat = i + k by omega]; exact hm0
   refine dq U [0,1,2,3,4,5,6,7,8,9,10,11,12,13,14,15,16,17] [(5, i64n o), (9, i64n x), (13, i64n y)] (by kernel_rfl) rfl rfl hh6 ?_ ?_
   ·simp only [AllP, InR, List.nil_append, List.cons_append, and_true, hxyI]
    (repeat' apply And.intro)
    all_goals first | exact True.intro | omega | (intro w_ hw_; refine ldC U rfl hw_ ?_; simp [add_plain]; assumption)
   refine d1 rfl rfl (fun _ => hh6) ?_
   refine dT rfl ?_
   refine d2 ?_; refine dend rfl (fun h => by cases h) ?_
   refine dS rfl ?_
   have ho6 := own_keep ho2 hg6 (by simp)
   refine is U (v := (i64n ((o + x * y + cy) % 1000000000))) rfl rfl rfl rfl rfl rfl rfl (fun _ => rfl) (fun _ => iv (by rw [hxyI]; omega)) (fun _ => rfl) rfl rfl (i + k) (by omega) (by omega) ho6 ?_
   intro p0 w3 ho3 hg3 _
   refine dr U 600 rfl ?_ ?_
   ·simp only [AllP, InR, List.nil_append, List.cons_append, and_true, hxyI]
    omega
   rw [← List.map_set] at ho3
   have hB6 := hB2.grown hg6 hB2.size (fun k e => by cases e)
   refine rend _ _ ⟨k + 1, cs.set (i + k) ((o + x * y + cy) % 1000000000), (o + x * y + cy) / 1000000000, rfl, by omega, by simp [hcl], hcs.set _ (by omega), by omega, by rw [← Nat.add_assoc, set_drop_succ]; exact drop_succ_of_drop hd, hs, ho3, hB6.grown hg3 hB6.size (fun g hg => (own_block ho6 g hg).1), rfl⟩ (by omega)
    ⟨rfl, rfl, rfl, rfl, iv (by rw [hxyI]; omega), iv (by omega), trivial⟩
  ·obtain rfl : k = ys.length := by omega
   refine dS rfl ?_
   refine is U (v := (i64n cy)) rfl rfl rfl rfl rfl rfl rfl (fun _ => rfl) (fun _ => iv (by omega)) (fun _ => rfl) rfl rfl (i + ys.length) (by omega) (by omega) ho2 ?_
   intro p0 w3 ho3 hg3 _
   refine dS rfl ?_
   obtain ⟨zs', h1, h2, h3⟩ := hrnd cs hi' hz (by omega) hcl hd hv hcv
   have h4 := hcs.set (i + ys.length) hcy
   rw [set_i64n, h1] at ho3
   rw [h1] at h4
   refine rend _ _ ⟨i + 1, zs', rfl, by omega, h2, h4.left, h3, by rw [show xs.length - (i + 1) = xs.length - i - 1 by omega]; exact ho3, hB2.grown hg3 hB2.size (fun g hg => (own_block ho2 g hg).1), rfl⟩ (by omega) ⟨rfl, rfl, rfl, iv (by omega), trivial⟩
 ·obtain rfl : i = xs.length := by omega
  refine dT rfl ?_
  rw [take_all (Nat.le_refl _)] at hv
  refine call (f := 105) rfl rfl cb105 (rtrim_ownN (xs.length + ys.length) zs hz a0 (xs.length + ys.length) w.heap.size w' (by simpa using ho) hzl (by omega)) ?_
  rintro v w1 ⟨rfl, rfl, ho1⟩
  refine ⟨_, rfl, ?_⟩
  refine dT rfl ?_
  refine ret Tryz.results101 rfl ⟨_, rfl, ?_⟩
  rw [hv, hvp, hvq] at ho1
  exact ⟨_, _, by rw [hv, hvp, hvq]; rfl, ho1, hB⟩
end
section
set_option maxHeartbeats 1000000
open Go Go.Proofs Go.RowKit Go.Lib

theorem short_calls (n d : Nat) (hd : 0 < d) (hdb : d < 1000000000) (a : Option Addr) (c : Nat) (w : World) (ha : RdI w a c (lim n)) (hl : (lim n).length ≤ 1099511627776) :
  Calls Tryz.prog 167 #[.slice a (lim n).length c, i64n d] w (Ret fun v w' => ∃ v1, v = .tuple ⟨[v1, i64n (n % d)]⟩ ∧ OwnI w w' v1 (lim (n / d))) := by
 have hxl := lim_Lm n
 have hvn := val_lim n
 generalize hxs : lim n = xs at *
 refine enter Tryz.func167 rfl Tryz.ntmps167 (Nat.le_of_ble_eq_true rfl) ?_
 refine dT rfl ?_
 refine mkn U rfl rfl rfl rfl rfl rfl rfl xs.length rfl rfl (by omega) (by omega) w.heap.size (Nat.le_refl _) ?_
 intro a0 w0 ho0 hg0
 rw [rep_i64n] at ho0
 refine dS rfl ?_
 refine loopR (fun l w' m => ∃ (j : Nat) (qs : List Nat) (r : Nat), l = [(0, .slice a xs.length c), (1, .int .i64 (d : Nat)), (6, .slice a0 xs.length xs.length), (7, .int .i64 (r : Nat)), (8, .int .i64 ((j : Int) - 1))] ∧ j ≤ xs.length ∧ qs.length + j = xs.length ∧ Lm qs ∧ r < d ∧ val (xs.drop j) = val qs * d + r ∧
   w'.ownsRow w.heap.size 3 1 (.slice a0 xs.length xs.length) xs.length ((List.replicate j 0 ++ qs).map i64n) ∧ Below w.heap.size w w' ∧ m = j)
  ⟨xs.length, [], 0, rfl, Nat.le_refl _, by simp, Lm.nil, hd, by simp [val], by simpa using ho0, (Below.refl _ _).grown hg0 (Nat.le_refl _) (fun k e => by cases e), rfl⟩ ⟨rfl, rfl, rfl, rfl, rfl, trivial⟩ ?_
 rintro l w' m ⟨j, qs, r, rfl, hj, hql, hqm, hr, hv, ho, hB, hmj⟩
 refine dT rfl ?_
 refine cS rfl rfl rfl rfl (fun hq => ?_) (fun hq => ?_)
 ·obtain ⟨i, rfl⟩ : ∃ i, j = i + 1 := ⟨j - 1, by omega⟩
  have hi : i < xs.length := by omega
  have hx1 := hxl.getD i
  have hstep := small_step hd hr hi rfl hv
  have hlt := small_lt hd hr hx1
  have hgx := getI hi
  generalize xs.getD i 0 = x at *
  have hQ : ((r : Int) * 1000000000 + x) / d = (((r * 1000000000 + x) / d : Nat) : Int) := by
   rw [show (r : Int) * 1000000000 + x = ((r * 1000000000 + x : Nat) : Int) by omega]; rfl
  have hR : ((r : Int) * 1000000000 + x) % d = (((r * 1000000000 + x) % d : Nat) : Int) := by
   rw [show (r : Int) * 1000000000 + x = ((r * 1000000000 + x : Nat) : Int) by omega]; rfl
  have hrlt := Nat.mod_lt (r * 1000000000 + x) hd
  generalize hqq : (r * 1000000000 + x) / d = q at *
  generalize hrr : (r * 1000000000 + x) % d = r' at *
  rw [show (((i + 1 : Nat) : Int) - 1) = (i : Int) by omega]
  refine dS rfl ?_
  refine il U rfl rfl rfl rfl rfl rfl rfl (fun _ => rfl) rfl i (by omega) (by omega) (ha.below hB).1 hgx ?_
  refine dr U 600 rfl ?_ ?_
  ·simp only [AllP, InR, List.nil_append, List.cons_append, and_true, hQ]
   omega
  refine is U (v := (i64n q)) rfl rfl rfl rfl rfl rfl rfl (fun _ => rfl) (fun _ => iv hQ) (fun _ => rfl) rfl rfl i (by omega) (by omega) ho ?_
  intro p0 w1 ho1 hg1 _
  rw [set_i64n, small_set] at ho1
  refine dr U 600 rfl ?_ ?_
  ·simp only [AllP, InR, List.nil_append, List.cons_append, and_true, hQ]
   omega
  refine rend _ i ⟨i, q :: qs, r', rfl, by omega, by simp; omega, Lm.cons hlt hqm, hrlt, hstep, ho1, hB.grown hg1 hB.size (fun g hg => (own_block ho g hg).1), rfl⟩ (by omega) ⟨rfl, rfl, rfl, iv hR, rfl, trivial⟩
 ·obtain rfl : j = 0 := by omega
  refine dT rfl ?_
  rw [List.drop_zero, hvn] at hv
  have hnd : n / d = val qs ∧ n % d = r := by
   rw [hv]
   constructor
   ·rw [Nat.mul_comm, Nat.mul_add_div hd, Nat.div_eq_of_lt hr]; rfl
   ·rw [Nat.mul_comm, Nat.mul_add_mod, Nat.mod_eq_of_lt hr]
  refine call (f := 105) rfl rfl cb105 (rtrim_ownN xs.length qs (by omega) a0 xs.length w.heap.size w' (by simpa using ho) hqm (by omega)) ?_
  rintro v w1 ⟨rfl, rfl, ho1⟩
  refine ⟨_, rfl, ?_⟩
  refine dT rfl ?_
  refine ret Tryz.results167 rfl ⟨_, rfl, _, by rw [hnd.2]; rfl, _, _, by rw [hnd.1], ?_, hB⟩
  rw [hnd.1]; exact ho1

theorem scaled_step {zs xs : List Nat} {i cy d n : Nat} (hi : i < xs.length) (hz : zs.length = i) (hn : n = xs.getD i 0 * d + cy) (h : val zs + cy * pw i = val (xs.take i) * d) :
  val (zs ++ [n % 1000000000]) + n / 1000000000 * pw (i + 1) = val (xs.take (i + 1)) * d := by
 rw [val_snoc, hz, val_take_succ xs i hi, pw_succ]
 generalize xs.getD i 0 = x at *
 have e : pw i * (n % 1000000000) + n / 1000000000 * (1000000000 * pw i) = pw i * n := by
  have h1 : n / 1000000000 * (1000000000 * pw i) = pw i * (1000000000 * (n / 1000000000)) := by
   rw [← Nat.mul_assoc, Nat.mul_comm, Nat.mul_comm (n / 1000000000)]
  rw [h1, ← Nat.mul_add, Nat.mod_add_div]
 have e2 : pw i * n = pw i * x * d + cy * pw i := by rw [hn, Nat.mul_add, Nat.mul_comm cy, Nat.mul_assoc]
 rw [Nat.add_mul]
 omega

theorem scaled_calls (p d : Nat) (hd : 0 < d) (hdb : d < 1000000000) (a : Option Addr) (c : Nat) (w : World) (ha : RdI w a c (lim p)) (hl : (lim p).length ≤ 549755813888) :
  Calls Tryz.prog 168 #[.slice a (lim p).length c, i64n d] w (Ret fun v w' => ∃ zs, OwnI w w' v zs ∧ zs.length = (lim p).length + 1 ∧ Lm zs ∧ val zs = p * d) := by
 have hxl := lim_Lm p
 have hvp := val_lim p
 generalize hxs : lim p = xs at *
 refine enter Tryz.func168 rfl Tryz.ntmps168 (Nat.le_of_ble_eq_true rfl) ?_
 refine dS rfl ?_
 refine mkn U rfl rfl rfl rfl rfl rfl rfl (xs.length + 1) (by omega) (by omega) (by omega) (by omega) w.heap.size (Nat.le_refl _) ?_
 intro a0 w0 ho0 hg0
 rw [rep_i64n] at ho0
 refine dT rfl ?_
 refine loopR (fun l w' m => ∃ i zs cy, l = [(0, .slice a xs.length c), (1, .int .i64 (d : Nat)), (5, .slice a0 (xs.length + 1) (xs.length + 1)), (6, .int .i64 (cy : Nat)), (7, .int .i64 (i : Nat))] ∧ i ≤ xs.length ∧ zs.length = i ∧ Lm zs ∧ cy < 1000000000 ∧
   val zs + cy * pw i = val (xs.take i) * d ∧ w'.ownsRow w.heap.size 3 1 (.slice a0 (xs.length + 1) (xs.length + 1)) (xs.length + 1) ((zs ++ List.replicate (xs.length + 1 - i) 0).map i64n) ∧ Below w.heap.size w w' ∧ m = xs.length - i)
  ⟨0, [], 0, rfl, by omega, rfl, Lm.nil, by omega, by simp [val], ho0, (Below.refl _ _).grown hg0 (Nat.le_refl _) (fun k e => by cases e), rfl⟩ ⟨rfl, rfl, rfl, rfl, rfl, trivial⟩ ?_
 rintro l w' m ⟨i, zs, cy, rfl, hi, hz, hzl, hcy, hv, ho, hB, rfl⟩
 refine dT rfl ?_
 refine cS rfl rfl rfl rfl (fun hq => ?_) (fun hq => ?_)
 ·have hi' : i < xs.length := by omega
  have hx1 := hxl.getD i
  have hst := fun n hn => @scaled_step zs xs i cy d n hi' hz hn hv
  have hgx := getI hi'
  generalize xs.getD i 0 = x at *
  have hxd : x * d ≤ 999999998000000001 := Nat.le_trans (Nat.mul_le_mul (show x ≤ 999999999 by omega) (show d ≤ 999999999 by omega)) (by decide)
  have hxdI : (x : Int) * (d : Int) = ((x * d : Nat) : Int) := (Int.natCast_mul x d).symm
  refine dT rfl ?_
  refine il U rfl rfl rfl rfl rfl rfl rfl (fun _ => rfl) rfl i (by omega) (by omega) (ha.below hB).1 hgx ?_
  refine dr U 600 rfl ?_ ?_
  ·simp only [AllP, InR, List.nil_append, List.cons_append, and_true, hxdI]
   omega
  refine is U (v := (i64n ((x * d + cy) % 1000000000))) rfl rfl rfl rfl rfl rfl rfl (fun _ => rfl) (fun _ => iv (by rw [hxdI]; omega)) (fun _ => rfl) rfl rfl i (by omega) (by omega) ho ?_
  intro p0 w1 ho1 hg1 _
  refine dr U 600 rfl ?_ ?_
  ·simp only [AllP, InR, List.nil_append, List.cons_append, and_true, hxdI]
   omega
  rw [set_i64n, ← hz, set_snoc zs _ _ (by omega)] at ho1
  rw [hz] at ho1
  refine rend _ _ ⟨i + 1, zs ++ [(x * d + cy) % 1000000000], (x * d + cy) / 1000000000, rfl, by omega, by simp [hz], hzl.snoc (by omega), by omega, hst _ rfl, by simpa [Nat.sub_sub] using ho1, hB.grown hg1 hB.size (fun g hg => (own_block ho g hg).1), rfl⟩ (by omega) ⟨rfl, rfl, rfl, iv (by rw [hxdI]; omega), iv (by omega), trivial⟩
 ·obtain rfl : i = xs.length := by omega
  rw [take_all (Nat.le_refl _), hvp] at hv
  refine dT rfl ?_
  refine is U (v := (i64n cy)) rfl rfl rfl rfl rfl rfl rfl (fun _ => rfl) (fun _ => iv (by omega)) (fun _ => rfl) rfl rfl xs.length (by omega) (by omega) ho ?_
  intro p0 w1 ho1 hg1 _
  rw [set_i64n, ← hz, set_snoc zs _ _ (by omega)] at ho1
  rw [hz] at ho1
  refine dT rfl ?_
  refine ret Tryz.results168 rfl ⟨_, rfl, zs ++ [cy], ⟨a0, _, by simp [hz]; rfl, by simpa [hz] using ho1, hB.grown hg1 hB.size (fun g hg => (own_block ho g hg).1)⟩, by simp [hz], hzl.snoc hcy, ?_⟩
  rw [val_snoc, hz, Nat.mul_comm (pw _)]
  exact hv
end
section
open Go Go.Proofs Go.RowKit

theorem tmod_range (x n : Int) (hn : 1 ≤ n) : -n < x.tmod n ∧ x.tmod n < n ∧ (0 ≤ x → 0 ≤ x.tmod n) := by
 rcases Int.le_total 0 x with h | h
 ·rw [Int.tmod_eq_emod_of_nonneg h]
  have := Int.emod_nonneg x (show n ≠ 0 by omega)
  have := Int.emod_lt_of_pos x (show 0 < n by omega)
  omega
 ·obtain ⟨y, rfl⟩ : ∃ y, x = -y := ⟨-x, by omega⟩
  rw [Int.neg_tmod, Int.tmod_eq_emod_of_nonneg (by omega)]
  have := Int.emod_nonneg y (show n ≠ 0 by omega)
  have := Int.emod_lt_of_pos y (show 0 < n by omega)
  refine ⟨by omega, by omega, fun h0 => ?_⟩
  have : y = 0 := by omega
  subst this
  simp
theorem tm_emod (t : Int) : (t.tmod 1000000000 + 1000000000) % 1000000000 = t % 1000000000 := by
 rcases Int.le_total 0 t with h | h
 ·rw [Int.tmod_eq_emod_of_nonneg h]; omega
 ·obtain ⟨y, rfl⟩ : ∃ y, t = -y := ⟨-t, by omega⟩
  rw [Int.neg_tmod, Int.tmod_eq_emod_of_nonneg (by omega)]; omega

section
variable {P : Program} {ro : Option Nat} {n : Nat} {ds : List Deferred} {Q : PT} {l l' : Fr} {w w' : World} {arr : Array Oper} {r : List Oper} {k : List It}
theorem rem1 {d : Nat} {t t2 ty : TypeId} {x y : Operand} {ps : String} {af : Array Edge} {g : Option (Nat × Bool)} {kk : IntKind} {m q : Int} (hx : ev l x = some (.int kk m)) (hy : ev l y = some (.int kk q)) (hq : q ≠ 0) (hg : gd arr l g = some true) (hd : Nat.blt d n = true)
  (t' : T P ro n ds Q ((d, .int kk (m.tmod q)) :: l) w (.ops arr r) k) : T P ro n ds Q l w (.ops arr (⟨some d, .binOp .rem t x y t2, ty, ps, af, g⟩ :: r)) k :=
 op1 (v := .int kk (m.tmod q)) (by intro c h; cases h) hg (put1_some hd) (fun a hf => by simp [execOp, hf.ev hx, hf.ev hy, eqGuard, binOp, Op.intDiv, hq]) t'
end
end
end Go.Proofs.YtejlpdbiacmfcaaGreatDoor
