/-
  Walks of package limbs: Sub, Mul, Of return what the arithmetic of limbs says, and leave all older memory alone.
  Conditions: the numbers take fewer than 2^40 limbs; a difference is not negative.
  The engine's rules for a range over an iterator function, and for the return of a function that holds one; proved over the kit's steps of such a loop.
  No conditions: each theorem names its own premises.
-/
import Derived.Test.YtejlpdbiacmfcaaGreatDoorYRul
import Derived.Test.YtejlpdbiacmfcaaGreatDoorYNum
set_option linter.unusedSimpArgs false
set_option linter.unusedVariables false
namespace Go.Proofs.YtejlpdbiacmfcaaGreatDoor
section
open Go Go.Proofs Go.RowKit

theorem set_u64 (cs : List Nat) (j x : Nat) : (cs.map u64).set j (u64 x) = (cs.set j x).map u64 := by rw [List.map_set]
theorem rep_u64 (k : Nat) : List.replicate k (Value.int .u64 0) = (List.replicate k 0).map u64 := by simp [u64]

theorem trim_ownN (n : Nat) (xs : List Nat) (hn : xs.length = n) (a : Option Addr) (c base : Nat) (w : World) (h : w.ownsRow base 79 1 (.slice a n c) n (xs.map u64)) (hx : Lm xs) (hl : n ≤ 1099511627776) :
  Calls Tryz.prog 121 #[.slice a n c] w (Ret fun v w' => v = .slice a (lim (val xs)).length c ∧ w = w' ∧ w.ownsRow base 79 1 (.slice a (lim (val xs)).length c) (lim (val xs)).length ((lim (val xs)).map u64)) := by
 subst hn; exact trim_own xs a c base w h hx hl


theorem sub_calls (p q : Nat) (hpq : q ≤ p) (a b : Option Addr) (c d : Nat) (w : World) (ha : Rd w a c (lim p)) (hb : Rd w b d (lim q)) (hpl : (lim p).length ≤ 1099511627776) :
  Calls Tryz.prog 95 #[.slice a (lim p).length c, .slice b (lim q).length d] w (Ret fun v w' => Own w w' v (lim (p - q))) := by
 have hxl := lim_Lm p
 have hyl := lim_Lm q
 have hvp := val_lim p
 have hvq := val_lim q
 have hll := lim_len_mono hpq
 have hres : ∀ zs bo, Lm zs → zs.length = (lim p).length → bo ≤ 1 → val zs + val (lim q) = val (lim p) + bo * pw (lim p).length → val zs = p - q := by
  intro zs bo h1 h2 h3 h4
  have := val_lt h1
  rw [h2] at this
  obtain rfl | rfl : bo = 0 ∨ bo = 1 := by omega
  ·omega
  ·omega
 generalize hxs : lim p = xs at *
 generalize hys : lim q = ys at *
 refine enter Tryz.func95 rfl Tryz.ntmps95 (Nat.le_of_ble_eq_true rfl) ?_
 refine dT rfl ?_
 refine mkn U rfl rfl rfl rfl rfl rfl rfl xs.length rfl rfl (by omega) (by omega) w.heap.size (Nat.le_refl _) ?_
 intro a0 w0 ho0 hg0
 rw [rep_u64] at ho0
 refine dT rfl ?_
 refine loopR (fun l w' m => ∃ i zs bo, l = [(13, .slice a xs.length c), (14, .int .i64 xs.length), (15, .int .i64 (i : Nat)), (1, .slice b ys.length d), (5, .slice a0 xs.length xs.length), (6, .int .u64 (bo : Nat))] ∧ i ≤ xs.length ∧ zs.length = i ∧ Lm zs ∧ bo ≤ 1 ∧
  val zs + val (ys.take i) = val (xs.take i) + bo * pw i ∧ w'.ownsRow w.heap.size 79 1 (.slice a0 xs.length xs.length) xs.length ((zs ++ List.replicate (xs.length - i) 0).map u64) ∧ Below w.heap.size w w' ∧ m = xs.length - i)
  ⟨0, [], 0, rfl, by omega, rfl, Lm.nil, by omega, by simp [val], ho0, (Below.refl _ _).grown hg0 (Nat.le_refl _) (fun k e => by cases e), rfl⟩ ⟨rfl, rfl, rfl, rfl, rfl, rfl, trivial⟩ ?_
 rintro l w' m ⟨i, zs, bo, rfl, hi, hz, hzl, hcy, hv, ho, hB, rfl⟩
 refine dT rfl ?_
 refine cS rfl rfl rfl rfl (fun hq => ?_) (fun hq => ?_)
 ·refine dS rfl ?_
  have hi' : i < xs.length := by omega
  have hx1 := hxl.getD i
  refine il U rfl rfl rfl rfl rfl rfl rfl (fun _ => rfl) rfl i (by omega) (by omega) (ha.below hB).1 (getU hi') ?_
  refine dS rfl ?_
  refine cS rfl rfl rfl rfl (fun hq => ?_) (fun hq => ?_)
  ·refine dS rfl ?_
   have hj : i < ys.length := by omega
   have hy1 := hyl.getD i
   have hyt := val_take_succ ys i hj
   refine il U rfl rfl rfl rfl rfl rfl rfl (fun _ => rfl) rfl i (by omega) (by omega) (hb.below hB).1 (getU hj) ?_
   refine dS rfl ?_
   have hs := @sub_step zs xs ys i bo hi' hz hxl _ hy1 hcy hyt hv
   generalize hx2 : xs.getD i 0 = x at *
   generalize hy2 : ys.getD i 0 = y at *
   refine cS rfl rfl rfl rfl (fun hq => ?_) (fun hq => ?_)
   ·refine dS rfl ?_
    generalize hZ : x + 1000000000 - (bo + y) = z
    refine is U (v := (u64 z)) rfl rfl rfl rfl rfl rfl rfl (fun _ => rfl) (fun _ => iv (by omega)) (fun _ => rfl) rfl rfl i rfl hi' ho ?_
    intro p0 w1 ho1 hg1 _
    refine dS rfl ?_
    refine rend _ _ ⟨i + 1, zs ++ [z], 1, rfl, by omega, by simp [hz], hzl.snoc (by omega), by omega, hs z 1 (by omega), ?_, hB.grown hg1 hB.size (fun g hg => (own_block ho g hg).1), rfl⟩ (by omega) ⟨rfl, rfl, iv (by omega), rfl, rfl, rfl, trivial⟩
    rw [set_u64, ← hz, set_snoc zs _ _ (by omega)] at ho1
    rw [hz] at ho1; simpa [Nat.sub_sub] using ho1
   ·refine dS rfl ?_
    generalize hZ : x - (bo + y) = z
    refine is U (v := (u64 z)) rfl rfl rfl rfl rfl rfl rfl (fun _ => rfl) (fun _ => iv (by omega)) (fun _ => rfl) rfl rfl i rfl hi' ho ?_
    intro p0 w1 ho1 hg1 _
    refine dS rfl ?_
    refine rend _ _ ⟨i + 1, zs ++ [z], 0, rfl, by omega, by simp [hz], hzl.snoc (by omega), by omega, hs z 0 (by omega), ?_, hB.grown hg1 hB.size (fun g hg => (own_block ho g hg).1), rfl⟩ (by omega) ⟨rfl, rfl, iv (by omega), rfl, rfl, rfl, trivial⟩
    rw [set_u64, ← hz, set_snoc zs _ _ (by omega)] at ho1
    rw [hz] at ho1; simpa [Nat.sub_sub] using ho1
  ·refine dS rfl ?_
   have hyt := val_take_beyond ys i (by omega)
   have hy1 : 0 < 1000000000 := by omega
   have hs := @sub_step zs xs ys i bo hi' hz hxl 0 hy1 hcy hyt hv
   generalize hx2 : xs.getD i 0 = x at *
   refine cS rfl rfl rfl rfl (fun hq => ?_) (fun hq => ?_)
   ·refine dS rfl ?_
    generalize hZ : x + 1000000000 - (bo + 0) = z
    refine is U (v := (u64 z)) rfl rfl rfl rfl rfl rfl rfl (fun _ => rfl) (fun _ => iv (by omega)) (fun _ => rfl) rfl rfl i rfl hi' ho ?_
    intro p0 w1 ho1 hg1 _
    refine dS rfl ?_
    refine rend _ _ ⟨i + 1, zs ++ [z], 1, rfl, by omega, by simp [hz], hzl.snoc (by omega), by omega, hs z 1 (by omega), ?_, hB.grown hg1 hB.size (fun g hg => (own_block ho g hg).1), rfl⟩ (by omega) ⟨rfl, rfl, iv (by omega), rfl, rfl, rfl, trivial⟩
    rw [set_u64, ← hz, set_snoc zs _ _ (by omega)] at ho1
    rw [hz] at ho1; simpa [Nat.sub_sub] using ho1
   ·refine dS rfl ?_
    generalize hZ : x - (bo + 0) = z
    refine is U (v := (u64 z)) rfl rfl rfl rfl rfl rfl rfl (fun _ => rfl) (fun _ => iv (by omega)) (fun _ => rfl) rfl rfl i rfl hi' ho ?_
    intro p0 w1 ho1 hg1 _
    refine dS rfl ?_
    refine rend _ _ ⟨i + 1, zs ++ [z], 0, rfl, by omega, by simp [hz], hzl.snoc (by omega), by omega, hs z 0 (by omega), ?_, hB.grown hg1 hB.size (fun g hg => (own_block ho g hg).1), rfl⟩ (by omega) ⟨rfl, rfl, iv (by omega), rfl, rfl, rfl, trivial⟩
    rw [set_u64, ← hz, set_snoc zs _ _ (by omega)] at ho1
    rw [hz] at ho1; simpa [Nat.sub_sub] using ho1
 ·obtain rfl : i = xs.length := by omega
  refine dT rfl ?_
  rw [take_all (Nat.le_refl _), take_all (show ys.length ≤ xs.length by omega)] at hv
  have e := hres zs bo hzl hz hcy hv
  refine call (f := 121) rfl rfl cb121 (trim_ownN xs.length zs hz a0 xs.length w.heap.size w' (by simpa using ho) hzl (by omega)) ?_
  rintro v w1 ⟨rfl, rfl, ho1⟩
  refine ⟨_, rfl, ?_⟩
  refine dT rfl ?_
  refine ret Tryz.results95 rfl ⟨_, rfl, ?_⟩
  rw [e] at ho1
  exact ⟨_, _, by rw [e]; rfl, ho1, hB⟩

theorem mul_calls (p q : Nat) (a b : Option Addr) (c d : Nat) (w : World) (ha : Rd w a c (lim p)) (hb : Rd w b d (lim q)) (hpl : (lim p).length ≤ 549755813888) (hql : (lim q).length ≤ 549755813888) :
  Calls Tryz.prog 91 #[.slice a (lim p).length c, .slice b (lim q).length d] w (Ret fun v w' => Own w w' v (lim (p * q))) := by
 have hxl := lim_Lm p
 have hyl := lim_Lm q
 have hvp := val_lim p
 have hvq := val_lim q
 generalize hxs : lim p = xs at *
 generalize hys : lim q = ys at *
 refine enter Tryz.func91 rfl Tryz.ntmps91 (Nat.le_of_ble_eq_true rfl) ?_
 refine dS rfl ?_
 refine mkn U rfl rfl rfl rfl rfl rfl rfl (xs.length + ys.length) (by omega) (by omega) (by omega) (by omega) w.heap.size (Nat.le_refl _) ?_
 intro a0 w0 ho0 hg0
 rw [rep_u64] at ho0
 refine dT rfl ?_
 refine loopR (fun l w' m => ∃ i zs, l = [(18, .slice a xs.length c), (19, .int .i64 xs.length), (20, .int .i64 (i : Nat)), (1, .slice b ys.length d), (5, .slice a0 (xs.length + ys.length) (xs.length + ys.length))] ∧ i ≤ xs.length ∧ zs.length = i + ys.length ∧ Lm zs ∧
  val zs = val (xs.take i) * val ys ∧ w'.ownsRow w.heap.size 79 1 (.slice a0 (xs.length + ys.length) (xs.length + ys.length)) (xs.length + ys.length) ((zs ++ List.replicate (xs.length - i) 0).map u64) ∧ Below w.heap.size w w' ∧ m = xs.length - i)
  ⟨0, List.replicate ys.length 0, rfl, by omega, by simp, Lm.replicate _, by simp [val_replicate, val], by simpa [Nat.add_comm] using ho0, (Below.refl _ _).grown hg0 (Nat.le_refl _) (fun k e => by cases e), rfl⟩ ⟨rfl, rfl, rfl, rfl, rfl, trivial⟩ ?_
 rintro l w' m ⟨i, zs, rfl, hi, hz, hzl, hv, ho, hB, rfl⟩
 refine dT rfl ?_
 refine cS rfl rfl rfl rfl (fun hq => ?_) (fun hq => ?_)
 ·refine dS rfl ?_
  have hi' : i < xs.length := by omega
  have hx1 := hxl.getD i
  refine il U rfl rfl rfl rfl rfl rfl rfl (fun _ => rfl) rfl i (by omega) (by omega) (ha.below hB).1 (getU hi') ?_
  have hrnd := @mul_round (xs := xs) (ys := ys) (zs := zs) (i := i) (r := xs.length - i)
  generalize hx2 : xs.getD i 0 = x at *
  refine dT rfl ?_
  refine loopR (fun l w2 m => ∃ k cs cy, l = [(25, .slice b ys.length d), (26, .int .i64 ys.length), (27, .int .i64 (k : Nat)), (7, .int .u64 (x : Nat)), (6, .int .i64 (i : Nat)), (8, .int .u64 (cy : Nat)),
    (18, .slice a xs.length c), (19, .int .i64 xs.length), (20, .int .i64 (i : Nat)), (1, .slice b ys.length d), (5, .slice a0 (xs.length + ys.length) (xs.length + ys.length))] ∧ k ≤ ys.length ∧ cs.length = (zs ++ List.replicate (xs.length - i) 0).length ∧ Lm cs ∧ cy < 1000000000 ∧
   cs.drop (i + k) = (zs ++ List.replicate (xs.length - i) 0).drop (i + k) ∧ val (cs.take (i + k)) + cy * pw (i + k) = val ((zs ++ List.replicate (xs.length - i) 0).take (i + k)) + x * (pw i * val (ys.take k)) ∧
   w2.ownsRow w.heap.size 79 1 (.slice a0 (xs.length + ys.length) (xs.length + ys.length)) (xs.length + ys.length) (cs.map u64) ∧ Below w.heap.size w w2 ∧ m = ys.length - k)
   ⟨0, zs ++ List.replicate (xs.length - i) 0, 0, rfl, by omega, rfl, hzl.append (Lm.replicate _), by omega, rfl, by simp [val], ho, hB, rfl⟩ ⟨rfl, rfl, rfl, rfl, rfl, rfl, rfl, rfl, rfl, rfl, rfl, trivial⟩ ?_
  rintro l w2 m ⟨k, cs, cy, rfl, hk, hcl, hcs, hcy, hd, hcv, ho2, hB2, rfl⟩
  have hcl2 : cs.length = xs.length + ys.length := by rw [hcl]; simp; omega
  refine dT rfl ?_
  refine cS rfl rfl rfl rfl (fun hq => ?_) (fun hq => ?_)
  ·refine dS rfl ?_
   have hk' : k < ys.length := by omega
   have hy1 := hyl.getD k
   refine il U rfl rfl rfl rfl rfl rfl rfl (fun _ => rfl) rfl k (by omega) (by omega) (hb.below hB2).1 (getU hk') ?_
   refine dS rfl ?_
   have hj : i + k < cs.length := by omega
   have hc1 := hcs.getD (i + k)
   refine il U rfl rfl rfl rfl rfl rfl rfl (fun _ => rfl) rfl (i + k) (by omega) (by omega) (own_sl ho2) (getU hj) ?_
   have hs := mul_step (x := x) hk' hj hcl hd hcv
   generalize hy2 : ys.getD k 0 = y at *
   generalize hc2 : cs.getD (i + k) 0 = o at *
   have hxy : x * y ≤ 999999998000000001 := Nat.le_trans (Nat.mul_le_mul (show x ≤ 999999999 by omega) (show y ≤ 999999999 by omega)) (by decide)
   refine dr U 600 rfl ?_ ?_
   ·simp only [AllP, InR, List.nil_append, List.cons_append, and_true, ← Int.natCast_mul]
    omega
   refine is U (v := (u64 ((o + x * y + cy) % 1000000000))) rfl rfl rfl rfl rfl rfl rfl (fun _ => rfl) (fun _ => iv (by rw [← Int.natCast_mul]; omega)) (fun _ => rfl) rfl rfl (i + k) (by omega) (by omega) ho2 ?_
   intro p0 w3 ho3 hg3 _
   refine dS rfl ?_
   rw [set_u64] at ho3
   refine rend _ _ ⟨k + 1, cs.set (i + k) ((o + x * y + cy) % 1000000000), (o + x * y + cy) / 1000000000, rfl, by omega, by simp [hcl], hcs.set _ (by omega), by omega, by rw [← Nat.add_assoc, set_drop_succ]; exact drop_succ_of_drop hd, hs, ho3, hB2.grown hg3 hB2.size (fun g hg => (own_block ho2 g hg).1), rfl⟩ (by omega)
    ⟨rfl, rfl, iv (by omega), rfl, rfl, iv (by rw [← Int.natCast_mul]; omega), rfl, rfl, rfl, rfl, rfl, trivial⟩
  ·obtain rfl : k = ys.length := by omega
   refine dS rfl ?_
   refine is U (v := (u64 cy)) rfl rfl rfl rfl rfl rfl rfl (fun _ => rfl) (fun _ => iv (by omega)) (fun _ => rfl) rfl rfl (i + ys.length) (by omega) (by omega) ho2 ?_
   intro p0 w3 ho3 hg3 _
   refine dS rfl ?_
   obtain ⟨zs', h1, h2, h3⟩ := hrnd cs hi' hz (by omega) hcl hd hv hcv
   have h4 := hcs.set (i + ys.length) hcy
   rw [set_u64, h1] at ho3
   rw [h1] at h4
   refine rend _ _ ⟨i + 1, zs', rfl, by omega, h2, h4.left, h3, by rw [show xs.length - (i + 1) = xs.length - i - 1 by omega]; exact ho3, hB2.grown hg3 hB2.size (fun g hg => (own_block ho2 g hg).1), rfl⟩ (by omega) ⟨rfl, rfl, iv (by omega), rfl, rfl, trivial⟩
 ·obtain rfl : i = xs.length := by omega
  refine dT rfl ?_
  rw [take_all (Nat.le_refl _)] at hv
  refine call (f := 121) rfl rfl cb121 (trim_ownN (xs.length + ys.length) zs hz a0 (xs.length + ys.length) w.heap.size w' (by simpa using ho) hzl (by omega)) ?_
  rintro v w1 ⟨rfl, rfl, ho1⟩
  refine ⟨_, rfl, ?_⟩
  refine dT rfl ?_
  refine ret Tryz.results91 rfl ⟨_, rfl, ?_⟩
  rw [hv, hvp, hvq] at ho1
  exact ⟨_, _, by rw [hv, hvp, hvq]; rfl, ho1, hB⟩

theorem of_calls (n : Nat) (hn : n < 18446744073709551616) (w : World) : Calls Tryz.prog 52 #[u64 n] w (Ret fun v w' => Own w w' v (lim n)) := by
 refine enter Tryz.func52 rfl Tryz.ntmps52 (Nat.le_of_ble_eq_true rfl) ?_
 refine dT rfl ?_
 refine loopR (fun l w' m => ∃ i zs a c, l = [(0, .int .u64 (m : Nat)), (3, .slice a i c)] ∧ zs.length = i ∧ i ≤ 64 ∧ m * 2 ^ i ≤ n ∧ zs ++ lim m = lim n ∧ w'.ownsRow w.heap.size 79 1 (.slice a i c) i (zs.map u64) ∧ Below w.heap.size w w')
  (m0 := n) ⟨0, [], none, 0, rfl, rfl, by omega, by omega, rfl, ⟨rfl, .inl ⟨rfl, rfl⟩⟩, Below.refl _ _⟩ ⟨rfl, rfl, trivial⟩ ?_
 rintro l w' m ⟨i, zs, a, c, rfl, hz, hi, hm, hl, ho, hB⟩
 have hmn : m ≤ n := Nat.le_trans (Nat.le_mul_of_pos_right _ (Nat.pow_pos (by omega))) hm
 refine dS rfl ?_
 refine cS rfl rfl rfl rfl (fun hq => ?_) (fun hq => ?_)
 ·have hi2 : i < 64 := by
   rcases Nat.lt_or_ge i 64 with h | h
   ·exact h
   ·have h1 : 2 ^ 64 ≤ 2 ^ i := Nat.pow_le_pow_right (by omega) h
    have h2 : 1 * 2 ^ i ≤ m * 2 ^ i := Nat.mul_le_mul_right _ (by omega)
    omega
  rw [lim_pos (by omega)] at hl
  refine dS rfl ?_
  refine ap U (v := (u64 (m % 1000000000))) (iv (by omega)) rfl rfl rfl rfl rfl (fun _ => rfl) rfl (fun _ => rfl) rfl rfl rfl ho hB.size (by omega) (by decide) ?_
  intro a1 c1 w1 ho1 hg1
  refine dS rfl ?_
  refine rend _ (m / 1000000000) ⟨i + 1, zs ++ [m % 1000000000], a1, c1, rfl, by simp [hz], by omega, ?_, by simpa using hl, by simpa using ho1, hB.grown hg1 hB.size (fun g hg => (own_block ho g hg).1)⟩ (by omega) ⟨iv (by omega), rfl, trivial⟩
  rw [Nat.pow_succ, ← Nat.mul_assoc, Nat.mul_right_comm]
  exact Nat.le_trans (Nat.mul_le_mul_right _ (by omega)) hm
 ·obtain rfl : m = 0 := by omega
  rw [lim_zero, List.append_nil] at hl
  subst hl
  subst hz
  refine dT rfl ?_
  refine ret Tryz.results52 rfl ⟨_, rfl, ?_⟩
  exact ⟨a, c, rfl, ho, hB⟩
end
section
open Go.RowKit

def Yld (P : Program) (L : Nat) (vs : List Value) (w : World) (R : Bool → World → Prop) : Prop :=
 YieldAt (FW none) 0 P L vs.toArray w fun e w' => ∃ b, e = .returned (.bool b) ∧ R b w'

def SeqN (P : Program) (gf : Nat) (lb : List Value) (N : Nat) (ok : Nat → List Value → Prop) (G : World → Prop) : Prop :=
 ∀ (L : Nat) (J : Nat → World → Prop) (Jx : World → Prop) (W : World),
  (∀ k W1 vs, k < N → J k W1 → G W1 → ok k vs → Yld P L vs W1 fun b W' => (b = true → J (k + 1) W' ∧ G W') ∧ (b = false → Jx W')) → J 0 W → G W →
  Calls P gf (Value.func (.yield L) #[] #[] :: lb).toArray W (Ret fun _ W' => J N W' ∨ Jx W')

def OwnB (B : Nat) (I : World → Prop) : Prop := ∀ W W' row, I W → W.grownBy W' row → (∀ r, row = some r → B ≤ r ∧ ∃ o : Obj, W.heap[r]? = some o ∧ o.isCells = false) → I W'

theorem OwnB.put {B : Nat} {I : World → Prop} (h : OwnB B I) {W : World} {r : Nat} {o : Obj} (o' : Obj) (hI : I W) (hB : B ≤ r) (hr : W.heap[r]? = some o) (ho : o.isCells = false) : I (W.putObj r o') :=
 h W _ (some r) hI (grownBy_putObj' W r o') (fun k e => by cases e; exact ⟨hB, o, hr, ho⟩)
theorem OwnB.new {B : Nat} {I : World → Prop} (h : OwnB B I) {W : World} (o : Obj) (hI : I W) : I (W.alloc o) :=
 h W _ none hI (World.grownBy_alloc W o none) (fun k e => by cases e)
theorem OwnB.and {B : Nat} {I J : World → Prop} (h : OwnB B I) (h' : OwnB B J) : OwnB B (fun w => I w ∧ J w) := fun W W' row hi hg hr => ⟨h W W' row hi.1 hg hr, h' W W' row hi.2 hg hr⟩
theorem OwnB.ex {α : Type} {B : Nat} {I : α → World → Prop} (h : ∀ a, OwnB B (I a)) : OwnB B (fun w => ∃ a, I a w) := fun W W' row ⟨a, hi⟩ hg hr => ⟨a, h a W W' row hi hg hr⟩
theorem OwnB.pure (B : Nat) (p : Prop) : OwnB B (fun _ => p) := fun _ _ _ h _ _ => h

theorem cells_ne {W : World} {r g : Nat} {o : Obj} {c : Array Value} {t : TypeId} {x : Nat × Nat} (h : W.heap[r]? = some o) (ho : o.isCells = false) (hg : W.heap[g]? = some (.cells c t x)) : r ≠ g := by
 rintro rfl; rw [hg] at h; cases h; cases ho

theorem OwnB.bk (B b : Nat) (t : TypeId) (cs : List Value) : OwnB B (fun w => Bk w b t cs) := fun W W' row h hg hr =>
 h.keep hg (fun e => by obtain ⟨_, o, ho, hc⟩ := hr b e; exact cells_ne ho hc h rfl)
theorem OwnB.sl (B : Nat) (a : Option Addr) (vs : List Value) : OwnB B (fun w => Sl w a vs) := fun W W' row h hg hr j v hv => by
 obtain ⟨g, off, rfl, hc⟩ := h j v hv
 refine ⟨g, off, rfl, hg.cell hc (fun e => ?_)⟩
 obtain ⟨_, o, ho, hf⟩ := hr g e.symm
 obtain ⟨o2, h2, h3⟩ := cells_of_cell hc
 rw [ho] at h2; cases h2; rw [hf] at h3; cases h3
theorem OwnB.cell (B : Nat) (p : Addr) (v : Value) : OwnB B (fun w => w.cell? p = some v) := fun W W' row hc hg hr => by
 refine hg.cell hc (fun e => ?_)
 obtain ⟨_, o, ho, hf⟩ := hr _ e.symm
 obtain ⟨o2, h2, h3⟩ := cells_of_cell hc
 rw [ho] at h2; cases h2; rw [hf] at h3; cases h3
theorem OwnB.own (B base e s : Nat) (a : Option Addr) (m c : Nat) (cs : List Value) : OwnB B (fun w => w.ownsRow base e s (.slice a m c) m cs) := fun W W' row h hg hr => by
 refine own_keep h hg (fun g hgb e => ?_)
 obtain ⟨_, o, ho, hf⟩ := hr g e
 rcases h.2 with ⟨h1, h2⟩ | ⟨g', cap, cur, h1, _, h3, _⟩
 ·simp at h1; obtain ⟨rfl, _⟩ := h1; cases hgb
 ·simp at h1; obtain ⟨rfl, rfl⟩ := h1
  simp [ab] at hgb; subst hgb
  exact cells_ne ho hf h3 rfl
theorem OwnB.below {B0 B : Nat} (w0 : World) (h : B0 ≤ B) (hs : B0 ≤ w0.heap.size) : OwnB B (fun w => Below B0 w0 w) := fun W W' row hb hg hr =>
 hb.grown hg (Nat.le_trans hs hb.size) (fun g e => Nat.le_trans h (hr g e).1)

theorem ko_grown {W0 W W' : World} {row : Option Nat} (h : KeepsOthers W0 W) (hg : W.grownBy W' row) (hr : ∀ r, row = some r → ∃ c t x, W.heap[r]? = some (.cells c t x)) : KeepsOthers W0 W' :=
 h.trans ⟨hg.size, fun k o hk ho => by
  rw [hg.block k (Array.getElem?_eq_some_iff.1 hk).1 (fun e => by obtain ⟨c, t, x, hc⟩ := hr k e.symm; exact cells_ne hk ho hc rfl)]; exact hk⟩
theorem ko_below {W0 W W' : World} (h : KeepsOthers W0 W) (hb : Below W.heap.size W W') : KeepsOthers W0 W' :=
 h.trans ⟨hb.size, fun k o hk _ => by rw [hb.block k (Array.getElem?_eq_some_iff.1 hk).1]; exact hk⟩
theorem own_cells {w : World} {base e s : Nat} {a : Option Addr} {m c : Nat} {cs : List Value} (h : w.ownsRow base e s (.slice a m c) m cs) : ∀ g, ab a = some g → ∃ c t x, w.heap[g]? = some (.cells c t x) := by
 intro g hg
 rcases h.2 with ⟨h1, h2⟩ | ⟨g', cap, cur, h1, _, h3, _⟩
 ·simp at h1; obtain ⟨rfl, _⟩ := h1; cases hg
 ·simp at h1; obtain ⟨rfl, rfl⟩ := h1
  simp [ab] at hg; subst hg
  exact ⟨_, _, _, h3⟩

theorem cell_heap {w w' : World} (h : w'.heap = w.heap) {p : Addr} {v : Value} (hc : w.cell? p = some v) : w'.cell? p = some v := by unfold World.cell? at *; rw [h]; exact hc
theorem ldC {P : Program} (U : Tys P) {t : TypeId} (h : noAgg U.tb.u t = true) {w w' : World} (hw : w'.heap = w.heap) {p : Addr} {v : Value} (hc : w.cell? p = some v) : (loadVar t p).run P w' = .ok v w' :=
 run_load_cell U h (cell_heap hw hc)

section
variable {P : Program} {n : Nat} {ds : List Deferred} {Q : PT} {l l' : Fr} {w w' : World} {arr : Array Oper} {r : List Oper} {k : List It}

def cyl (l : Fr) : Op → Option (Nat × List Value)
 | .call ⟨.value f, ⟨xs⟩, _⟩ => match ev l f with
  | some (.func (.yield L) ⟨[]⟩ ⟨[]⟩) => match xs.mapM (ev l) with
   | some vs => some (L, vs)
   | none => none
  | _ => none
 | _ => none

theorem yld {o : Oper} {L : Nat} {vs : List Value} {R : Bool → World → Prop} (e : cyl l o.op = some (L, vs)) (hg : gd arr l o.guard = some true)
  (hc : Yld P L vs w R) (t' : ∀ b w1, R b w1 → ∃ l', put1 n l o.dst (.bool b) = some l' ∧ T P none n ds Q l' w1 (.ops arr r) k) : T P none n ds Q l w (.ops arr (o :: r)) k := by
 intro a hf
 show wpListIn _ _ _ _ _ _ _ _
 unfold wpListIn
 rw [gd_wanted hf hg, if_pos rfl]
 refine ⟨fun _ _ => trivial, ?_⟩
 obtain ⟨dst, op, type, pos, after, guard⟩ := o
 dsimp only at e hg t' ⊢
 cases op with
 | call c =>
  obtain ⟨callee, ⟨xs⟩, tys⟩ := c
  cases callee with
  | value x =>
   simp only [cyl] at e
   split at e
   ·rename_i L' hx
    split at e
    ·rename_i us hus
     simp at e; obtain ⟨rfl, rfl⟩ := e
     obtain ⟨fn, tmps, assign, body, hy, hR⟩ := hc
     have hargs : (Array.map a.eval ⟨xs⟩) = us.toArray := by
      apply Array.toList_inj.1; simpa using mapM_ev hf hus
     have hrun : (execOp a.eval ⟨dst, .call ⟨.value x, ⟨xs⟩, tys⟩, type, pos, after, guard⟩).run P w = .ok (.round L' fn tmps assign body) w := by
      simp only [execOp, resolve, hargs, hf.ev hx, Deferred.ofValue]
      simpa [invoke, Sem.run_bind] using hy
     rw [Oper.semAt_eq _ _ _ (by intro c h; cases h)]
     show Oper.uponIn (FW none) 0 P _ a _ _ ((execOp a.eval _).run P w)
     rw [hrun]
     refine ⟨fun h => by simp [FW] at h, hR.mono ?_⟩
     rintro e' w' ⟨b, rfl, hp⟩
     obtain ⟨l', hl, t'⟩ := t' b w' hp
     exact t' _ (hf.put1 hl)
    ·simp at e
   ·simp at e
  | _ => simp [cyl] at e
 | _ => simp [cyl] at e

def zipF : List Tmp → List Value → Fr → Fr
 | p :: ps, v :: vs, l => zipF ps vs ((p, v) :: l)
 | _, _, l => l

theorem fit_zip : ∀ (ps : List Tmp) (vs : List Value) (l : Fr) (t : Array Value), Fit n [] l ⟨t, []⟩ → ps.all (Nat.blt · n) = true →
  Fit n [] (zipF ps vs l) ⟨(ps.zip vs).foldl (fun t (p, v) => t.setIfInBounds p v) t, []⟩
 | [], _, _, _, h, _ => by simpa [zipF] using h
 | _ :: _, [], _, _, h, _ => by simpa [zipF] using h
 | p :: ps, v :: vs, l, t, h, hp => by
  simp only [List.all_cons, Bool.and_eq_true] at hp
  simp only [zipF, List.zip_cons_cons, List.foldl_cons]
  exact fit_zip ps vs _ _ (h.put (Nat.le_of_ble_eq_true hp.1) v) hp.2

def AsgPost (n : Nat) (l1 : Fr) (W : World) : PT := fun e a W' => e = .normal ∧ W' = W ∧ Fit n [] l1 a
def RndPost (W : World) (I G : World → Prop) (Ix : Code → World → Prop) : PT
 | .normal, _, W' => KeepsOthers W W' ∧ I W' ∧ G W'
 | .ret, _, W' => KeepsOthers W W' ∧ Ix .ret W'
 | .exit id, _, W' => KeepsOthers W W' ∧ Ix (.exit id) W'
 | _, _, _ => False

theorem asg {L : Nat} {l1 : Fr} {W : World} (hs : Subf l l1) : T P (some L) n [] (AsgPost n l1 W) l W .nrm [] := fun a hf => ⟨rfl, rfl, hf.less (fun _ _ e => hs.look _ _ e)⟩
theorem rnd {L : Nat} {W : World} {I G : World → Prop} {Ix : Code → World → Prop} (h : KeepsOthers W w ∧ I w ∧ G w) : T P (some L) n [] (RndPost W I G Ix) l w .nrm [] := fun _ _ => h
theorem rndR {L : Nat} {W : World} {I G : World → Prop} {Ix : Code → World → Prop} (h : KeepsOthers W w ∧ Ix .ret w) : T P (some L) n [] (RndPost W I G Ix) l w (.code .ret) k :=
 fun _ _ => wpIn_ret ((KQ_ret k _ _ _).2 h)

theorem rng {g : Operand} {ps : List Tmp} {assign body : Code} {gf N : Nat} {lb : List Value} {ok : Nat → List Value → Prop} {G : World → Prop}
  (hg : ev l g = some (.func (.func gf) ⟨[]⟩ ⟨lb⟩)) (hcb : Callable P gf) (hps : ps.all (Nat.blt · n) = true) (hseq : SeqN P gf lb N ok G) (hok : ∀ k vs, ok k vs → vs.length = ps.length)
  (I : Nat → World → Prop) (Ix : Code → World → Prop) (hI : ∀ k, OwnB w.heap.size (I k)) (hIx : ∀ c, OwnB w.heap.size (Ix c)) (hG : OwnB w.heap.size G) (h0 : I 0 w) (hG0 : G w)
  (l1 : List Value → Fr)
  (hassign : ∀ L j vs W, ok j vs → T P (some L) n [] (AsgPost n (l1 vs) W) (zipF ps vs l) W (.code assign) [])
  (hbody : ∀ L j vs W, j < N → ok j vs → I j W → G W → w.heap.size ≤ W.heap.size → T P (some L) n [] (RndPost W (I (j + 1)) G Ix) (l1 vs) W (.code body) [])
  (hdone : ∀ D W, w.heap.size ≤ D → I N W → W.heap[D]? = some (.deferred (some [])) → T P none n ({ target := .collected D, args := #[] } :: ds) Q l W .nrm k)
  (hstop : ∀ D c W, w.heap.size ≤ D → Ix c W → W.heap[D]? = some (.deferred (some [])) → T P none n ({ target := .collected D, args := #[] } :: ds) Q l W (.code c) k) :
  T P none n ds Q l w (.code (.rangeFunc g ⟨ps⟩ assign body)) k := by
 intro a hf
 show (Code.rangeFunc g ⟨ps⟩ assign body).wpIn (FW none) 0 P _ a w
 refine wpIn_rangeFunc ?_
 intro fn _
 show ∃ l mark w₁ d w₁' f args w₂, (Instr.enterLoop fn a.tmps ⟨ps⟩ assign body none).run P w = _ ∧ _
 obtain ⟨rec, hrec⟩ : ∃ rec : LoopState → Option Code → Loop, rec = fun st pe => { state := st, pending := pe, fn, tmps := a.tmps, params := ⟨ps⟩, assign, body, defers := w.heap.size } := ⟨_, rfl⟩
 obtain ⟨W1, hW1⟩ : ∃ W1, (w.alloc (.deferred (some []))).alloc (.loop (rec .ready none)) = W1 := ⟨_, rfl⟩
 have hL1 : W1.heap[w.heap.size + 1]? = some (.loop (rec .ready none)) := by
  rw [← hW1]; have := World.alloc_heap_new (w.alloc (.deferred (some []))) (.loop (rec .ready none)); rwa [World.size_alloc] at this
 have hK1 : W1.heap[w.heap.size]? = some (.deferred (some [])) := by
  rw [← hW1]; exact (Below.heap_alloc _ _ _ (by simp)).trans (World.alloc_heap_new w _)
 have hI1 : I 0 W1 := by rw [← hW1]; exact (hI 0).new _ ((hI 0).new _ h0)
 have hG1 : G W1 := by rw [← hW1]; exact hG.new _ (hG.new _ hG0)
 obtain ⟨gfn, hgfn, hname, hbd⟩ := hcb
 refine ⟨w.heap.size + 1, [{ target := .collected w.heap.size, args := #[] }], W1, { target := .fn (.func gf) ⟨lb⟩, args := #[.func (.yield (w.heap.size + 1)) #[] #[]] }, W1, gf,
  (Value.func (.yield (w.heap.size + 1)) #[] #[] :: lb).toArray, W1, ?_, ?_, fun _ _ => trivial, ?_, fun h => by simp [FW] at h, ?_⟩
 ·rw [← hW1, hrec]; exact run_enterLoop_outer _ _ _ _ _
 ·simp only [resolve, hf.ev hg]
  simp [go_sem]
 ·have h1 : ¬ gfn.name = "runtime.NumGoroutine" := by simpa using hname
  have h2 : ¬ gfn.body = none := by intro h; rw [h] at hbd; cases hbd
  simp [invoke, callFunc, program, Sem.run, hgfn, h1, h2]
 ·refine ((callsIn_wide (n := 0)).2 (hseq (w.heap.size + 1)
   (fun j W => I j W ∧ w.heap.size ≤ W.heap.size ∧ W.heap[w.heap.size + 1]? = some (.loop (rec .ready none)) ∧ W.heap[w.heap.size]? = some (.deferred (some [])))
   (fun W => ∃ c, Ix c W ∧ W.heap[w.heap.size + 1]? = some (.loop (rec .done (some c))) ∧ W.heap[w.heap.size]? = some (.deferred (some [])))
   W1 ?_ ⟨hI1, by rw [← hW1]; simp; omega, hL1, hK1⟩ hG1)).mono ?_
  ·rintro j W vs hj ⟨hi, hsz, hl, hk⟩ hg2 hvs
   have hlt : w.heap.size + 1 < W.heap.size := (Array.getElem?_eq_some_iff.1 hl).1
   have hy := run_yield (P := P) (args := vs.toArray) hl (by rw [hrec]; simpa using hok j vs hvs)
   rw [hrec] at hy
   refine ⟨fn, _, assign, body, hy, roundIn_of_wpIn trivial ?_⟩
   have hl2 : (W.putObj (w.heap.size + 1) (.loop { rec .ready none with state := .busy })).heap[w.heap.size + 1]? = some (.loop { rec .ready none with state := .busy }) := World.putObj_heap_same hlt
   have hk2 : (W.putObj (w.heap.size + 1) (.loop { rec .ready none with state := .busy })).heap[w.heap.size]? = some (.deferred (some [])) := (World.putObj_heap_other (by omega)).trans hk
   have hi2 := (hI j).put (.loop { rec .ready none with state := .busy }) hi (by omega) hl rfl
   have hg3 := hG.put (.loop { rec .ready none with state := .busy }) hg2 (by omega) hl rfl
   have hfit := fit_zip (n := n) ps vs l a.tmps ⟨hf.sz, rfl, hf.rd⟩ hps
   have has := hassign (w.heap.size + 1) j vs W hvs _ hfit
   have htm : (((⟨ps⟩ : Array Tmp).zip vs.toArray).foldl (fun t (x : Tmp × Value) => t.setIfInBounds x.1 x.2) a.tmps) = (ps.zip vs).foldl (fun t (x : Tmp × Value) => t.setIfInBounds x.1 x.2) a.tmps := by
    rw [← Array.foldl_toList, Array.toList_zip]
   show assign.wpIn (FW (some (w.heap.size + 1))) 0 P _ ⟨(((⟨ps⟩ : Array Tmp).zip vs.toArray).foldl (fun t (x : Tmp × Value) => t.setIfInBounds x.1 x.2) a.tmps), []⟩ W
   rw [htm]
   refine wpIn_mono has ?_
   rintro e a3 W' ⟨rfl, rfl, hf3⟩
   refine ⟨_, run_beginRound hl (by rw [hrec]), ?_⟩
   have hb := hbody (w.heap.size + 1) j vs _ hj hvs hi2 hg3 (by simpa using hsz) a3 hf3
   refine wpIn_mono hb ?_
   have fin : ∀ (jump : Option Code) (W3 : World), KeepsOthers (W'.putObj (w.heap.size + 1) (.loop { rec .ready none with state := .busy })) W3 →
     (Instr.endRound (w.heap.size + 1) jump).run P W3 = .ok (.bool jump.isNone) (W3.putObj (w.heap.size + 1) (.loop (rec (if jump.isNone then .ready else .done) jump))) ∧
     W3.heap[w.heap.size + 1]? = some (.loop { rec .ready none with state := .busy }) ∧
     (W3.putObj (w.heap.size + 1) (.loop (rec (if jump.isNone then .ready else .done) jump))).heap[w.heap.size + 1]? = some (.loop (rec (if jump.isNone then .ready else .done) jump)) ∧
     (W3.putObj (w.heap.size + 1) (.loop (rec (if jump.isNone then .ready else .done) jump))).heap[w.heap.size]? = some (.deferred (some [])) ∧ w.heap.size ≤ W3.heap.size := fun jump W3 hk3 => by
    have hl3 := hk3.same _ _ hl2 rfl
    have hr := run_endRound (P := P) jump hl3
    have hs3 := hk3.size
    rw [hrec] at hr ⊢
    exact ⟨hr, by rw [hrec] at hl3; exact hl3, World.putObj_heap_same (Array.getElem?_eq_some_iff.1 hl3).1, (World.putObj_heap_other (by omega)).trans (hk3.same _ _ hk2 rfl), by simp at hs3; omega⟩
   rintro e a4 W3 hp
   cases e with
   | normal =>
    obtain ⟨hk3, hi3, hg4⟩ := hp
    obtain ⟨hr, hl3, hl4, hk4, hs4⟩ := fin none W3 hk3
    exact ⟨_, _, hr, true, rfl, fun _ => ⟨⟨(hI _).put _ hi3 (by omega) hl3 rfl, by simpa using hs4, hl4, hk4⟩, hG.put _ hg4 (by omega) hl3 rfl⟩, fun h => by cases h⟩
   | ret =>
    obtain ⟨hk3, hi3⟩ := hp
    obtain ⟨hr, hl3, hl4, hk4, _⟩ := fin (some .ret) W3 hk3
    exact ⟨_, _, hr, false, rfl, fun h => (by cases h), fun _ => ⟨.ret, (hIx _).put _ hi3 (by omega) hl3 rfl, hl4, hk4⟩⟩
   | exit id =>
    obtain ⟨hk3, hi3⟩ := hp
    obtain ⟨hr, hl3, hl4, hk4, _⟩ := fin (some (.exit id)) W3 hk3
    exact ⟨_, _, hr, false, rfl, fun h => (by cases h), fun _ => ⟨.exit id, (hIx _).put _ hi3 (by omega) hl3 rfl, hl4, hk4⟩⟩
   | goto t => exact hp.elim
   | panic ch => exact hp.elim
   | outgrown => exact hp.elim
  ·rintro e W2 ⟨v, rfl, (⟨hi, hsz, hl, hk⟩ | ⟨c, hi, hl, hk⟩)⟩
   ·exact ⟨none, _, by have := run_endLoop (P := P) hl (by rw [hrec]; simp); rw [hrec] at this; exact this,
     hdone _ _ (Nat.le_refl _) ((hI _).put _ hi (by omega) hl rfl) ((World.putObj_heap_other (by omega)).trans hk) _ ⟨hf.sz, by simp [hf.df], hf.rd⟩⟩
   ·exact ⟨some c, _, by have := run_endLoop (P := P) hl (by rw [hrec]; simp); rw [hrec] at this; exact this,
     hstop _ c _ (Nat.le_refl _) ((hIx c).put _ hi (by omega) hl rfl) ((World.putObj_heap_other (by omega)).trans hk) _ ⟨hf.sz, by simp [hf.df], hf.rd⟩⟩

theorem enterM {f : FuncId} {fn : Func} {c : Code} {args : List Value} {R : Ending → World → Prop} (hf : P.funcs[f]? = some fn) (hb : fn.body = some c) (hn : fn.ntmps = n) (hle : args.length ≤ n)
  (t : T P none n [] (bodyPostM (FW none) 0 P fn R) (enumF 0 args) w (.code c) []) : Calls P f args.toArray w R := by
 rw [← callsIn_wide (n := 0), ← FW_wide]
 refine callsIn_of_wp_marks hf hb trivial (t _ ⟨by simp [hn]; omega, rfl, fun t v e => ?_⟩) rfl
 obtain ⟨_, h⟩ := look_enumF args 0 t v e
 simp only [Nat.sub_zero] at h
 have hlt : t < args.length := by
  rcases Nat.lt_or_ge t args.length with h' | h'
  ·exact h'
  ·rw [List.getElem?_eq_none h'] at h; cases h
 show (args.toArray ++ _)[t]? = _
 rw [Array.getElem?_append_left (by simpa using hlt)]
 simpa using h

def Rsv (U : Tys P) (l : Fr) (w : World) : List ResultVar → List Value → Prop
 | [], [] => True
 | .tmp t :: r, v :: vs => look l t = some v ∧ Rsv U l w r vs
 | .cell t ty :: r, v :: vs => (∃ p, look l t = some (.pointer (some p)) ∧ noAgg U.tb.u ty = true ∧ w.cell? p = some v) ∧ Rsv U l w r vs
 | _, _ => False

theorem run_Rsv (U : Tys P) {tmps : Array Value} (hd : ∀ t v, look l t = some v → tmps[t]? = some v) (f : ResultVar → Sem Value)
  (h1 : ∀ t, f (.tmp t) = Pure.pure (tmps.getD t undef)) (h2 : ∀ a t, f (.cell a t) = do loadVar t (← asAddr (tmps.getD a undef))) :
  ∀ (rs : List ResultVar) (vs : List Value), Rsv U l w rs vs → (rs.mapM f).run P w = .ok vs w
 | [], [], _ => by simp
 | .tmp t :: r, v :: vs, ⟨e, h⟩ => by
  have := run_Rsv U hd f h1 h2 r vs h
  simp only [List.mapM_cons]
  simp [h1, hd t v e, this]
 | .cell t ty :: r, v :: vs, ⟨⟨p, e, hn, hc⟩, h⟩ => by
  have := run_Rsv U hd f h1 h2 r vs h
  simp only [List.mapM_cons, h2]
  simp [hd t _ e, this, asAddr, run_load_cell U hn hc]
 | [], _ :: _, h => h.elim
 | .tmp _ :: _, [], h => h.elim
 | .cell .. :: _, [], h => h.elim

theorem run_results (U : Tys P) {fn : Func} {rs : List ResultVar} {vs : List Value} {tmps : Array Value} (hr : fn.results = ⟨rs⟩) (hd : ∀ t v, look l t = some v → tmps[t]? = some v) (hv : Rsv U l w rs vs) :
  (results fn tmps).run P w = .ok (pack vs) w := by
 unfold results
 rw [hr, Array.mapM_eq_mapM_toList]
 simp only [Sem.run_bind, Sem.run_map]
 rw [run_Rsv (l := l) (P := P) (w := w) U hd _ (fun _ => rfl) (fun _ _ => rfl) rs vs hv]
 simp [pack_eq]

theorem retM0 (U : Tys P) {fn : Func} {R : Ending → World → Prop} {rs : List ResultVar} {vs : List Value} (hr : fn.results = ⟨rs⟩) (hv : Rsv U l w rs vs) (hR : R (.returned (pack vs)) w) :
  T P none n [] (bodyPostM (FW none) 0 P fn R) l w (.code .ret) k := by
 intro a hf
 refine wpIn_ret ((KQ_ret k _ a w).2 ?_)
 show LeavesInM _ _ _ _ _ _ a.defers _ _
 rw [hf.df]
 exact ⟨_, run_results U hr hf.rd hv, hR⟩

theorem retM1 (U : Tys P) {fn : Func} {D : Nat} {R : Ending → World → Prop} {rs : List ResultVar} {vs : List Value} (hr : fn.results = ⟨rs⟩) (hD : w.heap[D]? = some (.deferred (some [])))
  (hv : Rsv U l (w.putObj D (.deferred none)) rs vs) (hR : R (.returned (pack vs)) (w.putObj D (.deferred none))) :
  T P none n [{ target := .collected D, args := #[] }] (bodyPostM (FW none) 0 P fn R) l w (.code .ret) k := by
 intro a hf
 refine wpIn_ret ((KQ_ret k _ a w).2 ?_)
 show LeavesInM _ _ _ _ _ _ a.defers _ _
 rw [hf.df]
 exact ⟨by simp, .inl ⟨_, _, rfl, run_takeDeferred hD, _, run_results U hr hf.rd hv, hR⟩⟩

theorem retN {ro : Option Nat} {fn : Func} {R : Ending → World → Prop} {rs : List ResultVar} {vs : List Value} (hr : fn.results = ⟨rs⟩) (hv : resv l rs = some vs) (hR : R (.returned (pack vs)) w) :
  T P ro n [] (bodyPost P fn R) l w .nrm [] := by
 intro a hf
 refine ⟨hf.df, pack vs, ?_, hR⟩
 unfold results
 rw [hr, Array.mapM_eq_mapM_toList]
 simp only [Sem.run_bind, Sem.run_map]
 rw [run_resv (l := l) (P := P) (w := w) _ (fun t v e => by simp [hf.rd t v e]) rs vs hv]
 simp [pack_eq]

end
end
end Go.Proofs.YtejlpdbiacmfcaaGreatDoor
