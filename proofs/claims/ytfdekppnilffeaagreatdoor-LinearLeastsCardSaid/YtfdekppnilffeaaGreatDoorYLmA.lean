/-
  Walks of package limbs: trim, Of, Zero, One, Add, Sub, Mul return what the arithmetic of limbs says, and leave all older memory alone.
  Conditions: the numbers take fewer than 2^40 limbs.

  Walks of package limbs: Add, Sub, Mul, Of return what the arithmetic of limbs says, and leave all older memory alone.
  Conditions: the numbers take fewer than 2^40 limbs.

  Walks of package limbs: Sub, Mul, Of return what the arithmetic of limbs says, and leave all older memory alone.
  Conditions: the numbers take fewer than 2^40 limbs; a difference is not negative.
-/
import Derived.Test.YtfdekppnilffeaaGreatDoorYTab
import Derived.Test.YtfdekppnilffeaaGreatDoorYNum
section
set_option linter.unusedSimpArgs false
set_option linter.unusedVariables false
namespace Go.Proofs.YtfdekppnilffeaaGreatDoor
open Go Go.Proofs Go.RowKit

theorem iv {k : IntKind} {a b : Int} (h : a = b) : some (Value.int k a) = some (Value.int k b) := by rw [h]

/-- A slice of limbs that reads as this list. -/
def Rd (w : World) (a : Option Addr) (c : Nat) (xs : List Nat) : Prop := Sl w a (xs.map u64) ∧ xs.length ≤ c ∧ ∀ g, ab a = some g → Tg w 142 g

theorem Rd.below {w w' : World} {a : Option Addr} {c : Nat} {xs : List Nat} (h : Rd w a c xs) (hb : Below w.heap.size w w') : Rd w' a c xs :=
  ⟨h.1.below hb (fun g hg => (h.2.2 g hg).lt), h.2.1, fun g hg => (h.2.2 g hg).below hb⟩

theorem getU {xs : List Nat} {j : Nat} (h : j < xs.length) : (xs.map u64)[j]? = some (u64 (xs.getD j 0)) := by simp [h, List.getD]

/-- A fresh slice of limbs, as a result. -/
def Own (w w' : World) (v : Value) (zs : List Nat) : Prop := ∃ a c, v = .slice a zs.length c ∧ w'.ownsRow w.heap.size 142 1 (.slice a zs.length c) zs.length (zs.map u64) ∧ Below w.heap.size w w'

theorem own_rd {w : World} {base : Nat} {a : Option Addr} {m c : Nat} {xs : List Nat} (h : w.ownsRow base 142 1 (.slice a m c) m (xs.map u64)) : Rd w a c xs := by
  have hl := own_len h
  simp at hl
  refine ⟨own_sl h, ?_, own_tag h⟩
  rcases h.2 with ⟨h1, h2⟩ | ⟨g, cap, cur, h1, _, _, h4, _⟩
  · omega
  · simp at h1; omega

theorem own_take {w : World} {base e : Nat} {a : Option Addr} {m c k : Nat} {cs : List Value} (h : w.ownsRow base e 1 (.slice a m c) m cs) (hk : k ≤ m) : w.ownsRow base e 1 (.slice a k c) k (cs.take k) := by
  have hl := own_len h
  refine ⟨by simp; omega, ?_⟩
  rcases h.2 with ⟨h1, h2⟩ | ⟨g, cap, cur, h1, h2, h3, h4, h5, h6, h7⟩
  · simp at h1; obtain ⟨rfl, rfl, rfl⟩ := h1
    exact .inl ⟨by simp; omega, by omega⟩
  · simp at h1; obtain ⟨rfl, rfl⟩ := h1
    refine .inr ⟨g, c, cur, rfl, h2, h3, by omega, h5, h6, ?_⟩
    rw [← h7, List.take_take]; simp [Nat.min_eq_left hk]

theorem trim_calls (xs : List Nat) (a : Option Addr) (c : Nat) (w : World) (h : Rd w a c xs) (hl : xs.length ≤ 1099511627776) :
    Calls Tryz.prog 134 #[.slice a xs.length c] w (Ret fun v w' => v = .slice a (trimN xs).length c ∧ w = w') := by
  obtain ⟨hs, hc, _⟩ := h
  refine enter Tryz.func134 rfl Tryz.ntmps134 (Nat.le_of_ble_eq_true rfl) ?_
  refine dr U 600 rfl trivial ?_
  refine loopR (fun l w' m => ∃ j, l = [(0, .slice a j c)] ∧ w = w' ∧ j ≤ xs.length ∧ trimN (xs.take j) = trimN xs ∧ j = m) ⟨xs.length, rfl, rfl, Nat.le_refl _, by simp, rfl⟩ ⟨rfl, trivial⟩ ?_
  rintro l w' m ⟨j, rfl, rfl, hj, ht, rfl⟩
  refine dr U 600 rfl (by first | exact True.intro | (simp only [AllP, InR, List.nil_append, List.cons_append, and_true]; omega)) ?_
  refine cS rfl rfl rfl rfl (fun hq => ?_) (fun hq => ?_)
  · refine dr U 600 rfl (by first | exact True.intro | (simp only [AllP, InR, List.nil_append, List.cons_append, and_true]; omega)) ?_
    obtain ⟨i, rfl⟩ : ∃ i, j = i + 1 := ⟨j - 1, by omega⟩
    rw [take_snoc xs i hj] at ht
    refine il U rfl rfl rfl rfl rfl rfl rfl (fun _ => rfl) rfl i (by omega) (by omega) hs (getU hj) ?_
    refine cS rfl rfl rfl rfl (fun hq => ?_) (fun hq => ?_)
    · refine dr U 600 rfl (by first | exact True.intro | (simp only [AllP, InR, List.nil_append, List.cons_append, and_true]; omega)) ?_
      rw [trimN_snoc0 _ _ (by omega)] at ht
      exact rend _ _ ⟨_, rfl, rfl, by omega, by rw [show (((i + 1 : Nat) : Int) - 1).toNat = i from by omega]; exact ht, rfl⟩ (by omega) ⟨rfl, trivial⟩
    · refine dr U 600 rfl (by first | exact True.intro | (simp only [AllP, InR, List.nil_append, List.cons_append, and_true]; omega)) ?_
      rw [trimN_snoc _ _ (by omega), ← take_snoc xs i hj] at ht
      refine ret Tryz.results134 rfl ⟨_, rfl, ?_, rfl⟩
      rw [← ht]; simp [pack]; omega
  · refine dr U 600 rfl (by first | exact True.intro | (simp only [AllP, InR, List.nil_append, List.cons_append, and_true]; omega)) ?_
    obtain rfl : j = 0 := by omega
    refine ret Tryz.results134 rfl ⟨_, rfl, ?_, rfl⟩
    rw [← ht]; rfl

theorem trim_own (xs : List Nat) (a : Option Addr) (c base : Nat) (w : World) (h : w.ownsRow base 142 1 (.slice a xs.length c) xs.length (xs.map u64)) (hx : Lm xs) (hl : xs.length ≤ 1099511627776) :
    Calls Tryz.prog 134 #[.slice a xs.length c] w (Ret fun v w' => v = .slice a (lim (val xs)).length c ∧ w = w' ∧ w.ownsRow base 142 1 (.slice a (lim (val xs)).length c) (lim (val xs)).length ((lim (val xs)).map u64)) := by
  refine (trim_calls xs a c w (own_rd h) hl).mono ?_
  rintro e w' ⟨v, rfl, rfl, rfl⟩
  rw [trimN_eq hx]
  refine ⟨_, rfl, rfl, rfl, ?_⟩
  obtain ⟨t, ht⟩ := trimN_prefix xs
  rw [trimN_eq hx] at ht
  generalize lim (val xs) = zs at ht
  have h1 := own_take h (k := zs.length) (by rw [ht]; simp)
  have h2 : (xs.map u64).take zs.length = zs.map u64 := by
    rw [ht, List.map_append, List.take_left' (by simp)]
  rw [h2] at h1
  exact h1

theorem zero_calls (xs : List Nat) (a : Option Addr) (c : Nat) (w : World) : Calls Tryz.prog 111 #[.slice a xs.length c] w (Ret fun v w' => v = .bool (decide (xs = [])) ∧ w = w') := by
  refine enter Tryz.func111 rfl Tryz.ntmps111 (Nat.le_of_ble_eq_true rfl) ?_
  refine dr U 600 rfl trivial ?_
  refine cS rfl rfl rfl rfl (fun hq => ?_) (fun hq => ?_)
  · refine dr U 600 rfl trivial ?_
    refine ret Tryz.results111 rfl ⟨_, rfl, ?_, rfl⟩
    have : xs = [] := List.length_eq_zero_iff.1 (by omega)
    simp [this, pack]
  · refine dr U 600 rfl trivial ?_
    refine ret Tryz.results111 rfl ⟨_, rfl, ?_, rfl⟩
    have : ¬ xs = [] := fun e => hq (by rw [e]; rfl)
    simp [this, pack]

theorem one_calls (n : Nat) (a : Option Addr) (c : Nat) (w : World) (h : Rd w a c (lim n)) : Calls Tryz.prog 108 #[.slice a (lim n).length c] w (Ret fun v w' => v = .bool (decide (n = 1)) ∧ w = w') := by
  have hv := val_lim n
  refine enter Tryz.func108 rfl Tryz.ntmps108 (Nat.le_of_ble_eq_true rfl) ?_
  refine dr U 600 rfl trivial ?_
  refine cS rfl rfl rfl rfl (fun hq => ?_) (fun hq => ?_)
  · refine dr U 600 rfl (by first | exact True.intro | (simp only [AllP, InR, List.nil_append, List.cons_append, and_true]; omega)) ?_
    have h0 : 0 < (lim n).length := by omega
    refine il U rfl rfl rfl rfl rfl rfl rfl (fun _ => rfl) rfl 0 (by omega) (by omega) h.1 (getU h0) ?_
    obtain ⟨x, hl⟩ := List.length_eq_one_iff.1 (show (lim n).length = 1 by omega)
    rw [hl] at hv
    simp [val] at hv
    refine cS rfl rfl rfl rfl (fun hq => ?_) (fun hq => ?_)
    · refine dr U 600 rfl trivial ?_
      refine ret Tryz.results108 rfl ⟨_, rfl, ?_, rfl⟩
      have : n = 1 := by simp [hl] at hq; omega
      simp [this, pack]
    · refine dr U 600 rfl trivial ?_
      refine ret Tryz.results108 rfl ⟨_, rfl, ?_, rfl⟩
      have : ¬ n = 1 := by simp [hl] at hq; omega
      simp [this, pack]
  · refine dr U 600 rfl trivial ?_
    refine ret Tryz.results108 rfl ⟨_, rfl, ?_, rfl⟩
    have : ¬ n = 1 := by rintro rfl; rw [lim_one] at hq; exact hq rfl
    simp [this, pack]
end Go.Proofs.YtfdekppnilffeaaGreatDoor
end
section
set_option linter.unusedSimpArgs false
set_option linter.unusedVariables false
namespace Go.Proofs.YtfdekppnilffeaaGreatDoor
open Go Go.Proofs Go.RowKit


theorem add_calls (p q : Nat) (a b : Option Addr) (c d : Nat) (w : World) (ha : Rd w a c (lim p)) (hb : Rd w b d (lim q)) (hpl : (lim p).length ≤ 1099511627776) (hql : (lim q).length ≤ 1099511627776) :
    Calls Tryz.prog 115 #[.slice a (lim p).length c, .slice b (lim q).length d] w (Ret fun v w' => Own w w' v (lim (p + q))) := by
  have hxl := lim_Lm p
  have hyl := lim_Lm q
  have hvp := val_lim p
  have hvq := val_lim q
  have hres1 : ∀ zs, Lm zs → zs.length = (lim p).length → val zs + 1 * pw (lim p).length = val (lim p) + val (lim q) → zs ++ [1] = lim (p + q) := fun zs h1 h2 h3 => add_can1 h1 h2 (by omega)
  have hres0 : ∀ zs, Lm zs → zs.length = (lim p).length → val zs = val (lim p) + val (lim q) → zs = lim (p + q) := fun zs h1 h2 h3 => add_can0 h1 h2 (by omega)
  have hrs1 : ∀ zs, Lm zs → zs.length = (lim q).length → val zs + 1 * pw (lim q).length = val (lim q) + val (lim p) → zs ++ [1] = lim (p + q) := fun zs h1 h2 h3 => by rw [Nat.add_comm]; exact add_can1 h1 h2 (by omega)
  have hrs0 : ∀ zs, Lm zs → zs.length = (lim q).length → val zs = val (lim q) + val (lim p) → zs = lim (p + q) := fun zs h1 h2 h3 => by rw [Nat.add_comm]; exact add_can0 h1 h2 (by omega)
  generalize hxs : lim p = xs at *
  generalize hys : lim q = ys at *
  refine enter Tryz.func115 rfl Tryz.ntmps115 (Nat.le_of_ble_eq_true rfl) ?_
  refine dr U 600 rfl trivial ?_
  refine cS rfl rfl rfl rfl (fun hq => ?_) (fun hq => ?_)
  · skip
    refine dr U 600 rfl (by first | exact True.intro | (simp only [AllP, InR, List.nil_append, List.cons_append, and_true]; omega)) ?_
    refine mk0 U rfl rfl rfl rfl rfl rfl (ys.length + 1) rfl (by omega) (by omega) (by omega) w.heap.size (Nat.le_refl _) ?_
    intro a0 w0 ho0 hg0
    refine dr U 600 rfl trivial ?_
    refine loopR (fun l w' m => ∃ i zs cy ao co, l = [(20, .slice b ys.length d), (21, .int .i64 ys.length), (22, .int .i64 (i : Nat)), (1, .slice a xs.length c), (5, .slice ao i co), (6, .int .u64 (cy : Nat))] ∧ i ≤ ys.length ∧ zs.length = i ∧ Lm zs ∧ cy ≤ 1 ∧
      val zs + cy * pw i = val (ys.take i) + val (xs.take i) ∧ w'.ownsRow w.heap.size 142 1 (.slice ao i co) i (zs.map u64) ∧ Below w.heap.size w w' ∧ m = ys.length - i)
      ⟨0, [], 0, a0, ys.length + 1, rfl, by omega, rfl, Lm.nil, by omega, by simp [val], ho0, (Below.refl _ _).grown hg0 (Nat.le_refl _) (fun k e => by cases e), rfl⟩ ⟨rfl, rfl, rfl, rfl, rfl, rfl, trivial⟩ ?_
    rintro l w' m ⟨i, zs, cy, ao, co, rfl, hi, hz, hzl, hcy, hv, ho, hB, rfl⟩
    refine dr U 600 rfl trivial ?_
    refine cS rfl rfl rfl rfl (fun hq => ?_) (fun hq => ?_)
    · refine dr U 600 rfl (by first | exact True.intro | (simp only [AllP, InR, List.nil_append, List.cons_append, and_true]; omega)) ?_
      have hi' : i < ys.length := by omega
      have hx1 := hyl.getD i
      have hs := @add_step zs ys xs i cy hi' hz
      refine il U rfl rfl rfl rfl rfl rfl rfl (fun _ => rfl) rfl i (by omega) (by omega) (hb.below hB).1 (getU hi') ?_
      refine dr U 600 rfl (by first | exact True.intro | (simp only [AllP, InR, List.nil_append, List.cons_append, and_true]; omega)) ?_
      refine cS rfl rfl rfl rfl (fun hq => ?_) (fun hq => ?_)
      · refine dr U 600 rfl (by first | exact True.intro | (simp only [AllP, InR, List.nil_append, List.cons_append, and_true]; omega)) ?_
        have hj : i < xs.length := by omega
        have hy1 := hxl.getD i
        have hs := hs _ (val_take_succ xs i hj) hv
        refine il U rfl rfl rfl rfl rfl rfl rfl (fun _ => rfl) rfl i (by omega) (by omega) (ha.below hB).1 (getU hj) ?_
        generalize hx2 : ys.getD i 0 = x at *
        generalize hy2 : xs.getD i 0 = y at *
        refine dr U 600 rfl (by first | exact True.intro | (simp only [AllP, InR, List.nil_append, List.cons_append, and_true]; omega)) ?_
        refine ap U (v := (u64 ((x + cy + y) % 1000000000))) (iv (by omega)) rfl rfl rfl rfl rfl (fun _ => rfl) rfl (fun _ => rfl) rfl rfl rfl ho hB.size (by omega) (by decide) ?_
        intro a1 c1 w1 ho1 hg1
        refine dr U 600 rfl (by first | exact True.intro | (simp only [AllP, InR, List.nil_append, List.cons_append, and_true]; omega)) ?_
        refine rend _ _ ⟨i + 1, zs ++ [(x + cy + y) % 1000000000], (x + cy + y) / 1000000000, a1, c1, rfl, by omega, by simp [hz], hzl.snoc (by omega), by omega, hs, by simpa using ho1, hB.grown hg1 hB.size (fun g hg => (own_block ho g hg).1), rfl⟩ (by omega) ⟨rfl, rfl, iv (by omega), rfl, rfl, iv (by omega), trivial⟩
      · have hs := hs _ (val_take_beyond xs i (by omega)) hv
        generalize hx2 : ys.getD i 0 = x at *
        refine dr U 600 rfl (by first | exact True.intro | (simp only [AllP, InR, List.nil_append, List.cons_append, and_true]; omega)) ?_
        refine ap U (v := (u64 ((x + cy + 0) % 1000000000))) (iv (by omega)) rfl rfl rfl rfl rfl (fun _ => rfl) rfl (fun _ => rfl) rfl rfl rfl ho hB.size (by omega) (by decide) ?_
        intro a1 c1 w1 ho1 hg1
        refine dr U 600 rfl (by first | exact True.intro | (simp only [AllP, InR, List.nil_append, List.cons_append, and_true]; omega)) ?_
        refine rend _ _ ⟨i + 1, zs ++ [(x + cy + 0) % 1000000000], (x + cy + 0) / 1000000000, a1, c1, rfl, by omega, by simp [hz], hzl.snoc (by omega), by omega, hs, by simpa using ho1, hB.grown hg1 hB.size (fun g hg => (own_block ho g hg).1), rfl⟩ (by omega) ⟨rfl, rfl, iv (by omega), rfl, rfl, iv (by omega), trivial⟩
    · obtain rfl : i = ys.length := by omega
      rw [take_all (Nat.le_refl _), take_all (show xs.length ≤ ys.length by omega)] at hv
      refine dr U 600 rfl trivial ?_
      refine cS rfl rfl rfl rfl (fun hq => ?_) (fun hq => ?_)
      · obtain rfl : cy = 1 := by omega
        refine dr U 600 rfl (by first | exact True.intro | (simp only [AllP, InR, List.nil_append, List.cons_append, and_true]; omega)) ?_
        refine ap U (v := (u64 1)) rfl rfl rfl rfl rfl rfl (fun _ => rfl) rfl (fun _ => rfl) rfl rfl rfl ho hB.size (by omega) (by decide) ?_
        intro a1 c1 w1 ho1 hg1
        refine dr U 600 rfl (by first | exact True.intro | (simp only [AllP, InR, List.nil_append, List.cons_append, and_true]; omega)) ?_
        refine ret Tryz.results115 rfl ⟨_, rfl, ?_⟩
        have e := hrs1 zs hzl hz hv
        have e2 : (lim (p + q)).length = ys.length + 1 := by rw [← e]; simp [hz]
        refine ⟨a1, c1, by rw [e2]; rfl, ?_, hB.grown hg1 hB.size (fun g hg => (own_block ho g hg).1)⟩
        rw [e2, ← e]; simpa using ho1
      · obtain rfl : cy = 0 := by omega
        refine dr U 600 rfl (by first | exact True.intro | (simp only [AllP, InR, List.nil_append, List.cons_append, and_true]; omega)) ?_
        refine ret Tryz.results115 rfl ⟨_, rfl, ?_⟩
        have e := hrs0 zs hzl hz (by simpa using hv)
        have e2 : (lim (p + q)).length = ys.length := by rw [← e]; simp [hz]
        refine ⟨ao, co, by rw [e2]; rfl, ?_, hB⟩
        rw [e2, ← e]; exact ho
  · skip
    refine dr U 600 rfl (by first | exact True.intro | (simp only [AllP, InR, List.nil_append, List.cons_append, and_true]; omega)) ?_
    refine mk0 U rfl rfl rfl rfl rfl rfl (xs.length + 1) rfl (by omega) (by omega) (by omega) w.heap.size (Nat.le_refl _) ?_
    intro a0 w0 ho0 hg0
    refine dr U 600 rfl trivial ?_
    refine loopR (fun l w' m => ∃ i zs cy ao co, l = [(20, .slice a xs.length c), (21, .int .i64 xs.length), (22, .int .i64 (i : Nat)), (1, .slice b ys.length d), (5, .slice ao i co), (6, .int .u64 (cy : Nat))] ∧ i ≤ xs.length ∧ zs.length = i ∧ Lm zs ∧ cy ≤ 1 ∧
      val zs + cy * pw i = val (xs.take i) + val (ys.take i) ∧ w'.ownsRow w.heap.size 142 1 (.slice ao i co) i (zs.map u64) ∧ Below w.heap.size w w' ∧ m = xs.length - i)
      ⟨0, [], 0, a0, xs.length + 1, rfl, by omega, rfl, Lm.nil, by omega, by simp [val], ho0, (Below.refl _ _).grown hg0 (Nat.le_refl _) (fun k e => by cases e), rfl⟩ ⟨rfl, rfl, rfl, rfl, rfl, rfl, trivial⟩ ?_
    rintro l w' m ⟨i, zs, cy, ao, co, rfl, hi, hz, hzl, hcy, hv, ho, hB, rfl⟩
    refine dr U 600 rfl trivial ?_
    refine cS rfl rfl rfl rfl (fun hq => ?_) (fun hq => ?_)
    · refine dr U 600 rfl (by first | exact True.intro | (simp only [AllP, InR, List.nil_append, List.cons_append, and_true]; omega)) ?_
      have hi' : i < xs.length := by omega
      have hx1 := hxl.getD i
      have hs := @add_step zs xs ys i cy hi' hz
      refine il U rfl rfl rfl rfl rfl rfl rfl (fun _ => rfl) rfl i (by omega) (by omega) (ha.below hB).1 (getU hi') ?_
      refine dr U 600 rfl (by first | exact True.intro | (simp only [AllP, InR, List.nil_append, List.cons_append, and_true]; omega)) ?_
      refine cS rfl rfl rfl rfl (fun hq => ?_) (fun hq => ?_)
      · refine dr U 600 rfl (by first | exact True.intro | (simp only [AllP, InR, List.nil_append, List.cons_append, and_true]; omega)) ?_
        have hj : i < ys.length := by omega
        have hy1 := hyl.getD i
        have hs := hs _ (val_take_succ ys i hj) hv
        refine il U rfl rfl rfl rfl rfl rfl rfl (fun _ => rfl) rfl i (by omega) (by omega) (hb.below hB).1 (getU hj) ?_
        generalize hx2 : xs.getD i 0 = x at *
        generalize hy2 : ys.getD i 0 = y at *
        refine dr U 600 rfl (by first | exact True.intro | (simp only [AllP, InR, List.nil_append, List.cons_append, and_true]; omega)) ?_
        refine ap U (v := (u64 ((x + cy + y) % 1000000000))) (iv (by omega)) rfl rfl rfl rfl rfl (fun _ => rfl) rfl (fun _ => rfl) rfl rfl rfl ho hB.size (by omega) (by decide) ?_
        intro a1 c1 w1 ho1 hg1
        refine dr U 600 rfl (by first | exact True.intro | (simp only [AllP, InR, List.nil_append, List.cons_append, and_true]; omega)) ?_
        refine rend _ _ ⟨i + 1, zs ++ [(x + cy + y) % 1000000000], (x + cy + y) / 1000000000, a1, c1, rfl, by omega, by simp [hz], hzl.snoc (by omega), by omega, hs, by simpa using ho1, hB.grown hg1 hB.size (fun g hg => (own_block ho g hg).1), rfl⟩ (by omega) ⟨rfl, rfl, iv (by omega), rfl, rfl, iv (by omega), trivial⟩
      · have hs := hs _ (val_take_beyond ys i (by omega)) hv
        generalize hx2 : xs.getD i 0 = x at *
        refine dr U 600 rfl (by first | exact True.intro | (simp only [AllP, InR, List.nil_append, List.cons_append, and_true]; omega)) ?_
        refine ap U (v := (u64 ((x + cy + 0) % 1000000000))) (iv (by omega)) rfl rfl rfl rfl rfl (fun _ => rfl) rfl (fun _ => rfl) rfl rfl rfl ho hB.size (by omega) (by decide) ?_
        intro a1 c1 w1 ho1 hg1
        refine dr U 600 rfl (by first | exact True.intro | (simp only [AllP, InR, List.nil_append, List.cons_append, and_true]; omega)) ?_
        refine rend _ _ ⟨i + 1, zs ++ [(x + cy + 0) % 1000000000], (x + cy + 0) / 1000000000, a1, c1, rfl, by omega, by simp [hz], hzl.snoc (by omega), by omega, hs, by simpa using ho1, hB.grown hg1 hB.size (fun g hg => (own_block ho g hg).1), rfl⟩ (by omega) ⟨rfl, rfl, iv (by omega), rfl, rfl, iv (by omega), trivial⟩
    · obtain rfl : i = xs.length := by omega
      rw [take_all (Nat.le_refl _), take_all (show ys.length ≤ xs.length by omega)] at hv
      refine dr U 600 rfl trivial ?_
      refine cS rfl rfl rfl rfl (fun hq => ?_) (fun hq => ?_)
      · obtain rfl : cy = 1 := by omega
        refine dr U 600 rfl (by first | exact True.intro | (simp only [AllP, InR, List.nil_append, List.cons_append, and_true]; omega)) ?_
        refine ap U (v := (u64 1)) rfl rfl rfl rfl rfl rfl (fun _ => rfl) rfl (fun _ => rfl) rfl rfl rfl ho hB.size (by omega) (by decide) ?_
        intro a1 c1 w1 ho1 hg1
        refine dr U 600 rfl (by first | exact True.intro | (simp only [AllP, InR, List.nil_append, List.cons_append, and_true]; omega)) ?_
        refine ret Tryz.results115 rfl ⟨_, rfl, ?_⟩
        have e := hres1 zs hzl hz hv
        have e2 : (lim (p + q)).length = xs.length + 1 := by rw [← e]; simp [hz]
        refine ⟨a1, c1, by rw [e2]; rfl, ?_, hB.grown hg1 hB.size (fun g hg => (own_block ho g hg).1)⟩
        rw [e2, ← e]; simpa using ho1
      · obtain rfl : cy = 0 := by omega
        refine dr U 600 rfl (by first | exact True.intro | (simp only [AllP, InR, List.nil_append, List.cons_append, and_true]; omega)) ?_
        refine ret Tryz.results115 rfl ⟨_, rfl, ?_⟩
        have e := hres0 zs hzl hz (by simpa using hv)
        have e2 : (lim (p + q)).length = xs.length := by rw [← e]; simp [hz]
        refine ⟨ao, co, by rw [e2]; rfl, ?_, hB⟩
        rw [e2, ← e]; exact ho
end Go.Proofs.YtfdekppnilffeaaGreatDoor
end
section
set_option linter.unusedSimpArgs false
set_option linter.unusedVariables false
namespace Go.Proofs.YtfdekppnilffeaaGreatDoor
open Go Go.Proofs Go.RowKit

theorem set_u64 (cs : List Nat) (j x : Nat) : (cs.map u64).set j (u64 x) = (cs.set j x).map u64 := by rw [List.map_set]
theorem rep_u64 (k : Nat) : List.replicate k (Value.int .u64 0) = (List.replicate k 0).map u64 := by simp [u64]

theorem trim_ownN (n : Nat) (xs : List Nat) (hn : xs.length = n) (a : Option Addr) (c base : Nat) (w : World) (h : w.ownsRow base 142 1 (.slice a n c) n (xs.map u64)) (hx : Lm xs) (hl : n ≤ 1099511627776) :
    Calls Tryz.prog 134 #[.slice a n c] w (Ret fun v w' => v = .slice a (lim (val xs)).length c ∧ w = w' ∧ w.ownsRow base 142 1 (.slice a (lim (val xs)).length c) (lim (val xs)).length ((lim (val xs)).map u64)) := by
  subst hn; exact trim_own xs a c base w h hx hl


theorem sub_calls (p q : Nat) (hpq : q ≤ p) (a b : Option Addr) (c d : Nat) (w : World) (ha : Rd w a c (lim p)) (hb : Rd w b d (lim q)) (hpl : (lim p).length ≤ 1099511627776) :
    Calls Tryz.prog 116 #[.slice a (lim p).length c, .slice b (lim q).length d] w (Ret fun v w' => Own w w' v (lim (p - q))) := by
  have hxl := lim_Lm p
  have hyl := lim_Lm q
  have hvp := val_lim p
  have hvq := val_lim q
  have hll := lim_len_mono hpq
  have hres : ∀ zs bo, Lm zs → zs.length = (lim p).length → bo ≤ 1 → val zs + val (lim q) = val (lim p) + bo * pw (lim p).length → val zs = p - q := by
    intro zs bo h1 h2 h3 h4
    have := val_lt h1
    rw [h2] at this
    obtain rfl | rfl : bo = 0 ∨ bo = 1 := by omega
    · omega
    · omega
  generalize hxs : lim p = xs at *
  generalize hys : lim q = ys at *
  refine enter Tryz.func116 rfl Tryz.ntmps116 (Nat.le_of_ble_eq_true rfl) ?_
  refine dr U 600 rfl trivial ?_
  refine mkn U rfl rfl rfl rfl rfl rfl rfl xs.length rfl rfl (by omega) (by omega) w.heap.size (Nat.le_refl _) ?_
  intro a0 w0 ho0 hg0
  rw [rep_u64] at ho0
  refine dr U 600 rfl trivial ?_
  refine loopR (fun l w' m => ∃ i zs bo, l = [(13, .slice a xs.length c), (14, .int .i64 xs.length), (15, .int .i64 (i : Nat)), (1, .slice b ys.length d), (5, .slice a0 xs.length xs.length), (6, .int .u64 (bo : Nat))] ∧ i ≤ xs.length ∧ zs.length = i ∧ Lm zs ∧ bo ≤ 1 ∧
    val zs + val (ys.take i) = val (xs.take i) + bo * pw i ∧ w'.ownsRow w.heap.size 142 1 (.slice a0 xs.length xs.length) xs.length ((zs ++ List.replicate (xs.length - i) 0).map u64) ∧ Below w.heap.size w w' ∧ m = xs.length - i)
    ⟨0, [], 0, rfl, by omega, rfl, Lm.nil, by omega, by simp [val], ho0, (Below.refl _ _).grown hg0 (Nat.le_refl _) (fun k e => by cases e), rfl⟩ ⟨rfl, rfl, rfl, rfl, rfl, rfl, trivial⟩ ?_
  rintro l w' m ⟨i, zs, bo, rfl, hi, hz, hzl, hcy, hv, ho, hB, rfl⟩
  refine dr U 600 rfl trivial ?_
  refine cS rfl rfl rfl rfl (fun hq => ?_) (fun hq => ?_)
  · refine dr U 600 rfl (by first | exact True.intro | (simp only [AllP, InR, List.nil_append, List.cons_append, and_true]; omega)) ?_
    have hi' : i < xs.length := by omega
    have hx1 := hxl.getD i
    refine il U rfl rfl rfl rfl rfl rfl rfl (fun _ => rfl) rfl i (by omega) (by omega) (ha.below hB).1 (getU hi') ?_
    refine dr U 600 rfl (by first | exact True.intro | (simp only [AllP, InR, List.nil_append, List.cons_append, and_true]; omega)) ?_
    refine cS rfl rfl rfl rfl (fun hq => ?_) (fun hq => ?_)
    · refine dr U 600 rfl (by first | exact True.intro | (simp only [AllP, InR, List.nil_append, List.cons_append, and_true]; omega)) ?_
      have hj : i < ys.length := by omega
      have hy1 := hyl.getD i
      have hyt := val_take_succ ys i hj
      refine il U rfl rfl rfl rfl rfl rfl rfl (fun _ => rfl) rfl i (by omega) (by omega) (hb.below hB).1 (getU hj) ?_
      refine dr U 600 rfl (by first | exact True.intro | (simp only [AllP, InR, List.nil_append, List.cons_append, and_true]; omega)) ?_
      have hs := @sub_step zs xs ys i bo hi' hz hxl _ hy1 hcy hyt hv
      generalize hx2 : xs.getD i 0 = x at *
      generalize hy2 : ys.getD i 0 = y at *
      refine cS rfl rfl rfl rfl (fun hq => ?_) (fun hq => ?_)
      · refine dr U 600 rfl (by first | exact True.intro | (simp only [AllP, InR, List.nil_append, List.cons_append, and_true]; omega)) ?_
        generalize hZ : x + 1000000000 - (bo + y) = z
        refine is U (v := (u64 z)) rfl rfl rfl rfl rfl rfl rfl (fun _ => rfl) (fun _ => iv (by omega)) (fun _ => rfl) rfl rfl i rfl hi' ho ?_
        intro p0 w1 ho1 hg1 _
        refine dr U 600 rfl (by first | exact True.intro | (simp only [AllP, InR, List.nil_append, List.cons_append, and_true]; omega)) ?_
        refine rend _ _ ⟨i + 1, zs ++ [z], 1, rfl, by omega, by simp [hz], hzl.snoc (by omega), by omega, hs z 1 (by omega), ?_, hB.grown hg1 hB.size (fun g hg => (own_block ho g hg).1), rfl⟩ (by omega) ⟨rfl, rfl, iv (by omega), rfl, rfl, rfl, trivial⟩
        rw [set_u64, ← hz, set_snoc zs _ _ (by omega)] at ho1
        rw [hz] at ho1; simpa [Nat.sub_sub] using ho1
      · refine dr U 600 rfl (by first | exact True.intro | (simp only [AllP, InR, List.nil_append, List.cons_append, and_true]; omega)) ?_
        generalize hZ : x - (bo + y) = z
        refine is U (v := (u64 z)) rfl rfl rfl rfl rfl rfl rfl (fun _ => rfl) (fun _ => iv (by omega)) (fun _ => rfl) rfl rfl i rfl hi' ho ?_
        intro p0 w1 ho1 hg1 _
        refine dr U 600 rfl (by first | exact True.intro | (simp only [AllP, InR, List.nil_append, List.cons_append, and_true]; omega)) ?_
        refine rend _ _ ⟨i + 1, zs ++ [z], 0, rfl, by omega, by simp [hz], hzl.snoc (by omega), by omega, hs z 0 (by omega), ?_, hB.grown hg1 hB.size (fun g hg => (own_block ho g hg).1), rfl⟩ (by omega) ⟨rfl, rfl, iv (by omega), rfl, rfl, rfl, trivial⟩
        rw [set_u64, ← hz, set_snoc zs _ _ (by omega)] at ho1
        rw [hz] at ho1; simpa [Nat.sub_sub] using ho1
    · refine dr U 600 rfl (by first | exact True.intro | (simp only [AllP, InR, List.nil_append, List.cons_append, and_true]; omega)) ?_
      have hyt := val_take_beyond ys i (by omega)
      have hy1 : 0 < 1000000000 := by omega
      have hs := @sub_step zs xs ys i bo hi' hz hxl 0 hy1 hcy hyt hv
      generalize hx2 : xs.getD i 0 = x at *
      refine cS rfl rfl rfl rfl (fun hq => ?_) (fun hq => ?_)
      · refine dr U 600 rfl (by first | exact True.intro | (simp only [AllP, InR, List.nil_append, List.cons_append, and_true]; omega)) ?_
        generalize hZ : x + 1000000000 - (bo + 0) = z
        refine is U (v := (u64 z)) rfl rfl rfl rfl rfl rfl rfl (fun _ => rfl) (fun _ => iv (by omega)) (fun _ => rfl) rfl rfl i rfl hi' ho ?_
        intro p0 w1 ho1 hg1 _
        refine dr U 600 rfl (by first | exact True.intro | (simp only [AllP, InR, List.nil_append, List.cons_append, and_true]; omega)) ?_
        refine rend _ _ ⟨i + 1, zs ++ [z], 1, rfl, by omega, by simp [hz], hzl.snoc (by omega), by omega, hs z 1 (by omega), ?_, hB.grown hg1 hB.size (fun g hg => (own_block ho g hg).1), rfl⟩ (by omega) ⟨rfl, rfl, iv (by omega), rfl, rfl, rfl, trivial⟩
        rw [set_u64, ← hz, set_snoc zs _ _ (by omega)] at ho1
        rw [hz] at ho1; simpa [Nat.sub_sub] using ho1
      · refine dr U 600 rfl (by first | exact True.intro | (simp only [AllP, InR, List.nil_append, List.cons_append, and_true]; omega)) ?_
        generalize hZ : x - (bo + 0) = z
        refine is U (v := (u64 z)) rfl rfl rfl rfl rfl rfl rfl (fun _ => rfl) (fun _ => iv (by omega)) (fun _ => rfl) rfl rfl i rfl hi' ho ?_
        intro p0 w1 ho1 hg1 _
        refine dr U 600 rfl (by first | exact True.intro | (simp only [AllP, InR, List.nil_append, List.cons_append, and_true]; omega)) ?_
        refine rend _ _ ⟨i + 1, zs ++ [z], 0, rfl, by omega, by simp [hz], hzl.snoc (by omega), by omega, hs z 0 (by omega), ?_, hB.grown hg1 hB.size (fun g hg => (own_block ho g hg).1), rfl⟩ (by omega) ⟨rfl, rfl, iv (by omega), rfl, rfl, rfl, trivial⟩
        rw [set_u64, ← hz, set_snoc zs _ _ (by omega)] at ho1
        rw [hz] at ho1; simpa [Nat.sub_sub] using ho1
  · obtain rfl : i = xs.length := by omega
    refine dr U 600 rfl trivial ?_
    rw [take_all (Nat.le_refl _), take_all (show ys.length ≤ xs.length by omega)] at hv
    have e := hres zs bo hzl hz hcy hv
    refine call (f := 134) rfl rfl cb134 (trim_ownN xs.length zs hz a0 xs.length w.heap.size w' (by simpa using ho) hzl (by omega)) ?_
    rintro v w1 ⟨rfl, rfl, ho1⟩
    refine ⟨_, rfl, ?_⟩
    refine dr U 600 rfl trivial ?_
    refine ret Tryz.results116 rfl ⟨_, rfl, ?_⟩
    rw [e] at ho1
    exact ⟨_, _, by rw [e]; rfl, ho1, hB⟩

theorem mul_calls (p q : Nat) (a b : Option Addr) (c d : Nat) (w : World) (ha : Rd w a c (lim p)) (hb : Rd w b d (lim q)) (hpl : (lim p).length ≤ 549755813888) (hql : (lim q).length ≤ 549755813888) :
    Calls Tryz.prog 113 #[.slice a (lim p).length c, .slice b (lim q).length d] w (Ret fun v w' => Own w w' v (lim (p * q))) := by
  have hxl := lim_Lm p
  have hyl := lim_Lm q
  have hvp := val_lim p
  have hvq := val_lim q
  generalize hxs : lim p = xs at *
  generalize hys : lim q = ys at *
  refine enter Tryz.func113 rfl Tryz.ntmps113 (Nat.le_of_ble_eq_true rfl) ?_
  refine dr U 600 rfl (by first | exact True.intro | (simp only [AllP, InR, List.nil_append, List.cons_append, and_true]; omega)) ?_
  refine mkn U rfl rfl rfl rfl rfl rfl rfl (xs.length + ys.length) (by omega) (by omega) (by omega) (by omega) w.heap.size (Nat.le_refl _) ?_
  intro a0 w0 ho0 hg0
  rw [rep_u64] at ho0
  refine dr U 600 rfl trivial ?_
  refine loopR (fun l w' m => ∃ i zs, l = [(18, .slice a xs.length c), (19, .int .i64 xs.length), (20, .int .i64 (i : Nat)), (1, .slice b ys.length d), (5, .slice a0 (xs.length + ys.length) (xs.length + ys.length))] ∧ i ≤ xs.length ∧ zs.length = i + ys.length ∧ Lm zs ∧
    val zs = val (xs.take i) * val ys ∧ w'.ownsRow w.heap.size 142 1 (.slice a0 (xs.length + ys.length) (xs.length + ys.length)) (xs.length + ys.length) ((zs ++ List.replicate (xs.length - i) 0).map u64) ∧ Below w.heap.size w w' ∧ m = xs.length - i)
    ⟨0, List.replicate ys.length 0, rfl, by omega, by simp, Lm.replicate _, by simp [val_replicate, val], by simpa [Nat.add_comm] using ho0, (Below.refl _ _).grown hg0 (Nat.le_refl _) (fun k e => by cases e), rfl⟩ ⟨rfl, rfl, rfl, rfl, rfl, trivial⟩ ?_
  rintro l w' m ⟨i, zs, rfl, hi, hz, hzl, hv, ho, hB, rfl⟩
  refine dr U 600 rfl trivial ?_
  refine cS rfl rfl rfl rfl (fun hq => ?_) (fun hq => ?_)
  · refine dr U 600 rfl (by first | exact True.intro | (simp only [AllP, InR, List.nil_append, List.cons_append, and_true]; omega)) ?_
    have hi' : i < xs.length := by omega
    have hx1 := hxl.getD i
    refine il U rfl rfl rfl rfl rfl rfl rfl (fun _ => rfl) rfl i (by omega) (by omega) (ha.below hB).1 (getU hi') ?_
    have hrnd := @mul_round (xs := xs) (ys := ys) (zs := zs) (i := i) (r := xs.length - i)
    generalize hx2 : xs.getD i 0 = x at *
    refine dr U 600 rfl trivial ?_
    refine loopR (fun l w2 m => ∃ k cs cy, l = [(25, .slice b ys.length d), (26, .int .i64 ys.length), (27, .int .i64 (k : Nat)), (7, .int .u64 (x : Nat)), (6, .int .i64 (i : Nat)), (8, .int .u64 (cy : Nat)),
        (18, .slice a xs.length c), (19, .int .i64 xs.length), (20, .int .i64 (i : Nat)), (1, .slice b ys.length d), (5, .slice a0 (xs.length + ys.length) (xs.length + ys.length))] ∧ k ≤ ys.length ∧ cs.length = (zs ++ List.replicate (xs.length - i) 0).length ∧ Lm cs ∧ cy < 1000000000 ∧
      cs.drop (i + k) = (zs ++ List.replicate (xs.length - i) 0).drop (i + k) ∧ val (cs.take (i + k)) + cy * pw (i + k) = val ((zs ++ List.replicate (xs.length - i) 0).take (i + k)) + x * (pw i * val (ys.take k)) ∧
      w2.ownsRow w.heap.size 142 1 (.slice a0 (xs.length + ys.length) (xs.length + ys.length)) (xs.length + ys.length) (cs.map u64) ∧ Below w.heap.size w w2 ∧ m = ys.length - k)
      ⟨0, zs ++ List.replicate (xs.length - i) 0, 0, rfl, by omega, rfl, hzl.append (Lm.replicate _), by omega, rfl, by simp [val], ho, hB, rfl⟩ ⟨rfl, rfl, rfl, rfl, rfl, rfl, rfl, rfl, rfl, rfl, rfl, trivial⟩ ?_
    rintro l w2 m ⟨k, cs, cy, rfl, hk, hcl, hcs, hcy, hd, hcv, ho2, hB2, rfl⟩
    have hcl2 : cs.length = xs.length + ys.length := by rw [hcl]; simp; omega
    refine dr U 600 rfl trivial ?_
    refine cS rfl rfl rfl rfl (fun hq => ?_) (fun hq => ?_)
    · refine dr U 600 rfl (by first | exact True.intro | (simp only [AllP, InR, List.nil_append, List.cons_append, and_true]; omega)) ?_
      have hk' : k < ys.length := by omega
      have hy1 := hyl.getD k
      refine il U rfl rfl rfl rfl rfl rfl rfl (fun _ => rfl) rfl k (by omega) (by omega) (hb.below hB2).1 (getU hk') ?_
      refine dr U 600 rfl (by first | exact True.intro | (simp only [AllP, InR, List.nil_append, List.cons_append, and_true]; omega)) ?_
      have hj : i + k < cs.length := by omega
      have hc1 := hcs.getD (i + k)
      refine il U rfl rfl rfl rfl rfl rfl rfl (fun _ => rfl) rfl (i + k) (by omega) (by omega) (own_sl ho2) (getU hj) ?_
      have hs := mul_step (x := x) hk' hj hcl hd hcv
      generalize hy2 : ys.getD k 0 = y at *
      generalize hc2 : cs.getD (i + k) 0 = o at *
      have hxy : x * y ≤ 999999998000000001 := Nat.le_trans (Nat.mul_le_mul (show x ≤ 999999999 by omega) (show y ≤ 999999999 by omega)) (by decide)
      refine dr U 600 rfl ?_ ?_
      · simp only [AllP, InR, List.nil_append, List.cons_append, and_true, ← Int.natCast_mul]
        omega
      refine is U (v := (u64 ((o + x * y + cy) % 1000000000))) rfl rfl rfl rfl rfl rfl rfl (fun _ => rfl) (fun _ => iv (by rw [← Int.natCast_mul]; omega)) (fun _ => rfl) rfl rfl (i + k) (by omega) (by omega) ho2 ?_
      intro p0 w3 ho3 hg3 _
      refine dr U 600 rfl (by first | exact True.intro | (simp only [AllP, InR, List.nil_append, List.cons_append, and_true]; omega)) ?_
      rw [set_u64] at ho3
      refine rend _ _ ⟨k + 1, cs.set (i + k) ((o + x * y + cy) % 1000000000), (o + x * y + cy) / 1000000000, rfl, by omega, by simp [hcl], hcs.set _ (by omega), by omega, by rw [← Nat.add_assoc, set_drop_succ]; exact drop_succ_of_drop hd, hs, ho3, hB2.grown hg3 hB2.size (fun g hg => (own_block ho2 g hg).1), rfl⟩ (by omega)
        ⟨rfl, rfl, iv (by omega), rfl, rfl, iv (by rw [← Int.natCast_mul]; omega), rfl, rfl, rfl, rfl, rfl, trivial⟩
    · obtain rfl : k = ys.length := by omega
      refine dr U 600 rfl (by first | exact True.intro | (simp only [AllP, InR, List.nil_append, List.cons_append, and_true]; omega)) ?_
      refine is U (v := (u64 cy)) rfl rfl rfl rfl rfl rfl rfl (fun _ => rfl) (fun _ => iv (by omega)) (fun _ => rfl) rfl rfl (i + ys.length) (by omega) (by omega) ho2 ?_
      intro p0 w3 ho3 hg3 _
      refine dr U 600 rfl (by first | exact True.intro | (simp only [AllP, InR, List.nil_append, List.cons_append, and_true]; omega)) ?_
      obtain ⟨zs', h1, h2, h3⟩ := hrnd cs hi' hz (by omega) hcl hd hv hcv
      have h4 := hcs.set (i + ys.length) hcy
      rw [set_u64, h1] at ho3
      rw [h1] at h4
      refine rend _ _ ⟨i + 1, zs', rfl, by omega, h2, h4.left, h3, by rw [show xs.length - (i + 1) = xs.length - i - 1 by omega]; exact ho3, hB2.grown hg3 hB2.size (fun g hg => (own_block ho2 g hg).1), rfl⟩ (by omega) ⟨rfl, rfl, iv (by omega), rfl, rfl, trivial⟩
  · obtain rfl : i = xs.length := by omega
    refine dr U 600 rfl trivial ?_
    rw [take_all (Nat.le_refl _)] at hv
    refine call (f := 134) rfl rfl cb134 (trim_ownN (xs.length + ys.length) zs hz a0 (xs.length + ys.length) w.heap.size w' (by simpa using ho) hzl (by omega)) ?_
    rintro v w1 ⟨rfl, rfl, ho1⟩
    refine ⟨_, rfl, ?_⟩
    refine dr U 600 rfl trivial ?_
    refine ret Tryz.results113 rfl ⟨_, rfl, ?_⟩
    rw [hv, hvp, hvq] at ho1
    exact ⟨_, _, by rw [hv, hvp, hvq]; rfl, ho1, hB⟩

theorem of_calls (n : Nat) (hn : n < 18446744073709551616) (w : World) : Calls Tryz.prog 120 #[u64 n] w (Ret fun v w' => Own w w' v (lim n)) := by
  refine enter Tryz.func120 rfl Tryz.ntmps120 (Nat.le_of_ble_eq_true rfl) ?_
  refine dr U 600 rfl trivial ?_
  refine loopR (fun l w' m => ∃ i zs a c, l = [(0, .int .u64 (m : Nat)), (3, .slice a i c)] ∧ zs.length = i ∧ i ≤ 64 ∧ m * 2 ^ i ≤ n ∧ zs ++ lim m = lim n ∧ w'.ownsRow w.heap.size 142 1 (.slice a i c) i (zs.map u64) ∧ Below w.heap.size w w')
    (m0 := n) ⟨0, [], none, 0, rfl, rfl, by omega, by omega, rfl, ⟨rfl, .inl ⟨rfl, rfl⟩⟩, Below.refl _ _⟩ ⟨rfl, rfl, trivial⟩ ?_
  rintro l w' m ⟨i, zs, a, c, rfl, hz, hi, hm, hl, ho, hB⟩
  have hmn : m ≤ n := Nat.le_trans (Nat.le_mul_of_pos_right _ (Nat.pow_pos (by omega))) hm
  refine dr U 600 rfl (by first | exact True.intro | (simp only [AllP, InR, List.nil_append, List.cons_append, and_true]; omega)) ?_
  refine cS rfl rfl rfl rfl (fun hq => ?_) (fun hq => ?_)
  · have hi2 : i < 64 := by
      rcases Nat.lt_or_ge i 64 with h | h
      · exact h
      · have h1 : 2 ^ 64 ≤ 2 ^ i := Nat.pow_le_pow_right (by omega) h
        have h2 : 1 * 2 ^ i ≤ m * 2 ^ i := Nat.mul_le_mul_right _ (by omega)
        omega
    rw [lim_pos (by omega)] at hl
    refine dr U 600 rfl (by first | exact True.intro | (simp only [AllP, InR, List.nil_append, List.cons_append, and_true]; omega)) ?_
    refine ap U (v := (u64 (m % 1000000000))) (iv (by omega)) rfl rfl rfl rfl rfl (fun _ => rfl) rfl (fun _ => rfl) rfl rfl rfl ho hB.size (by omega) (by decide) ?_
    intro a1 c1 w1 ho1 hg1
    refine dr U 600 rfl (by first | exact True.intro | (simp only [AllP, InR, List.nil_append, List.cons_append, and_true]; omega)) ?_
    refine rend _ (m / 1000000000) ⟨i + 1, zs ++ [m % 1000000000], a1, c1, rfl, by simp [hz], by omega, ?_, by simpa using hl, by simpa using ho1, hB.grown hg1 hB.size (fun g hg => (own_block ho g hg).1)⟩ (by omega) ⟨iv (by omega), rfl, trivial⟩
    rw [Nat.pow_succ, ← Nat.mul_assoc, Nat.mul_right_comm]
    exact Nat.le_trans (Nat.mul_le_mul_right _ (by omega)) hm
  · obtain rfl : m = 0 := by omega
    rw [lim_zero, List.append_nil] at hl
    subst hl
    subst hz
    refine dr U 600 rfl trivial ?_
    refine ret Tryz.results120 rfl ⟨_, rfl, ?_⟩
    exact ⟨a, c, rfl, ho, hB⟩
end Go.Proofs.YtfdekppnilffeaaGreatDoor
end
