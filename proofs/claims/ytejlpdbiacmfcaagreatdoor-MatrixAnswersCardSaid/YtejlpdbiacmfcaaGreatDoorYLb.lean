/-
  Ranks: transposed matrices, normal equations; least squares.
  No conditions: each theorem names its own premises.
  Walks of matrix.times, linear.column, Transpose, Mul.
  Conditions: texts take fewer than 2^40 bytes, lists fewer than 2^40 elements; the library's table of powers of ten is laid.
  Walks of linear.Transpose and linear.Mul.
  Walks of frac.Of, frac.One, linear.identity, linear.Identity.
  Conditions: the library's table of powers of ten is laid.
  Walk of linear.Identity.
  Walk of the kit's Same on lists of numbers.
  Walk of linear.column.
  Conditions: lists of at most a million elements.
  Copies of rows: slices.Clone of a row.
  Walks of slices.Clone for a row of fractions and for a slice of rows.
  Walk of matrix.clone.
  Walk of matrix.with.
  Walk of the closure of matrix.reduce: whether a row has a number other than 0 at the column in its cell.
  Walk of slices.IndexFunc with the closure of matrix.reduce: the first row that has a number other than 0 at the column.
-/
import Derived.Test.YtejlpdbiacmfcaaGreatDoorYLa
import Derived.Test.YtejlpdbiacmfcaaGreatDoorYAf
import Derived.Laws.Cover3
set_option linter.unusedSimpArgs false
set_option linter.unusedVariables false
namespace Go.Proofs.YtejlpdbiacmfcaaGreatDoor
section
theorem nul_wide {m n : Nat} (h : m < n) (f : Mx) : ∃ k, k < n ∧ Dep m n f k := by
 apply Classical.byContradiction
 intro hno
 have hall : ∀ k, k < n → ¬ Dep m n f k := fun k hk hd => hno ⟨k, hk, hd⟩
 have hr : ∀ k, k ≤ n → (gj m f k).2 = k := by
  intro k
  induction k with
  | zero => intro _; rfl
  | succ k ih =>
   intro hk
   rw [gj_rank_succ, ih (by omega)]
   cases hp : piv m k (gj m f k).1 (gj m f k).2 with
   | none => exact absurd (dep_of_none (by omega) hp) (hall k (by omega))
   | some i => rw [ih (by omega)] at hp; rw [hp]
 have := (gj_le m f n).1
 rw [hr n (Nat.le_refl _)] at this
 omega

def trp (f : Mx) : Mx := fun i k => f k i

theorem factor (m n : Nat) (f : Mx) : ∃ (p : Nat → Nat) (R : Mx), (∀ t, t < (gj m f n).2 → p t < n) ∧
  (∀ y : Nat → Rat, (∀ i, i < m → sm (gj m f n).2 (fun t => f i (p t) * y t) = 0) → ∀ t, t < (gj m f n).2 → y t = 0) ∧
  ∀ i c, i < m → c < n → f i c = sm (gj m f n).2 (fun t => f i (p t) * R t c) := by
 obtain ⟨p, h1, h2, h3, h4, h5⟩ := gj_elim m f n
 have hle := gj_le m f n
 have spread : ∀ (g : Mx) (y : Nat → Rat) (a : Nat), sm n (fun k => g a k * sm (gj m f n).2 (fun t => if p t = k then y t else 0)) = sm (gj m f n).2 (fun t => g a (p t) * y t) := by
  intro g y a
  rw [sm_congr (g := fun k => sm (gj m f n).2 (fun t => if p t = k then g a k * y t else 0)) (fun k hk => by
   rw [← sm_mul]; apply sm_congr; intro i _; split <;> grind)]
  rw [sm_comm]
  apply sm_congr
  intro t ht
  rw [sm_single (j := p t) (h1 t ht) (fun k hk hne => if_neg (fun e => hne e.symm)), if_pos rfl]
 refine ⟨p, (gj m f n).1, h1, ?_, ?_⟩
 ·intro y hy t ht
  have hx : Nul m n f (fun k => sm (gj m f n).2 (fun t => if p t = k then y t else 0)) := fun i hi => by
   rw [spread]; exact hy i hi
  rw [← nul_gj m n f _ n] at hx
  have := hx t (by omega)
  rw [spread] at this
  rw [sm_single ht (fun t' ht' hne => by rw [h4 t' t ht' (by omega) (fun e => hne e.symm)]; grind), h3 t ht] at this
  grind
 ·intro i c hi hc
  have rows : ∀ (g : Mx) a, sm n (fun k => g a k * ((if k = c then 1 else 0) - sm (gj m f n).2 (fun t => if p t = k then (gj m f n).1 t c else 0))) = g a c - sm (gj m f n).2 (fun t => g a (p t) * (gj m f n).1 t c) := by
   intro g a
   rw [← spread g (fun t => (gj m f n).1 t c) a, sm_congr (g := fun k => (if k = c then g a k else 0) - g a k * sm (gj m f n).2 (fun t => if p t = k then (gj m f n).1 t c else 0)) (fun k hk => by split <;> grind),
    sm_sub, sm_single hc (fun k hk hne => if_neg hne), if_pos rfl]
  have hx : Nul m n f (fun k => (if k = c then 1 else 0) - sm (gj m f n).2 (fun t => if p t = k then (gj m f n).1 t c else 0)) := by
   rw [← nul_gj m n f _ n]
   intro a ha
   rw [rows]
   by_cases har : a < (gj m f n).2
   ·rw [sm_single har (fun t ht hne => by rw [h4 t a ht ha (fun e => hne e.symm)]; grind), h3 a har]; grind
   ·rw [h5 a c (by omega) ha hc, sm_zero' (fun t ht => by rw [h5 a (p t) (by omega) ha (h1 t ht)]; grind)]; grind
  have := hx i hi
  rw [rows] at this
  grind

theorem rank_trp_le (m n : Nat) (f : Mx) : (gj n (trp f) m).2 ≤ (gj m f n).2 := by
 obtain ⟨p, R, hp, _, hf⟩ := factor m n f
 obtain ⟨q, _, hq, hy, _⟩ := factor n m (trp f)
 apply Classical.byContradiction
 intro hlt
 have hlt : (gj m f n).2 < (gj n (trp f) m).2 := by omega
 obtain ⟨k, hk, x, hx, hne, _⟩ := nul_wide hlt (fun t j => f (q j) (p t))
 apply hne
 refine hy x (fun c hc => ?_) k hk
 show sm (gj n (trp f) m).2 (fun j => f (q j) c * x j) = 0
 rw [sm_congr (g := fun j => sm (gj m f n).2 (fun t => R t c * (f (q j) (p t) * x j))) (fun j hj => by
  rw [hf (q j) c (hq j hj) hc, ← sm_mulr]; apply sm_congr; intro t _; grind)]
 rw [sm_comm]
 exact sm_zero' fun t ht => by
  rw [sm_mul, hx t ht]; grind
theorem rank_trp (m n : Nat) (f : Mx) : (gj n (trp f) m).2 = (gj m f n).2 := by
 have h1 := rank_trp_le m n f
 have h2 := rank_trp_le n m (trp f)
 have e : trp (trp f) = f := rfl
 rw [e] at h2
 omega

def mmul (n : Nat) (f g : Mx) : Mx := fun i k => sm n (fun t => f i t * g t k)
def mapp (n : Nat) (f : Mx) (x : Nat → Rat) : Nat → Rat := fun i => sm n (fun t => f i t * x t)
def idn : Mx := fun i k => if i = k then 1 else 0
theorem app_mul (n k : Nat) (f g : Mx) (x : Nat → Rat) (i : Nat) : mapp k (mmul n f g) x i = mapp n f (mapp k g x) i := by
 unfold mapp mmul
 rw [sm_congr (g := fun t => sm n (fun s => f i s * (g s t * x t))) (fun t _ => by rw [← sm_mulr]; apply sm_congr; intro s _; grind), sm_comm]
 apply sm_congr
 intro s _
 rw [sm_mul]
theorem mul_assoc (n k : Nat) (f g h : Mx) (i j : Nat) : mmul k (mmul n f g) h i j = mmul n f (mmul k g h) i j := app_mul n k f g (fun t => h t j) i
theorem nul_normal (m n : Nat) (f : Mx) (x : Nat → Rat) : Nul n n (mmul m (trp f) f) x ↔ Nul m n f x := by
 constructor
 ·intro h
  have hsq : sm m (fun i => mapp n f x i * mapp n f x i) = 0 := by
   have e : sm m (fun i => mapp n f x i * mapp n f x i) = sm n (fun k => x k * mapp n (mmul m (trp f) f) x k) := by
    rw [sm_congr (f := fun k => x k * mapp n (mmul m (trp f) f) x k) (g := fun k => sm m (fun i => x k * (f i k * mapp n f x i))) (fun k _ => by
     rw [app_mul, sm_mul]; rfl)]
    rw [← sm_comm]
    apply sm_congr
    intro i _
    rw [sm_congr (g := fun k => f i k * x k * mapp n f x i) (fun k _ => by grind), sm_mulr]
    rfl
   rw [e]
   exact sm_zero' fun k hk => by
    have := h k hk
    have e : mapp n (mmul m (trp f) f) x k = 0 := this
    rw [e]; grind
  intro i hi
  have := sm_nonneg_zero (fun i _ => by
   have : (0:Rat) ≤ mapp n f x i * mapp n f x i := by
    rcases Rat.le_total (a := 0) (b := mapp n f x i) with h | h
    ·exact Rat.mul_nonneg h h
    ·have h' : (0:Rat) ≤ -(mapp n f x i) := by grind
     have := Rat.mul_nonneg h' h'
     grind
   exact this) hsq i hi
  have h2 : mapp n f x i * mapp n f x i = 0 := this
  have h3 : mapp n f x i = 0 := by
   rcases Rat.mul_eq_zero.1 h2 with h | h <;> exact h
  exact h3
 ·intro h k hk
  have e : mapp n (mmul m (trp f) f) x k = 0 := by
   rw [app_mul]
   exact sm_zero' fun i hi => by
    have : mapp n f x i = 0 := h i hi
    rw [this]; grind
  exact e
theorem rank_normal (m n : Nat) (f : Mx) : (gj n (mmul m (trp f) f) n).2 = (gj m f n).2 :=
 rank_nul (fun x => nul_normal m n f x) n (Nat.le_refl _)
end
section
set_option maxHeartbeats 1000000
open Go Go.Proofs Go.RowKit Go.Lib
end
section
set_option maxHeartbeats 1000000
open Go Go.Proofs Go.RowKit Go.Lib

theorem MtxR.tup {m n : Nat} {f : Nat → Nat → Rat} {v : Value} {w : World} (h : MtxR m n f v w) : ∃ a k c e, v = .tuple ⟨[.slice a k c, .int .i64 e]⟩ := by
 rcases h with ⟨_, rfl⟩ | ⟨_, a, c, rfl, _⟩ <;> exact ⟨_, _, _, _, rfl⟩
def TraR (xss : List (List (List UInt8))) (v : Value) (w : World) : Prop :=
 (∃ e, e ≠ 0 ∧ XErr xss e ∧ v = .tuple ⟨[.slice none 0 0, .int .i64 e]⟩) ∨ (XErr xss 0 ∧ MtxR (rw' xss 0).length xss.length (fun j i => mval xss i j) v w)
def MulR (xss yss : List (List (List UInt8))) (v : Value) (w : World) : Prop :=
 (∃ e, e ≠ 0 ∧ ((XErr xss e) ∨ (XErr xss 0 ∧ XErr yss e)) ∧ v = .tuple ⟨[.slice none 0 0, .int .i64 e]⟩) ∨
 (XErr xss 0 ∧ XErr yss 0 ∧ (rw' xss 0).length ≠ yss.length ∧ v = .tuple ⟨[.slice none 0 0, .int .i64 10]⟩) ∨
 (XErr xss 0 ∧ XErr yss 0 ∧ (rw' xss 0).length = yss.length ∧ MtxR xss.length (rw' yss 0).length (fun i k => sm yss.length (fun t => mval yss t k * mval xss i t)) v w)
end
section
set_option maxHeartbeats 1000000
open Go Go.Proofs Go.RowKit Go.Lib

theorem frof_calls (n : Nat) (a : Option Addr) (c : Nat) (w : World) (ha : Rd w a c (lim n)) : Calls Tryz.prog 51 #[.slice a (lim n).length c] w (Ret fun v w' => FV w' v false n 1 ∧ Below w.heap.size w w') := by
 refine enter Tryz.func51 rfl Tryz.ntmps51 (Nat.le_of_ble_eq_true rfl) ?_
 refine dT rfl ?_
 refine al U rfl rfl rfl rfl ?_
 intro b w0 hb0 hs0 hk0 hg0
 have hB0 : Below w.heap.size w w0 := (Below.refl _ _).grown hg0 (Nat.le_refl _) (fun k e => by cases e)
 refine dT rfl ?_
 refine call (f := 52) rfl rfl cb52 (of_calls 1 (by omega) w0) ?_
 rintro v w1 ⟨a1, c1, rfl, ho, hB⟩
 refine ⟨_, rfl, ?_⟩
 have hk1 := hk0.below hB (by omega)
 have hB1 := bl_tr hB0 hB hB0.size
 refine dT rfl ?_
 refine st U rfl rfl rfl rfl rfl rfl rfl rfl rfl rfl (hk1) ?_
 intro w2 hkW hgW hsW
 refine dT rfl ?_
 have hBW := hB1.grown hgW hB1.size (fun k e => by cases e; omega)
 refine retS Tryz.results51 (vs := [_]) ⟨⟨_, rfl, run_load_agg ag_frac hkW rfl⟩, trivial⟩ ⟨_, rfl, ?_, hBW⟩
 exact ⟨a, c, a1, c1, rfl, (ha.below hB1).past hk1 ni0 hgW, (own_rd ho).past hk1 ni0 hgW⟩
set_option maxRecDepth 100000
end
section
set_option maxHeartbeats 1000000
open Go Go.Proofs Go.RowKit Go.Lib

theorem small_one : Small 1 1 := ⟨by rw [show (1 : Rat).num.natAbs = 1 from rfl, nDigits_small (by omega)]; omega, by rw [show (1 : Rat).den = 1 from rfl, nDigits_small (by omega)]; omega⟩
theorem idn_small (i k : Nat) : Small 1 (idn i k) := by
 unfold idn
 split
 ·exact small_one
 ·exact small_zero
def IdR (n : Int) (v : Value) (w : World) : Prop :=
 ((n < 1 ∨ 64 < n) ∧ v = .slice none 0 0) ∨ (1 ≤ n ∧ n ≤ 64 ∧ ∃ a c, v = .slice a n.toNat c ∧ SM w a (mtx n.toNat n.toNat idn))
end
section
set_option maxHeartbeats 1000000
open Go Go.Proofs Go.RowKit Go.Lib

theorem nsame_calls (xs ys : List (List UInt8)) (a b : Option Addr) (c d : Nat) (w : World) (hx : Sl w a (strs xs)) (hy : Sl w b (strs ys)) (hxl : xs.length ≤ 1099511627776) (hyl : ys.length ≤ 1099511627776) :
  Calls Tryz.prog 16 #[.slice a xs.length c, .slice b ys.length d] w (Ret fun v w' => v = .bool (decide (xs = ys)) ∧ Below w.heap.size w w') := by
 refine enter Tryz.func16 rfl Tryz.ntmps16 (Nat.le_of_ble_eq_true rfl) ?_
 refine dT rfl ?_
 refine cS rfl rfl rfl rfl (fun hq => ?_) (fun hq => ?_)
 ·refine dT rfl ?_
  exact ret Tryz.results16 rfl ⟨_, rfl, by rw [decide_eq_false (fun h => hq (by rw [h]))]; rfl, Below.refl _ _⟩
 ·have hl : xs.length = ys.length := by omega
  refine dT rfl ?_
  refine loopR (fun f w' m => ∃ i : Nat, f = [(0, .slice a xs.length c), (1, .slice b ys.length d), (5, .int .i64 (i : Nat))] ∧ i ≤ xs.length ∧ xs.take i = ys.take i ∧ w'.heap = w.heap ∧ Below w.heap.size w w' ∧ m = xs.length - i)
   ⟨0, rfl, by omega, rfl, rfl, Below.refl _ _, rfl⟩ ⟨rfl, rfl, rfl, trivial⟩ ?_
  rintro f w' m ⟨i, rfl, hi, he, hh, hB, rfl⟩
  refine dT rfl ?_
  refine cS rfl rfl rfl rfl (fun hq => ?_) (fun hq => ?_)
  ·have hix : i < xs.length := by omega
   have hiy : i < ys.length := by omega
   obtain ⟨g1, o1, rfl, hc1⟩ := hx i _ (getS hix)
   obtain ⟨g2, o2, rfl, hc2⟩ := hy i _ (getS hiy)
   have hgx := slAt (heap_sl hh hx) i (i := (i : Int)) (by omega) (getS hix)
   have hgy := slAt (heap_sl hh hy) i (i := (i : Int)) (by omega) (getS hiy)
   have hgx' : xs.getD i [] = xs[i] := by simp [List.getD, hix]
   have hgy' : ys.getD i [] = ys[i] := by simp [List.getD, hiy]
   refine dT rfl ?_
   refine dwn 8 (fun W => W.heap = w'.heap) hmo ?_
   intro w2 hh2 hg2
   refine dqS [0,1,2,3,4,5,6,7] [(3, .string ⟨⟨xs.getD i []⟩⟩), (7, .string ⟨⟨ys.getD i []⟩⟩)] rfl rfl hh2 ?_
   refine d1 rfl rfl (fun _ => hh2) ?_
   have hB2 : Below w.heap.size w w2 := hB.grown hg2 hB.size (fun k e => by cases e)
   refine cS rfl rfl rfl rfl (fun hq => ?_) (fun hq => ?_)
   ·refine d2 ?_; refine dend rfl (fun h => by cases h) ?_
    refine dT rfl ?_
    refine ret Tryz.results16 rfl ⟨_, rfl, ?_, hB2⟩
    rw [decide_eq_false (fun h => hq (by rw [h]))]; rfl
   ·refine d2 ?_; refine dend rfl (fun h => by cases h) ?_
    refine dS rfl ?_
    refine rend _ _ ⟨i + 1, rfl, by omega, ?_, hh2.trans hh, hB2, rfl⟩ (by omega) ⟨rfl, rfl, iv (by omega), trivial⟩
    have e := Classical.not_not.1 hq
    rw [hgx', hgy'] at e
    rw [List.take_succ_eq_append_getElem hix, List.take_succ_eq_append_getElem hiy, he, e]
  ·obtain rfl : i = xs.length := by omega
   rw [List.take_length, hl, List.take_length] at he
   refine dT rfl ?_
   refine ret Tryz.results16 rfl ⟨_, rfl, ?_, hB⟩
   rw [decide_eq_true he]; rfl
end
section
set_option maxHeartbeats 1000000
open Go Go.Proofs Go.RowKit Go.Lib

theorem lcolumn_calls (n : Nat) (f : Nat → Rat) (hn : n ≤ 1000000) (a : Option Addr) (c : Nat) (w : World) (hf : VecF w a n f) :
  Calls Tryz.prog 90 #[.slice a n c] w (Ret fun v w' => (∃ a' c', v = .slice a' n c' ∧ MatF w' a' n 1 (fun i _ => f i)) ∧ Below w.heap.size w w') := by
 obtain ⟨cf, hEf, hSf, hTf⟩ := hf
 have hAf := fun g hg => (hTf g hg).lt
 refine enter Tryz.func90 rfl Tryz.ntmps90 (Nat.le_of_ble_eq_true rfl) ?_
 refine dT rfl ?_
 refine loopR (fun fr w' mm => ∃ (i : Nat) (a2 : Option Addr) (c2 : Nat) (A2 : Nat → Option Addr) (C2 : Nat → Nat), fr = [(3, .slice a2 i c2), (6, .slice a n c), (7, .int .i64 (n : Nat)), (8, .int .i64 (i : Nat))] ∧ i ≤ n ∧
   w'.ownsRow w.heap.size 105 1 (.slice a2 i c2) i (rws i 1 A2 C2) ∧ Rws w' i 1 A2 C2 (fun i _ => f i) ∧ Below w.heap.size w w' ∧ mm = n - i)
  ⟨0, none, 0, fun _ => none, fun _ => 0, rfl, by omega, ⟨rfl, .inl ⟨rfl, rfl⟩⟩, Rws.none _ _ _ _ _, Below.refl _ _, rfl⟩ ⟨rfl, rfl, rfl, rfl, trivial⟩ ?_
 rintro fr w1 mm ⟨i, a2, c2, A2, C2, rfl, hi, ho, hR, hB, rfl⟩
 refine dT rfl ?_
 refine cS rfl rfl rfl rfl (fun hq => ?_) (fun hq => ?_)
 ·have hin : i < n := by omega
  refine dT rfl ?_
  refine ig U rfl rfl rfl rfl ag_frac rfl rfl (fun _ => rfl) rfl i rfl hin (hSf.below hB hAf) (fun j v hv => el_get hv) (el_length (by rw [hEf.1]; omega)) (by decide) ?_
  have hfe := (hEf.2 i hin).stay hB
  obtain ⟨u1, u2, u3, u4, u5, u6, u7, hu⟩ := hfe.shape
  have hbz := hB.size
  refine al U rfl rfl rfl rfl ?_
  intro b6 w2 hb6 hs2 hk6 hg2
  have hB2 := hB.grown hg2 hB.size (fun k e => by cases e)
  have ho2 := own_keep ho hg2 (by intro g e h; cases h)
  have hb6a : ∀ g, ab a2 = some g → g < b6 := fun g e => by have := (own_block ho g e).2; omega
  simp only [Value.agg.injEq, Array.mk.injEq] at hu
  rw [hu] at hfe ⊢
  refine dT rfl ?_
  refine st U rfl rfl rfl rfl rfl rfl rfl rfl rfl rfl (hk6) ?_
  intro w3 hk6 hg3 hs3
  have hB3 := hB2.grown hg3 hB2.size (fun k e => by cases e; omega)
  have ho3 := own_keep ho2 hg3 (by intro g e h; cases h; have := hb6a _ e; omega)
  have hB13 : Below w1.heap.size w1 w3 := ((Below.refl _ _).grown hg2 (Nat.le_refl _) (fun k e => by cases e)).grown hg3 (by omega) (fun k e => by cases e; omega)
  refine dT rfl ?_
  refine lg rfl ag_frac rfl rfl hk6 rfl ?_
  refine bsS U [[.bool u1, .slice u2 u3 u4, .slice u5 u6 u7]] rfl rfl rfl rfl rfl rfl (by decide) (by decide) (by intro cs h; simp at h; subst h; rfl) ?_
  intro w4 hk8 hs4 hg4
  have hB4 := hB3.grown hg4 hB3.size (fun k e => by cases e)
  have ho4 := own_keep ho3 hg4 (by intro g e h; cases h)
  have hB34 : Below w3.heap.size w3 w4 := (Below.refl _ _).grown hg4 (Nat.le_refl _) (fun k e => by cases e)
  have hB14 := bl_tr hB13 hB34 hB13.size
  have hfe4 := hfe.stay hB14
  have hv4 : VecF w4 (some ⟨w3.heap.size, 0, none⟩) 1 (fun _ => f i) :=
   ⟨[.bool u1, .slice u2 u3 u4, .slice u5 u6 u7], ⟨rfl, fun k hk => (by
    have hk0 : k = 0 := by omega
    subst hk0
    exact hfe4)⟩, hk8.sl 0, fun g hg => by cases hg; exact hk8.tg⟩
  refine ap U (v := (.slice (some ⟨w3.heap.size, 0, none⟩) 1 1)) rfl rfl rfl rfl rfl rfl (fun _ => rfl) rfl (fun _ => rfl) rfl rfl rfl ho4 hB4.size (by omega) (by decide) ?_
  intro a5 c5 w5 ho5 hg5
  have hB5 := hB4.grown hg5 hB4.size (fun g e => (own_block ho4 g e).1)
  rw [rws_snoc] at ho5
  refine dS rfl ?_
  exact rend _ _ ⟨i + 1, a5, c5, _, _, rfl, by omega, ho5, (((hR.stay hB14).push hg5 (own_tag ho4)).snoc (VecF.push hv4 hg5 (own_tag ho4)) (Nat.le_refl _)), hB5, rfl⟩ (by omega) ⟨rfl, rfl, rfl, iv (by omega), trivial⟩
 ·obtain rfl : i = n := by omega
  refine dT rfl ?_
  exact ret Tryz.results90 rfl ⟨_, rfl, ⟨a2, c2, rfl, A2, C2, own_sl ho, hR, own_tag ho⟩, hB⟩
end
section
set_option maxHeartbeats 1000000
open Go Go.Proofs Go.RowKit Go.Lib

theorem Els.one {w : World} {cs : List Value} {n : Nat} {f : Nat → Rat} (h : Els w cs n f) : ∀ u ∈ cs, u.oneCell' = true := by
 intro u hu
 obtain ⟨q, hq, rfl⟩ := List.getElem_of_mem hu
 have hl := h.1
 have hi : q / 3 < n := by omega
 obtain ⟨m, a1, n1, c1, a2, n2, c2, e⟩ := (h.2 (q / 3) hi).shape
 simp only [Value.agg.injEq, Array.mk.injEq] at e
 have h1 : (el cs (q / 3))[q % 3]? = some cs[q] := by
  unfold el
  rw [List.getElem?_take, if_pos (by omega), List.getElem?_drop, show q / 3 * 3 + q % 3 = q by omega, List.getElem?_eq_getElem hq]
 rw [e] at h1
 have hm := List.mem_of_getElem? h1
 simp at hm
 rcases hm with h | h | h <;> rw [h] <;> rfl

section
variable {P : Program} (U : Tys P) {ro : Option Nat} {n : Nat} {ds : List Deferred} {Q : PT} {l l' : Fr} {w w' : World} {arr : Array Oper} {r : List Oper} {k : List It}
theorem eqNil {d : Nat} {t t2 ty e : TypeId} {x y : Operand} {ps : String} {af : Array Edge} {g : Option (Nat × Bool)} {a : Option Addr} {m c : Nat} (hx : ev l x = some (.slice a m c)) (hy : ev l y = some (.slice none 0 0)) (hu : U.tb.u t = some (.slice e)) (hg : gd arr l g = some true) (hd : Nat.blt d n = true)
  (t' : T P ro n ds Q ((d, .bool a.isNone) :: l) w (.ops arr r) k) : T P ro n ds Q l w (.ops arr (⟨some d, .binOp .eql t x y t2, ty, ps, af, g⟩ :: r)) k :=
 op1 (w' := w) (v := .bool a.isNone) (by intro c h; cases h) hg (put1_some hd) (fun act hf => by
  have h1 := run_equalIn_slice_nil (P := P) w 9999 t e a m c (U.hu _ _ hu)
  have h2 : (binOp .eql t (.slice a m c) (.slice none 0 0)).run P w = .ok (.bool a.isNone) w := by
   show (do pure (Value.bool (← Op.equalIn (9999 + 1) t (.slice a m c) (.slice none 0 0))) : Sem Value).run P w = _
   simp only [Sem.run_bind, h1, Result.andThen_ok, Sem.run_pure]
  have h3 : eqGuard .eql t x y (.slice a m c) (.slice none 0 0) = pure () := by cases x <;> cases y <;> rfl
  simp only [execOp, hf.ev hx, hf.ev hy]
  simp [h2, h3]) t'
end
end
section
set_option maxHeartbeats 1000000
open Go Go.Proofs Go.RowKit Go.Lib

theorem rclone_calls (n : Nat) (f : Nat → Rat) (hn : 0 < n) (hn' : n ≤ 1000000) (a : Option Addr) (c : Nat) (w : World) (hf : VecF w a n f) :
  Calls Tryz.prog 178 #[.slice a n c] w (Ret fun v w' => (∃ a' c' cs, v = .slice a' n c' ∧ w'.ownsRow w.heap.size 76 3 (.slice a' n c') n cs ∧ Els w' cs n f) ∧ Below w.heap.size w w') := by
 obtain ⟨cf, hEf, hSf, hTf⟩ := hf
 obtain ⟨g, o, rfl, _⟩ := hSf.at (j := 0) (by rw [hEf.1]; omega)
 refine enter Tryz.func178 rfl Tryz.ntmps178 (Nat.le_of_ble_eq_true rfl) ?_
 refine dT rfl ?_
 refine eqNil U rfl rfl rfl rfl rfl ?_
 refine dT rfl ?_
 refine bs0 U rfl rfl rfl rfl ?_
 intro w1 ho1 hs1 hg1
 have hB1 : Below w.heap.size w w1 := (Below.refl _ _).grown hg1 (Nat.le_refl _) (fun k e => by cases e)
 refine dT rfl ?_
 refine aw U rfl rfl rfl rfl rfl rfl rfl rfl rfl ho1 (hSf.below hB1 (fun g hg => (hTf g hg).lt)) hEf.1 hEf.one hB1.size (by omega) rfl ?_
 intro a2 c2 w2 ho2 hg2
 rw [Nat.zero_add, List.nil_append] at ho2
 have hB2 := hB1.grown hg2 hB1.size (fun g e => (own_block ho1 g e).1)
 refine dT rfl ?_
 have hE2 := (hEf.stay hB1).push hg2 (own_tag ho1)
 simp only [Nat.zero_add]
 exact ret Tryz.results178 rfl ⟨_, rfl, ⟨a2, c2, cf, rfl, ho2, hE2⟩, hB2⟩

theorem rws_one (m n : Nat) (A : Nat → Option Addr) (C : Nat → Nat) : ∀ u ∈ rws m n A C, u.oneCell' = true := by
 intro u hu
 unfold rws at hu
 obtain ⟨i, _, rfl⟩ := List.mem_map.1 hu
 rfl
theorem mclone_calls (m n : Nat) (A : Nat → Option Addr) (C : Nat → Nat) (hm : 0 < m) (hm' : m ≤ 1000000) (a : Option Addr) (c : Nat) (w : World) (hs : Sl w a (rws m n A C)) (ha : ∀ g, ab a = some g → g < w.heap.size) :
  Calls Tryz.prog 177 #[.slice a m c] w (Ret fun v w' => (∃ a' c', v = .slice a' m c' ∧ w'.ownsRow w.heap.size 105 1 (.slice a' m c') m (rws m n A C)) ∧ Below w.heap.size w w') := by
 obtain ⟨g, o, rfl, _⟩ := hs.at (j := 0) (by rw [rws_length]; omega)
 refine enter Tryz.func177 rfl Tryz.ntmps177 (Nat.le_of_ble_eq_true rfl) ?_
 refine dT rfl ?_
 refine eqNil U rfl rfl rfl rfl rfl ?_
 refine dT rfl ?_
 refine bs0 U rfl rfl rfl rfl ?_
 intro w1 ho1 hs1 hg1
 have hB1 : Below w.heap.size w w1 := (Below.refl _ _).grown hg1 (Nat.le_refl _) (fun k e => by cases e)
 refine dT rfl ?_
 refine aw U rfl rfl rfl rfl rfl rfl rfl rfl rfl ho1 (hs.below hB1 ha) (by rw [rws_length, Nat.mul_one]) (rws_one _ _ _ _) hB1.size (by omega) rfl ?_
 intro a2 c2 w2 ho2 hg2
 rw [Nat.zero_add, List.nil_append] at ho2
 have hB2 := hB1.grown hg2 hB1.size (fun g e => (own_block ho1 g e).1)
 refine dT rfl ?_
 simp only [Nat.zero_add]
 exact ret Tryz.results177 rfl ⟨_, rfl, ⟨a2, c2, rfl, ho2⟩, hB2⟩
end
section
set_option maxHeartbeats 1000000
open Go Go.Proofs Go.RowKit Go.Lib

theorem upd_const (n i : Nat) : upd (fun _ => n) i n = fun _ => n := by
 funext j
 unfold upd; split <;> rfl
theorem rws_set {m n i : Nat} (h : i < m) (A : Nat → Option Addr) (C : Nat → Nat) (a : Option Addr) (c : Nat) : (rws m n A C).set i (.slice a n c) = rws m n (upd A i a) (upd C i c) := by
 rw [rws_vws, vws_set h, upd_const, ← rws_vws]
theorem lclone_calls (m n : Nat) (f : Nat → Nat → Rat) (hm : 0 < m) (hn : 0 < n) (hm' : m ≤ 1000000) (hn' : n ≤ 1000000) (a : Option Addr) (c : Nat) (w : World) (hf : MatF w a m n f) :
  Calls Tryz.prog 148 #[.slice a m c] w (Ret fun v w' => (∃ go c' A C, v = .slice (some ⟨go, 0, none⟩) m c' ∧ w'.ownsRow w.heap.size 105 1 (.slice (some ⟨go, 0, none⟩) m c') m (rws m n A C) ∧ Own2 w' w.heap.size m A (fun _ => n) C f) ∧ Below w.heap.size w w') := by
 obtain ⟨A0, C0, hSl, hV, hTb⟩ := hf
 refine enter Tryz.func148 rfl Tryz.ntmps148 (Nat.le_of_ble_eq_true rfl) ?_
 refine dT rfl ?_
 refine call (f := 177) rfl rfl cb177 (mclone_calls m n A0 C0 hm hm' a c w hSl (fun g hg => (hTb g hg).lt)) ?_
 rintro v w0 ⟨⟨ao, co, rfl, ho0⟩, hB0⟩
 obtain ⟨go, rfl⟩ : ∃ go, ao = some ⟨go, 0, none⟩ := by
  rcases ho0.2 with ⟨_, h⟩ | ⟨g, cap, cur, h, _⟩
  ·omega
  ·cases h; exact ⟨g, rfl⟩
 refine ⟨_, rfl, ?_⟩
 refine dT rfl ?_
 refine loopR (fun fr w' mm => ∃ (i : Nat) (A : Nat → Option Addr) (C : Nat → Nat), fr = [(3, .slice (some ⟨go, 0, none⟩) m co), (8, .int .i64 (m : Nat)), (9, .int .i64 (i : Nat))] ∧ i ≤ m ∧
   w'.ownsRow w.heap.size 105 1 (.slice (some ⟨go, 0, none⟩) m co) m (rws m n A C) ∧ Own2 w' w.heap.size i A (fun _ => n) C f ∧ (∀ j, i ≤ j → A j = A0 j) ∧ Below w.heap.size w w' ∧ mm = m - i)
  ⟨0, A0, C0, rfl, by omega, ho0, ⟨fun j hj => absurd hj (by omega), fun j j' hj => absurd hj (by omega)⟩, fun _ _ => rfl, hB0, rfl⟩ ⟨rfl, rfl, rfl, trivial⟩ ?_
 rintro fr w1 mm ⟨i, A, C, rfl, hi, ho, hO, hA, hB, rfl⟩
 refine dT rfl ?_
 refine cS rfl rfl rfl rfl (fun hq => ?_) (fun hq => ?_)
 ·have him : i < m := by omega
  refine dT rfl ?_
  refine il U rfl rfl rfl rfl rfl rfl rfl (fun _ => rfl) rfl i rfl him (own_sl ho) (rws_get him) ?_
  have hvi : VecF w1 (A i) n (f i) := by rw [hA i (Nat.le_refl _)]; exact (hV i him).1.stay hB
  refine call (f := 178) rfl rfl cb178 (rclone_calls n (f i) hn hn' (A i) (C i) w1 hvi) ?_
  rintro v w2 ⟨⟨a2, c2, cs, rfl, hr2, hE2⟩, hB2⟩
  have hB2' := bl_tr hB hB2 hB.size
  have ho2 := own_bw ho hB2
  have hO2 := hO.below hB2
  have hlt : ∀ j, j < i → ∀ g, ab (A j) = some g → g < w1.heap.size := fun j hj g hg => by
   obtain ⟨cs, h1, _⟩ := hO.1 j hj
   exact (own_block h1 g hg).2
  have hO3 := hO2.snoc hr2 hE2 hB.size hlt
  refine ⟨_, rfl, ?_⟩
  refine ia U rfl rfl rfl rfl rfl rfl i rfl him ?_
  refine so U (v := (.slice a2 n c2)) rfl rfl rfl rfl rfl rfl rfl i (by simp [add_plain]) him ho2 ?_
  intro w3 ho3 hg3 hs3
  have hB3 := hB2'.grown hg3 hB2'.size (fun g e => by cases e; exact (own_block ho2 go rfl).1)
  have hO4 := hO3.keep (t := 105) hg3 (fun g e => by cases e; exact own_tag ho2 go rfl) rfl rfl
  rw [rws_set him] at ho3
  refine dS rfl ?_
  exact rend _ _ ⟨i + 1, _, _, rfl, by omega, ho3, hO4, fun j hj => by rw [upd_ne _ _ (by omega)]; exact hA j (by omega), hB3, rfl⟩ (by omega) ⟨rfl, rfl, iv (by omega), trivial⟩
 ·obtain rfl : i = m := by omega
  refine dT rfl ?_
  exact ret Tryz.results148 rfl ⟨_, rfl, ⟨go, co, A, C, rfl, ho, hO⟩, hB⟩
end
section
set_option maxHeartbeats 1000000
open Go Go.Proofs Go.RowKit Go.Lib

theorem Own2.growp {w w' : World} {base n k : Nat} {A : Nat → Option Addr} {L C : Nat → Nat} {f : Nat → Nat → Rat} {a' : Option Addr} {c' : Nat} {cs' : List Value} {q : Nat} (h : Own2 w base n A L C f) (hk : k < n) (hg : w.grownBy w' (ab (A k)))
  (ho : w'.ownsRow base 76 3 (.slice a' (q) c') (q) cs') (he : Els w' cs' (q) (f k)) (hp : ab a' = ab (A k) ∨ ab a' = some w.heap.size) : Own2 w' base n (upd A k a') (upd L k (q)) (upd C k c') f := by
 obtain ⟨csk, hok, hek⟩ := h.1 k hk
 have htag := own_tag hok
 have hlt : ∀ j, j < n → ∀ g, ab (A j) = some g → g < w.heap.size := fun j hj g hga => by
  obtain ⟨cs, h1, _⟩ := h.1 j hj
  exact (own_block h1 g hga).2
 refine ⟨fun j hj => ?_, fun j j' hj hj' hne g hga hga' => ?_⟩
 ·by_cases hjk : j = k
  ·subst hjk; rw [upd_same, upd_same, upd_same]; exact ⟨cs', ho, he⟩
  ·rw [upd_ne _ _ hjk, upd_ne _ _ hjk, upd_ne _ _ hjk]
   obtain ⟨cs, h1, h2⟩ := h.1 j hj
   exact ⟨cs, own_keep h1 hg (fun g hga e => h.2 j k hj hk hjk g hga e), h2.push hg htag⟩
 ·by_cases hjk : j = k
  ·subst hjk
   rw [upd_same] at hga
   rw [upd_ne _ _ (fun e => hne e.symm)] at hga'
   rcases hp with hp | hp
   ·exact h.2 j j' hj hj' hne g (hp ▸ hga) hga'
   ·have := hlt j' hj' g hga'; rw [hga] at hp; cases hp; omega
  ·rw [upd_ne _ _ hjk] at hga
   by_cases hjk' : j' = k
   ·subst hjk'
    rw [upd_same] at hga'
    rcases hp with hp | hp
    ·exact h.2 j j' hj hj' hne g hga (hp ▸ hga')
    ·have := hlt j hj g hga; rw [hga'] at hp; cases hp; omega
   ·rw [upd_ne _ _ hjk'] at hga'
    exact h.2 j j' hj hj' hne g hga hga'

theorem Els.congr {w : World} {cs : List Value} {n : Nat} {f g : Nat → Rat} (h : Els w cs n f) (he : ∀ i, i < n → f i = g i) : Els w cs n g := ⟨h.1, fun i hi => by rw [← he i hi]; exact h.2 i hi⟩
theorem el_app2 {cs ds : List Value} {n i : Nat} (h : cs.length = n * 3) (hi : n ≤ i) : el (cs ++ ds) i = el ds (i - n) := by
 unfold el
 rw [List.drop_append, List.drop_of_length_le (by omega), List.nil_append, h, ← Nat.sub_mul]
theorem Els.app {w : World} {cs ds : List Value} {n p : Nat} {f g : Nat → Rat} (h : Els w cs n f) (h' : Els w ds p g) : Els w (cs ++ ds) (n + p) (fun t => if t < n then f t else g (t - n)) := by
 refine ⟨by rw [List.length_append, h.1, h'.1]; omega, fun i hi => ?_⟩
 show FQ w _ (if i < n then f i else g (i - n))
 by_cases hn : i < n
 ·rw [el_app (by rw [h.1]; omega), if_pos hn]; exact h.2 i hn
 ·rw [el_app2 h.1 (by omega), if_neg hn]; exact h'.2 (i - n) (by omega)
end
section
set_option maxHeartbeats 1000000
open Go Go.Proofs Go.RowKit Go.Lib

set_option maxRecDepth 100000 in
theorem lwith_calls (m n p : Nat) (f b : Nat → Nat → Rat) (hm : 0 < m) (hn : 0 < n) (hp : 0 < p) (hm' : m ≤ 1000000) (hn' : n ≤ 1000000) (hp' : p ≤ 1000000) (a ab_ : Option Addr) (c d : Nat) (w : World) (hf : MatF w a m n f) (hb : MatF w ab_ m p b) :
  Calls Tryz.prog 119 #[.slice a m c, .slice ab_ m d] w (Ret fun v w' => (∃ go c' A L C, v = .slice (some ⟨go, 0, none⟩) m c' ∧ (∀ j, j < m → L j = n + p) ∧ w'.ownsRow w.heap.size 105 1 (.slice (some ⟨go, 0, none⟩) m c') m (vws m A L C) ∧ Own2 w' w.heap.size m A L C (fun i t => if t < n then f i t else b i (t - n))) ∧ Below w.heap.size w w') := by
 refine enter Tryz.func119 rfl Tryz.ntmps119 (Nat.le_of_ble_eq_true rfl) ?_
 refine dT rfl ?_
 refine call (f := 148) rfl rfl cb148 (lclone_calls m n f hm hn hm' hn' a c w hf) ?_
 rintro v w0 ⟨⟨go, co, A, C, rfl, ho0, hO0⟩, hB0⟩
 have hO0' : Own2 w0 w.heap.size m A (fun _ => n) C (fun i t => if t < n then f i t else b i (t - n)) :=
  ⟨fun j hj => by
   obtain ⟨cs, h1, h2⟩ := hO0.1 j hj
   exact ⟨cs, h1, h2.congr (fun t ht => (by
    show f j t = if t < n then f j t else b j (t - n)
    rw [if_pos (show t < n from ht)]))⟩, hO0.2⟩
 obtain ⟨A1, C1, hS1, hV1, hT1⟩ := hb
 obtain ⟨gb, ob, rfl, _⟩ := hS1.at (j := 0) (by rw [rws_length]; omega)
 have hA1 := fun g hg => (hT1 g hg).lt
 refine ⟨_, rfl, ?_⟩
 refine dT rfl ?_
 refine loopR (fun fr w' mm => ∃ (i : Nat) (A : Nat → Option Addr) (L C : Nat → Nat), fr = [(1, .slice (some ⟨gb, ob, none⟩) m d), (5, .slice (some ⟨go, 0, none⟩) m co), (10, .int .i64 (m : Nat)), (11, .int .i64 (i : Nat))] ∧ i ≤ m ∧
   w'.ownsRow w.heap.size 105 1 (.slice (some ⟨go, 0, none⟩) m co) m (vws m A L C) ∧ Own2 w' w.heap.size m A L C (fun i t => if t < n then f i t else b i (t - n)) ∧ (∀ j, j < m → L j = if j < i then n + p else n) ∧ Below w.heap.size w w' ∧ mm = m - i)
  ⟨0, A, fun _ => n, C, rfl, by omega, ho0, hO0', fun j hj => by rw [if_neg (by omega)], hB0, rfl⟩ ⟨rfl, rfl, rfl, rfl, trivial⟩ ?_
 rintro fr w1 mm ⟨i, A, L, C, rfl, hi, ho, hO, hL, hB, rfl⟩
 refine dT rfl ?_
 refine cS rfl rfl rfl rfl (fun hq => ?_) (fun hq => ?_)
 ·have him : i < m := by omega
  have hLi : L i = n := by rw [hL i him, if_neg (by omega)]
  refine dT rfl ?_
  refine dwn 12 (fun W => Sl W (some ⟨go, 0, none⟩) (vws m A L C) ∧ Sl W (some ⟨gb, ob, none⟩) (rws m p A1 C1)) hmo ?_
  intro w5 hh5 hg5
  have hB5 := hB.grown hg5 hB.size (fun k e => by cases e)
  have ho5 := own_keep ho hg5 (by intro g e h; cases h)
  have hB15 : Below w1.heap.size w1 w5 := (Below.refl _ _).grown hg5 (Nat.le_refl _) (fun k e => by cases e)
  have hO5 := hO.below hB15
  have hl5 : ∀ W, (Sl W (some ⟨go, 0, none⟩) (vws m A L C) ∧ Sl W (some ⟨gb, ob, none⟩) (rws m p A1 C1)) → (loadVar 105 ((⟨go, 0, none⟩ : Addr).add (((i : Nat) : Int).toNat * 1))).run Tryz.prog W = .ok (.slice (A i) (L i) (C i)) W := fun W h => run_load_cell U rfl (by simpa [add_plain] using slc2 h.1 (vws_get him))
  have hl9 : ∀ W, (Sl W (some ⟨go, 0, none⟩) (vws m A L C) ∧ Sl W (some ⟨gb, ob, none⟩) (rws m p A1 C1)) → (loadVar 105 ((⟨gb, ob, none⟩ : Addr).add (((i : Nat) : Int).toNat * 1))).run Tryz.prog W = .ok (.slice (A1 i) p (C1 i)) W := fun W h => run_load_cell U rfl (by simpa [add_plain] using slc2 h.2 (rws_get him))
  refine dq U [0,1,2,3,4,5,6,7,8,9] [(5, .slice (A i) (L i) (C i)), (9, .slice (A1 i) p (C1 i))] (by kernel_rfl) rfl rfl ⟨own_sl ho5, hS1.below hB5 hA1⟩ (by simp only [AllP, InR, List.nil_append, List.cons_append]; (repeat' apply And.intro); all_goals first | exact True.intro | omega | (with_reducible exact hl5) | (with_reducible exact hl9)) ?_
  refine d1 rfl rfl (fun _ => ⟨own_sl ho5, hS1.below hB5 hA1⟩) ?_
  obtain ⟨csk, hok, hek⟩ := hO5.1 i him
  obtain ⟨⟨ds, hEd, hSd, hTd⟩, _⟩ := hV1 i him
  obtain ⟨gr, orr, hAr, _⟩ := hSd.at (j := 0) (by rw [hEd.1]; omega)
  rw [hAr] at hSd hTd ⊢
  have hEd5 := hEd.stay hB5
  have hSd5 := hSd.below hB5 (fun g hg => (hTd g hg).lt)
  refine awf U rfl rfl rfl rfl rfl rfl rfl rfl rfl hok hSd5 hEd.1 hp hEd.one hB5.size (by omega) rfl ?_
  intro a9 c9 w9 ho9 hg9 hp9
  have htk := own_tag hok
  have hB9 := hB5.grown hg9 hB5.size (fun g e => (own_block hok g e).1)
  have hout9 := own_keep ho5 hg9 (fun g hga e => (own_tag ho5 g hga).ne (htk g e) rfl rfl)
  have he9 : Els w9 (csk ++ ds) (L i + p) (fun t => if t < n then f i t else b i (t - n)) :=
   ((hek.push hg9 htk).app (hEd5.push hg9 htk)).congr (fun t ht => by
    rw [hLi]
    show (if t < n then (if t < n then f i t else b i (t - n)) else b i (t - n)) = if t < n then f i t else b i (t - n)
    by_cases h : t < n
    ·rw [if_pos h]
    ·rw [if_neg h, if_neg h])
  have hO9 := hO5.growp him hg9 ho9 he9 hp9
  refine d2 ?_
  refine dqS [11] [] rfl rfl ⟨own_sl hout9, hS1.below hB9 hA1⟩ ?_
  refine d1 rfl rfl (fun _ => ⟨own_sl hout9, hS1.below hB9 hA1⟩) ?_
  refine so U (v := (.slice a9 (L i + p) c9)) rfl rfl rfl rfl rfl rfl rfl i (by simp [add_plain]) him hout9 ?_
  intro w10 ho10 hg10 hs10
  have hB10 := hB9.grown hg10 hB9.size (fun g e => by cases e; exact (own_block hout9 go rfl).1)
  have hO10 := hO9.keep (t := 105) hg10 (fun g e => by cases e; exact own_tag hout9 go rfl) rfl rfl
  rw [vws_set him] at ho10
  refine d2 ?_; refine dend rfl (fun h => by cases h) ?_
  refine dS rfl ?_
  refine rend _ _ ⟨i + 1, _, _, _, rfl, by omega, ho10, hO10, fun j hj => ?_, hB10, rfl⟩ (by omega) ⟨rfl, rfl, rfl, iv (by omega), trivial⟩
  by_cases hji : j = i
  ·subst hji; rw [upd_same, hLi, if_pos (by omega)]
  ·rw [upd_ne _ _ hji, hL j hj]
   by_cases h : j < i
   ·rw [if_pos h, if_pos (by omega)]
   ·rw [if_neg h, if_neg (by omega)]
 ·obtain rfl : i = m := by omega
  refine dT rfl ?_
  exact ret Tryz.results119 rfl ⟨_, rfl, ⟨go, co, A, L, C, rfl, fun j hj => by rw [hL j hj, if_pos hj], ho, hO⟩, hB⟩
end
section
set_option maxHeartbeats 1000000
open Go Go.Proofs Go.RowKit Go.Lib

theorem lhas_calls (n k : Nat) (f : Nat → Rat) (hk : k < n) (a : Option Addr) (c b6 : Nat) (w : World) (hf : VecF w a n f) (hk6 : Bk w b6 3 [.int .i64 (k : Nat)]) :
  Calls Tryz.prog 150 #[.slice a n c, .pointer (some ⟨b6, 0, none⟩)] w (Ret fun v w' => v = .bool (decide (f k ≠ 0)) ∧ Below w.heap.size w w') := by
 obtain ⟨cf, hEf, hSf, hTf⟩ := hf
 refine enter Tryz.func150 rfl Tryz.ntmps150 (Nat.le_of_ble_eq_true rfl) ?_
 refine dT rfl ?_
 refine ld U rfl rfl rfl rfl ((hk6).cell rfl) ?_
 refine ig U rfl rfl rfl rfl ag_frac rfl rfl (fun _ => rfl) rfl k rfl hk hSf (fun j v hv => el_get hv) (el_length (by rw [hEf.1]; omega)) (by decide) ?_
 refine call (f := 151) rfl rfl cb151 (fsign_calls (f k) _ w (hEf.2 k hk)) ?_
 rintro v w1 ⟨rfl, hB⟩
 refine ⟨_, rfl, ?_⟩
 by_cases h : f k = 0
 ·rw [if_pos h, decide_eq_false (fun e => e h)]
  refine cF rfl rfl rfl ((fun h => h rfl)) ?_; refine dT rfl ?_
  exact ret Tryz.results150 rfl ⟨_, rfl, rfl, hB⟩
 ·rw [decide_eq_true h]
  refine cT rfl rfl rfl ((sign_ne h)) ?_; refine dT rfl ?_
  exact ret Tryz.results150 rfl ⟨_, rfl, rfl, hB⟩
end
section
set_option maxHeartbeats 1000000
open Go Go.Proofs Go.RowKit Go.Lib

theorem lindex_calls (m n k : Nat) (f : Nat → Nat → Rat) (hk : k < n) (A : Nat → Option Addr) (C : Nat → Nat) (a : Option Addr) (c b6 : Nat) (w : World) (hm : m ≤ 1000000) (hs : Sl w a (rws m n A C)) (ha : ∀ g, ab a = some g → g < w.heap.size) (hV : ∀ i, i < m → VecF w (A i) n (f i)) (hk6 : Bk w b6 3 [.int .i64 (k : Nat)]) :
  Calls Tryz.prog 149 #[.slice a m c, .func (.func 150) ⟨[]⟩ ⟨[.pointer (some ⟨b6, 0, none⟩)]⟩] w
   (Ret fun v w' => ((∃ i : Nat, v = .int .i64 (i : Nat) ∧ i < m ∧ f i k ≠ 0 ∧ ∀ j, j < i → f j k = 0) ∨ (v = .int .i64 (-1) ∧ ∀ j, j < m → f j k = 0)) ∧ Below w.heap.size w w') := by
 have hlt := hk6.lt
 refine enter Tryz.func149 rfl Tryz.ntmps149 (Nat.le_of_ble_eq_true rfl) ?_
 refine dT rfl ?_
 refine loopR (fun fr w' mm => ∃ (i : Nat), fr = [(0, .slice a m c), (1, .func (.func 150) ⟨[]⟩ ⟨[.pointer (some ⟨b6, 0, none⟩)]⟩), (7, .int .i64 (m : Nat)), (8, .int .i64 (i : Nat))] ∧ i ≤ m ∧ (∀ j, j < i → f j k = 0) ∧ Below w.heap.size w w' ∧ mm = m - i)
  ⟨0, rfl, by omega, fun j hj => absurd hj (by omega), Below.refl _ _, rfl⟩ ⟨rfl, rfl, rfl, rfl, trivial⟩ ?_
 rintro fr w1 mm ⟨i, rfl, hi, hz, hB, rfl⟩
 refine dT rfl ?_
 refine cS rfl rfl rfl rfl (fun hq => ?_) (fun hq => ?_)
 ·have him : i < m := by omega
  refine dT rfl ?_
  refine il U rfl rfl rfl rfl rfl rfl rfl (fun _ => rfl) rfl i rfl him (hs.below hB ha) (rws_get him) ?_
  refine call (f := 150) rfl rfl cb150 (lhas_calls n k (f i) hk (A i) (C i) b6 w1 ((hV i him).stay hB) (hk6.below hB hlt)) ?_
  rintro v w2 ⟨rfl, hB2⟩
  have hB2' := bl_tr hB hB2 hB.size
  refine ⟨_, rfl, ?_⟩
  by_cases h : f i k = 0
  ·rw [decide_eq_false (fun e => e h)]
   refine dS rfl ?_
   refine rend _ _ ⟨i + 1, rfl, by omega, fun j hj => ?_, hB2', rfl⟩ (by omega) ⟨rfl, rfl, rfl, iv (by omega), trivial⟩
   rcases Nat.lt_succ_iff_lt_or_eq.1 hj with h' | rfl
   ·exact hz j h'
   ·exact h
  ·rw [decide_eq_true h]
   refine dT rfl ?_
   exact ret Tryz.results149 rfl ⟨_, rfl, .inl ⟨i, rfl, him, h, hz⟩, hB2'⟩
 ·obtain rfl : i = m := by omega
  refine dT rfl ?_
  exact ret Tryz.results149 rfl ⟨_, rfl, .inr ⟨rfl, hz⟩, hB⟩
end
end Go.Proofs.YtejlpdbiacmfcaaGreatDoor
