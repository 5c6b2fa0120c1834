/-
  The law MatrixAnswers: it returns true for every input.
  Conditions: the library's table of powers of ten is laid.
-/
import Derived.Test.YtejlpdbiacmfcaaGreatDoorYOa
import Derived.Test.YtejlpdbiacmfcaaGreatDoorYOg
set_option linter.unusedSimpArgs false
set_option linter.unusedVariables false
set_option maxHeartbeats 4000000
set_option maxRecDepth 100000
namespace Go.Proofs.YtejlpdbiacmfcaaGreatDoor
open Go Go.Proofs Go.RowKit Go.Lib

def EstT (kind n : Int) (noisy : List Int) (zs : List Tx) (e : Int) : Prop :=
 (strat kind n = [] ∧ zs = [] ∧ e = 2) ∨ (strat kind n ≠ [] ∧ noisy.length ≠ (strat kind n).length ∧ zs = [] ∧ e = 10) ∨
 (strat kind n ≠ [] ∧ noisy.length = (strat kind n).length ∧ ¬ Wthn noisy 1000000000000 ∧ zs = [] ∧ e = 2) ∨
 (strat kind n ≠ [] ∧ noisy.length = (strat kind n).length ∧ Wthn noisy 1000000000000 ∧ e = 0 ∧ ∃ x : Nat → Rat, (∀ i, i < n.toNat → mapp n.toNat (nrm (strat kind n)) x i = rhs (strat kind n) (ratsI noisy) i (strat kind n).length) ∧ zs = txs n.toNat x)
theorem EstT.uniq {kind n : Int} {noisy : List Int} {zs zs' : List Tx} {e e' : Int} (h : EstT kind n noisy zs e) (h' : EstT kind n noisy zs' e') : zs = zs' ∧ e = e' := by
 rcases h with ⟨h1, rfl, rfl⟩ | ⟨h1, h2, rfl, rfl⟩ | ⟨h1, h2, h3, rfl, rfl⟩ | ⟨h1, h2, h3, rfl, x, h4, rfl⟩ <;>
 rcases h' with ⟨g1, rfl, rfl⟩ | ⟨g1, g2, rfl, rfl⟩ | ⟨g1, g2, g3, rfl, rfl⟩ | ⟨g1, g2, g3, rfl, y, g4, rfl⟩ <;>
 first | exact ⟨rfl, rfl⟩ | exact absurd g1 h1 | exact absurd h1 g1 | exact absurd g2 h2 | exact absurd h2 g2 | exact absurd g3 h3 | exact absurd h3 g3 | exact ⟨txs_congr (sol_same (strat_reg h1) h4 g4), rfl⟩
theorem EstR.out {kind n : Int} {noisy : List Int} {v : Value} {w : World} (h : EstR kind n noisy v w) : ∃ zs e, EstT kind n noisy zs e ∧ zs.length ≤ 64 ∧ ∃ a c, v = .tuple ⟨[.slice a zs.length c, .int .i64 e]⟩ ∧ Lit w (.slice a zs.length c) zs := by
 rcases h with ⟨h1, rfl⟩ | ⟨h1, h2, rfl⟩ | ⟨h1, h2, h3, rfl⟩ | ⟨h1, h2, h3, x, a, c, h4, h5, rfl, h6, h7⟩
 ·exact ⟨[], 2, .inl ⟨h1, rfl, rfl⟩, by simp, none, 0, rfl, none, 0, rfl, Sl.nil _ _⟩
 ·exact ⟨[], 10, .inr (.inl ⟨h1, h2, rfl, rfl⟩), by simp, none, 0, rfl, none, 0, rfl, Sl.nil _ _⟩
 ·exact ⟨[], 2, .inr (.inr (.inl ⟨h1, h2, h3, rfl, rfl⟩)), by simp, none, 0, rfl, none, 0, rfl, Sl.nil _ _⟩
 ·have := (strat_kind h1).1
  exact ⟨txs n.toNat x, 0, .inr (.inr (.inr ⟨h1, h2, h3, rfl, x, h4, rfl⟩)), by rw [txs_length]; omega, a, c, by rw [txs_length], by rw [txs_length]; exact h6⟩
def LightC (l : List Tx) : Prop := (∀ j, j < l.length → (l.getD j []).length ≤ 24) ∧ l.length ≤ 20
theorem cells28_calls (l : List Tx) (hl : l.length ≤ 8796093022208) (a : Option Addr) (c : Nat) (w : World) (hs : Sl w a (strs l)) :
  Calls Tryz.prog 27 #[.slice a l.length c] w (Ret fun v w' => (∃ q, v = .bool q ∧ (q = true ↔ LightC l)) ∧ Below w.heap.size w w') := by
 refine enter Tryz.func27 rfl Tryz.ntmps27 (Nat.le_of_ble_eq_true rfl) ?_
 refine dT rfl ?_
 refine loopR (fun f w' m => ∃ i : Nat, f = [(0, .slice a l.length c), (3, .int .i64 (i : Nat))] ∧ i ≤ l.length ∧ (∀ j, j < i → (l.getD j []).length ≤ 24) ∧ w = w' ∧ m = l.length - i)
  ⟨0, rfl, by omega, fun j hj => absurd hj (by omega), rfl, rfl⟩ (by repeat' (first | exact True.intro | exact rfl | exact iv (by omega) | refine ⟨?_, ?_⟩)) ?_
 rintro f w1 m ⟨i, rfl, hi, he, rfl, rfl⟩
 refine dT rfl ?_
 refine cS rfl rfl rfl rfl (fun hq => ?_) (fun hq => ?_)
 ·have hix : i < l.length := by omega
  refine dT rfl ?_
  refine il U rfl rfl rfl rfl rfl rfl rfl (fun _ => rfl) rfl i rfl hix hs (getS hix) ?_
  refine dT rfl ?_
  refine cS rfl rfl rfl rfl (fun hq2 => ?_) (fun hq2 => ?_)
  ·refine dT rfl ?_
   exact ret Tryz.results27 rfl ⟨_, rfl, ⟨false, rfl, fun h => (by cases h), fun h => by have := h.1 i hix; omega⟩, Below.refl _ _⟩
  ·refine dS rfl ?_
   refine rend _ _ ⟨i + 1, rfl, by omega, fun j hj => ?_, rfl, rfl⟩ (by omega) (by repeat' (first | exact True.intro | exact rfl | exact iv (by omega) | refine ⟨?_, ?_⟩))
   rcases Nat.lt_succ_iff_lt_or_eq.1 hj with h' | rfl
   ·exact he j h'
   ·omega
 ·obtain rfl : i = l.length := by omega
  refine dT rfl ?_
  refine cS rfl rfl rfl rfl (fun hq2 => ?_) (fun hq2 => ?_)
  ·refine dT rfl ?_
   exact ret Tryz.results27 rfl ⟨_, rfl, ⟨true, rfl, fun _ => ⟨he, by omega⟩, fun _ => rfl⟩, Below.refl _ _⟩
  ·refine dT rfl ?_
   exact ret Tryz.results27 rfl ⟨_, rfl, ⟨false, rfl, fun h => (by cases h), fun h => by have := h.2; omega⟩, Below.refl _ _⟩
theorem matrixAnswers_calls (kind n : Int) (noisy : List Int) (a1 : Option Addr) (c1 : Nat) (rs : List (Int × Int)) (a2 : Option Addr) (c2 : Nat) (l : List Tx) (a3 : Option Addr) (c3 : Nat) (lo hi : Int)
  (hk : -9223372036854775808 ≤ kind ∧ kind ≤ 9223372036854775807) (hn : -9223372036854775808 ≤ n ∧ n ≤ 9223372036854775807) (hlo : -9223372036854775808 ≤ lo ∧ lo ≤ 9223372036854775807) (hhi : -9223372036854775808 ≤ hi ∧ hi ≤ 9223372036854775807) (w : World) (ht : TabOk w)
  (hs : LitI w (.slice a1 noisy.length c1) noisy ∧ I64 noisy) (hnl : noisy.length ≤ 17592186044416) (hp : LitP w (.slice a2 rs.length c2) rs) (hrl : rs.length ≤ 8796093022208) (hb : Lit w (.slice a3 l.length c3) l ∧ l.length ≤ c3) (hll : l.length ≤ 8796093022208) :
  Calls Tryz.prog 7 #[.int .i64 kind, .int .i64 n, .slice a1 noisy.length c1, .slice a2 rs.length c2, .slice a3 l.length c3, .int .i64 lo, .int .i64 hi] w (Ret fun v w' => v = .bool true ∧ Below w.heap.size w w') := by
 obtain ⟨hb, hcap⟩ := hb
 have hs := hs.1.sl.1
 have hp := hp.sl.1
 have hb := hb.sl.1
 refine enter Tryz.func7 rfl Tryz.ntmps7 (Nat.le_of_ble_eq_true rfl) ?_
 refine dT rfl ?_
 refine call (f := 9) rfl rfl cb9 (lives28_calls w ht) ?_
 rintro v w1 ⟨rfl, hB1⟩
 refine ⟨_, rfl, ?_⟩
 refine dT rfl ?_
 refine cS rfl rfl rfl rfl (fun hq1 => ?_) (fun hq1 => ?_)
 ·refine dT rfl ?_
  refine cS rfl rfl rfl rfl (fun hq2 => ?_) (fun hq2 => ?_)
  ·refine dT rfl ?_
   exact ret Tryz.results7 rfl ⟨_, rfl, rfl, hB1⟩
  have hnn : n ≤ 7 ∨ 64 < n := by omega
  refine dT rfl ?_
  refine cS rfl rfl rfl rfl (fun hq3 => ?_) (fun hq3 => ?_)
  ·refine dT rfl ?_
   exact ret Tryz.results7 rfl ⟨_, rfl, rfl, hB1⟩
  refine dT rfl ?_
  refine cS rfl rfl rfl rfl (fun hq4 => ?_) (fun hq4 => ?_)
  ·refine dT rfl ?_
   exact ret Tryz.results7 rfl ⟨_, rfl, rfl, hB1⟩
  refine dT rfl ?_
  refine call (f := 27) rfl rfl cb27 (cells28_calls l hll a3 c3 w1 (hb.stay hB1)) ?_
  rintro v w2 ⟨⟨qq, rfl, hqq⟩, hB2⟩
  have hB2' := bl_tr hB1 hB2 hB1.size
  refine ⟨_, rfl, ?_⟩
  cases qq with
  | false =>
   refine dT rfl ?_
   exact ret Tryz.results7 rfl ⟨_, rfl, rfl, hB2'⟩
  | true =>
  obtain ⟨hc1, hc2⟩ := hqq.1 rfl
  have hLV : LenV l := ⟨by omega, fun j hj => by have := hc1 j hj; omega⟩
  have hv : VErr l 0 → ∀ j, j < l.length → Small 24 (vval l j) := fun he j hj => q_len_small (verr_ok he j hj) (hc1 j hj)
  have hv4 : VErr l 0 → ∀ j, j < l.length → Small 4000 (vval l j) := fun he j hj => small_mono (hv he j hj) (by omega)
  have hft : VErr l 0 → ∀ lo k, lo + k ≤ l.length → Small 4000 (sm k fun j => vval l (lo + j)) := fun he lo k hk =>
   small_mono (sm_small1 (K := 24) (n := k) (fun j hj => hv he (lo + j) (by omega)) k (Nat.le_refl _)) (by omega)
  refine dT rfl ?_
  refine call (f := 21) rfl rfl cb21 (iown_calls noisy a1 c1 w2 (hs.stay hB2') (by omega)) ?_
  rintro v w3 ⟨⟨a5, c5, rfl, ho5⟩, hB3⟩
  have hB3' := bl_tr hB2' hB3 hB2'.size
  refine ⟨_, rfl, ?_⟩
  refine call (f := 12) rfl rfl cb12 (mest_calls kind n noisy hnn (by omega) a5 c5 w3 (own_sl ho5) (ht.below hB3')) ?_
  rintro v w4 ⟨hE4, hB4⟩
  obtain ⟨zs4, e4, hT4, hz4, a6, c6, rfl, hl4⟩ := hE4.out
  have hB4' := bl_tr hB3' hB4 hB3'.size
  refine ⟨_, rfl, ?_⟩
  refine dT rfl ?_
  refine call (f := 28) rfl rfl cb28 (gest_calls kind n noisy hnn (by omega) a1 c1 w4 (hs.stay hB4')) ?_
  rintro v w5 ⟨hE5, hB5⟩
  obtain ⟨zs5, e5, hT5, hz5, a7, c7, rfl, hl5⟩ := hE5.out
  obtain ⟨rfl, rfl⟩ := hT5.uniq hT4
  have hB5' := bl_tr hB4' hB5 hB4'.size
  have hl4 := hl4.stay hB5
  refine ⟨_, rfl, ?_⟩
  refine dT rfl ?_
  refine call (f := 13) rfl rfl cb13 (mans_calls rs l (by omega) hLV hv4 hft a2 a3 c2 c3 w5 (hp.stay hB5') (hb.stay hB5') hcap (ht.below hB5')) ?_
  rintro v w6 ⟨⟨ys6, e6, hA6, hO6⟩, hB6⟩
  obtain ⟨a8, c8, rfl, hl6⟩ := hO6.lit
  have hB6' := bl_tr hB5' hB6 hB5'.size
  have hl4 := hl4.stay hB6
  have hl5 := hl5.stay hB6
  refine ⟨_, rfl, ?_⟩
  refine dT rfl ?_
  refine call (f := 29) rfl rfl cb29 (g28ans_calls rs l (by omega) hLV hv4 hft a2 a3 c2 c3 w6 (hp.stay hB6') (hb.stay hB6')) ?_
  rintro v w7 ⟨⟨ys7, e7, hA7, hO7⟩, hB7⟩
  obtain ⟨a9, c9, rfl, hl7⟩ := hO7.lit
  obtain ⟨rfl, rfl⟩ := hA7.uniq hA6
  have hB7' := bl_tr hB6' hB7 hB6'.size
  have hl4 := hl4.stay hB7
  have hl5 := hl5.stay hB7
  have hl6 := hl6.stay hB7
  have hy7 : ys7.length ≤ 64 := by
   rcases hA7 with ⟨_, _, h⟩ | ⟨_, _, h, _⟩ | ⟨_, _, _, h, _⟩ | ⟨_, hr, _, h, _⟩
   ·rw [h]; simp
   ·rw [h]; simp
   ·rw [h]; simp
   ·rw [h, List.length_map]; exact hr
  refine ⟨_, rfl, ?_⟩
  refine dT rfl ?_
  refine call (f := 14) rfl rfl cb14 (mspd_calls kind n lo hi hnn w7 (ht.below hB7')) ?_
  rintro v w8 ⟨⟨t8, e8, hS8, rfl⟩, hB8⟩
  have hB8' := bl_tr hB7' hB8 hB7'.size
  have hl4 := hl4.stay hB8
  have hl5 := hl5.stay hB8
  have hl6 := hl6.stay hB8
  have hl7 := hl7.stay hB8
  refine ⟨_, rfl, ?_⟩
  refine dT rfl ?_
  refine call (f := 30) rfl rfl cb30 (g28spd_calls kind n lo hi hnn w8) ?_
  rintro v w9 ⟨⟨t9, e9, hS9, rfl⟩, hB9⟩
  obtain ⟨rfl, rfl⟩ := hS9.uniq hS8
  have hB9' := bl_tr hB8' hB9 hB8'.size
  have hl4 := hl4.stay hB9
  have hl5 := hl5.stay hB9
  have hl6 := hl6.stay hB9
  have hl7 := hl7.stay hB9
  refine ⟨_, rfl, ?_⟩
  refine dT rfl ?_
  refine call (f := 16) rfl rfl cb16 (nsame_x _ _ _ _ _ _ w9 hl4 hl5 (by omega) (by omega)) ?_
  rintro v w10 ⟨rfl, hB10⟩
  have hB10' := bl_tr hB9' hB10 hB9'.size
  have hl6 := hl6.stay hB10
  have hl7 := hl7.stay hB10
  refine ⟨_, rfl, ?_⟩
  rw [decide_eq_true rfl]
  refine dT rfl ?_
  refine cT rfl rfl rfl rfl ?_
  refine dT rfl ?_
  refine call (f := 16) rfl rfl cb16 (nsame_x _ _ _ _ _ _ w10 hl6 hl7 (by omega) (by omega)) ?_
  rintro v w11 ⟨rfl, hB11⟩
  have hB11' := bl_tr hB10' hB11 hB10'.size
  refine ⟨_, rfl, ?_⟩
  rw [decide_eq_true rfl]
  refine dT rfl ?_
  refine cT rfl rfl rfl rfl ?_
  refine dT rfl ?_
  refine cT rfl rfl rfl rfl ?_
  refine dT rfl ?_
  refine cT rfl rfl rfl rfl ?_
  refine dT rfl ?_
  exact ret Tryz.results7 rfl ⟨_, rfl, rfl, hB11'⟩
 ·have hnn : n ≤ 7 ∨ 64 < n := by omega
  refine dT rfl ?_
  refine cS rfl rfl rfl rfl (fun hq3 => ?_) (fun hq3 => ?_)
  ·refine dT rfl ?_
   exact ret Tryz.results7 rfl ⟨_, rfl, rfl, hB1⟩
  refine dT rfl ?_
  refine cS rfl rfl rfl rfl (fun hq4 => ?_) (fun hq4 => ?_)
  ·refine dT rfl ?_
   exact ret Tryz.results7 rfl ⟨_, rfl, rfl, hB1⟩
  refine dT rfl ?_
  refine call (f := 27) rfl rfl cb27 (cells28_calls l hll a3 c3 w1 (hb.stay hB1)) ?_
  rintro v w2 ⟨⟨qq, rfl, hqq⟩, hB2⟩
  have hB2' := bl_tr hB1 hB2 hB1.size
  refine ⟨_, rfl, ?_⟩
  cases qq with
  | false =>
   refine dT rfl ?_
   exact ret Tryz.results7 rfl ⟨_, rfl, rfl, hB2'⟩
  | true =>
  obtain ⟨hc1, hc2⟩ := hqq.1 rfl
  have hLV : LenV l := ⟨by omega, fun j hj => by have := hc1 j hj; omega⟩
  have hv : VErr l 0 → ∀ j, j < l.length → Small 24 (vval l j) := fun he j hj => q_len_small (verr_ok he j hj) (hc1 j hj)
  have hv4 : VErr l 0 → ∀ j, j < l.length → Small 4000 (vval l j) := fun he j hj => small_mono (hv he j hj) (by omega)
  have hft : VErr l 0 → ∀ lo k, lo + k ≤ l.length → Small 4000 (sm k fun j => vval l (lo + j)) := fun he lo k hk =>
   small_mono (sm_small1 (K := 24) (n := k) (fun j hj => hv he (lo + j) (by omega)) k (Nat.le_refl _)) (by omega)
  refine dT rfl ?_
  refine call (f := 21) rfl rfl cb21 (iown_calls noisy a1 c1 w2 (hs.stay hB2') (by omega)) ?_
  rintro v w3 ⟨⟨a5, c5, rfl, ho5⟩, hB3⟩
  have hB3' := bl_tr hB2' hB3 hB2'.size
  refine ⟨_, rfl, ?_⟩
  refine call (f := 12) rfl rfl cb12 (mest_calls kind n noisy hnn (by omega) a5 c5 w3 (own_sl ho5) (ht.below hB3')) ?_
  rintro v w4 ⟨hE4, hB4⟩
  obtain ⟨zs4, e4, hT4, hz4, a6, c6, rfl, hl4⟩ := hE4.out
  have hB4' := bl_tr hB3' hB4 hB3'.size
  refine ⟨_, rfl, ?_⟩
  refine dT rfl ?_
  refine call (f := 28) rfl rfl cb28 (gest_calls kind n noisy hnn (by omega) a1 c1 w4 (hs.stay hB4')) ?_
  rintro v w5 ⟨hE5, hB5⟩
  obtain ⟨zs5, e5, hT5, hz5, a7, c7, rfl, hl5⟩ := hE5.out
  obtain ⟨rfl, rfl⟩ := hT5.uniq hT4
  have hB5' := bl_tr hB4' hB5 hB4'.size
  have hl4 := hl4.stay hB5
  refine ⟨_, rfl, ?_⟩
  refine dT rfl ?_
  refine call (f := 13) rfl rfl cb13 (mans_calls rs l (by omega) hLV hv4 hft a2 a3 c2 c3 w5 (hp.stay hB5') (hb.stay hB5') hcap (ht.below hB5')) ?_
  rintro v w6 ⟨⟨ys6, e6, hA6, hO6⟩, hB6⟩
  obtain ⟨a8, c8, rfl, hl6⟩ := hO6.lit
  have hB6' := bl_tr hB5' hB6 hB5'.size
  have hl4 := hl4.stay hB6
  have hl5 := hl5.stay hB6
  refine ⟨_, rfl, ?_⟩
  refine dT rfl ?_
  refine call (f := 29) rfl rfl cb29 (g28ans_calls rs l (by omega) hLV hv4 hft a2 a3 c2 c3 w6 (hp.stay hB6') (hb.stay hB6')) ?_
  rintro v w7 ⟨⟨ys7, e7, hA7, hO7⟩, hB7⟩
  obtain ⟨a9, c9, rfl, hl7⟩ := hO7.lit
  obtain ⟨rfl, rfl⟩ := hA7.uniq hA6
  have hB7' := bl_tr hB6' hB7 hB6'.size
  have hl4 := hl4.stay hB7
  have hl5 := hl5.stay hB7
  have hl6 := hl6.stay hB7
  have hy7 : ys7.length ≤ 64 := by
   rcases hA7 with ⟨_, _, h⟩ | ⟨_, _, h, _⟩ | ⟨_, _, _, h, _⟩ | ⟨_, hr, _, h, _⟩
   ·rw [h]; simp
   ·rw [h]; simp
   ·rw [h]; simp
   ·rw [h, List.length_map]; exact hr
  refine ⟨_, rfl, ?_⟩
  refine dT rfl ?_
  refine call (f := 14) rfl rfl cb14 (mspd_calls kind n lo hi hnn w7 (ht.below hB7')) ?_
  rintro v w8 ⟨⟨t8, e8, hS8, rfl⟩, hB8⟩
  have hB8' := bl_tr hB7' hB8 hB7'.size
  have hl4 := hl4.stay hB8
  have hl5 := hl5.stay hB8
  have hl6 := hl6.stay hB8
  have hl7 := hl7.stay hB8
  refine ⟨_, rfl, ?_⟩
  refine dT rfl ?_
  refine call (f := 30) rfl rfl cb30 (g28spd_calls kind n lo hi hnn w8) ?_
  rintro v w9 ⟨⟨t9, e9, hS9, rfl⟩, hB9⟩
  obtain ⟨rfl, rfl⟩ := hS9.uniq hS8
  have hB9' := bl_tr hB8' hB9 hB8'.size
  have hl4 := hl4.stay hB9
  have hl5 := hl5.stay hB9
  have hl6 := hl6.stay hB9
  have hl7 := hl7.stay hB9
  refine ⟨_, rfl, ?_⟩
  refine dT rfl ?_
  refine call (f := 16) rfl rfl cb16 (nsame_x _ _ _ _ _ _ w9 hl4 hl5 (by omega) (by omega)) ?_
  rintro v w10 ⟨rfl, hB10⟩
  have hB10' := bl_tr hB9' hB10 hB9'.size
  have hl6 := hl6.stay hB10
  have hl7 := hl7.stay hB10
  refine ⟨_, rfl, ?_⟩
  rw [decide_eq_true rfl]
  refine dT rfl ?_
  refine cT rfl rfl rfl rfl ?_
  refine dT rfl ?_
  refine call (f := 16) rfl rfl cb16 (nsame_x _ _ _ _ _ _ w10 hl6 hl7 (by omega) (by omega)) ?_
  rintro v w11 ⟨rfl, hB11⟩
  have hB11' := bl_tr hB10' hB11 hB10'.size
  refine ⟨_, rfl, ?_⟩
  rw [decide_eq_true rfl]
  refine dT rfl ?_
  refine cT rfl rfl rfl rfl ?_
  refine dT rfl ?_
  refine cT rfl rfl rfl rfl ?_
  refine dT rfl ?_
  refine cT rfl rfl rfl rfl ?_
  refine dT rfl ?_
  exact ret Tryz.results7 rfl ⟨_, rfl, rfl, hB11'⟩
end Go.Proofs.YtejlpdbiacmfcaaGreatDoor
