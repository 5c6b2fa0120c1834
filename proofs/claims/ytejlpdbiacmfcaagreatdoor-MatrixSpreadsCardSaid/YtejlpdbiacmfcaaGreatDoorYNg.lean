/-
  Walks of package rat's Int and Add, at numbers; frac.Must.
  Conditions: the numbers' digits fit; the library's table of powers of ten is laid.

  Rows of the reference's rational numbers: vectors and matrices of them.
  No conditions: each theorem names its own premises.

  Walks of the reference's Vector, Check, number, vector, matrix, texts, table, zero.
  Conditions: texts take fewer than 2^40 bytes, lists fewer than 2^40 elements.

  Walks of the reference's vector, matrix, texts, table, zero.
  Conditions: texts take fewer than 2^40 bytes, lists at most a million elements.

  Walks of the reference's flip, dot, apply, times, scale, combine.
  Conditions: a bound on the sizes of the numbers.

  Walks of the reference's times, scale, combine.
  Conditions: a bound on the sizes of the numbers.

  Walk of the reference's reduce: it does what elimination does.
  Conditions: a bound on the sizes of the numbers.

  Walk of the reference's solve.
  Conditions: a bound on the sizes of the numbers.

  Walks of the reference's with, Identity, Transpose, Mul, Apply, Rank, Solve.
  Conditions: a bound on the sizes of the numbers.

  Walks of the reference's Solve, Inverse, Least.
  Conditions: a bound on the sizes of the numbers.

  Package linear at light arguments; what it answers at written-out ones.
  Conditions: rows of at most 6 texts of 12 bytes; the library's table of powers of ten is laid.

  The law package's lives, and LinearNames: it returns true. Printed by names27.py.
  Conditions: the library's table of powers of ten is laid.

  The lengths of what package linear answers; calls at matrices of numbers.
  Conditions: the library's table of powers of ten is laid.
-/
import Derived.Test.YtejlpdbiacmfcaaGreatDoorYLb
import Derived.Test.YtejlpdbiacmfcaaGreatDoorYR5
import Derived.Test.YtejlpdbiacmfcaaGreatDoorYSs
import Derived.Test.YtejlpdbiacmfcaaGreatDoorYFa
import Derived.Test.YtejlpdbiacmfcaaGreatDoorYPs
import Derived.Test.YtejlpdbiacmfcaaGreatDoorYVb
import Derived.Test.YtejlpdbiacmfcaaGreatDoorYVu
import Derived.Test.YtejlpdbiacmfcaaGreatDoorYVz
import Derived.Test.YtejlpdbiacmfcaaGreatDoorYNd
section
set_option linter.unusedSimpArgs false
set_option linter.unusedVariables false
set_option maxHeartbeats 2000000
namespace Go.Proofs.YtejlpdbiacmfcaaGreatDoor
open Go Go.Proofs Go.RowKit Go.Lib

theorem qtext_int (z : Int) : qtext (z : Rat) = itoa z := by
  unfold qtext itoa
  rw [Rat.num_intCast, Rat.den_intCast, if_pos rfl, List.append_nil]
  by_cases h : z < 0
  · rw [if_pos h, if_pos h]; rfl
  · rw [if_neg h, if_neg h, List.nil_append]
    congr 1
    omega
theorem mint_calls (z : Int) (h0 : -9223372036854775808 ≤ z) (h1 : z ≤ 9223372036854775807) (w : World) (ht : TabOk w) :
    Calls Tryz.prog 43 #[.int .i64 z] w (Ret fun v w' => v = .string ⟨⟨qtext (z : Rat)⟩⟩ ∧ Below w.heap.size w w') := by
  refine enter Tryz.func43 rfl Tryz.ntmps43 (Nat.le_of_ble_eq_true rfl) ?_
  refine dr U 600 rfl trivial ?_
  have hc : Calls Tryz.prog 82 #[.int .i64 z] w (Ret fun v w' => v = .string ⟨⟨qtext (z : Rat)⟩⟩ ∧ Below w.heap.size w w') :=
    (Tryz.strconv_Itoa z h0 h1 w (ht.tab (by kernel_rfl))).mono (by
      rintro e w' ⟨rfl, k, os, rfl⟩
      exact ⟨_, rfl, by rw [qtext_int], grow_below w k os⟩)
  refine call (f := 82) rfl rfl cb82 hc ?_
  rintro v w1 ⟨rfl, hB⟩
  refine ⟨_, rfl, ?_⟩
  refine dr U 600 rfl trivial ?_
  exact ret Tryz.results43 rfl ⟨_, rfl, rfl, hB⟩

theorem mwith_calls (p : Rat) (hp : Small 4000 p) (s : List UInt8) (g : Nat) (lb : List Value) (J : World → Prop) (hJ : ∀ W W', J W → Below W.heap.size W W' → J W') (hcb : Callable Tryz.prog g)
    (hf : ∀ u W, FQ W u p → J W → TabOk W → Calls Tryz.prog g (u :: lb).toArray W (Ret fun v w' => v = .tuple ⟨[.string ⟨⟨s⟩⟩, .int .i64 0]⟩ ∧ Below W.heap.size W w')) (w : World) (hj : J w) (ht : TabOk w) :
    Calls Tryz.prog 113 #[.string ⟨⟨qtext p⟩⟩, .func (.func g) ⟨[]⟩ ⟨lb⟩] w (Ret fun v w' => v = .tuple ⟨[.string ⟨⟨s⟩⟩, .int .i64 0]⟩ ∧ Below w.heap.size w w') := by
  have hql := qtext_len hp
  obtain ⟨hq0, hqv⟩ := q_text_ok p hp
  refine enter Tryz.func113 rfl Tryz.ntmps113 (Nat.le_of_ble_eq_true rfl) ?_
  refine dr U 600 rfl trivial ?_
  refine call (f := 96) rfl rfl cb96 (frparse_calls (qtext p) (by omega) w) ?_
  rintro v w2 ⟨hr, hB2⟩
  obtain ⟨m, b1, n1, c1, b2, n2, cc2, e, rfl, hqe, hfq⟩ := hr.cases
  obtain rfl := hqe.uniq hq0
  have hf2 := hfq rfl
  rw [hqv] at hf2
  have hbz := hB2.size
  refine ⟨_, rfl, ?_⟩
  refine dr U 600 rfl trivial ?_
  refine al U rfl rfl rfl rfl ?_
  intro b7 w3 hb7 hs3 hk7 hg3
  have hB3 := hB2.grown hg3 hB2.size (fun k e => by cases e)
  refine dr U 600 rfl trivial ?_
  refine st U rfl rfl rfl rfl rfl rfl rfl rfl rfl rfl (hk7) ?_
  intro w4 hk7 hg4 hs4
  have hB4 := hB3.grown hg4 hB3.size (fun k e => by cases e; omega)
  have hB24 : Below w2.heap.size w2 w4 := ((Below.refl _ _).grown hg3 (Nat.le_refl _) (fun k e => by cases e)).grown hg4 (by omega) (fun k e => by cases e; omega)
  have hf4 := hf2.stay hB24
  refine dr U 600 rfl trivial ?_
  refine cF rfl rfl rfl ((fun h => h rfl)) ?_; refine dr U 600 rfl trivial ?_
  refine lg rfl ag_frac rfl rfl hk7 rfl ?_
  refine call (f := g) rfl rfl hcb (hf _ w4 hf4 (hJ _ _ hj hB4) (ht.below hB4)) ?_
  rintro v w5 ⟨rfl, hB5⟩
  refine ⟨_, rfl, ?_⟩
  refine dr U 600 rfl trivial ?_
  exact ret Tryz.results113 rfl ⟨_, rfl, rfl, bl_tr hB4 hB5 hB4.size⟩

theorem madd1_calls (p q : Rat) (hp : Small 4000 p) (hq : Small 4000 q) (hr : Small 4000 (p + q)) (v1 v2 : Value) (w : World) (h1 : FQ w v1 p) (h2 : FQ w v2 q) (ht : TabOk w) :
    Calls Tryz.prog 86 #[v1, v2] w (Ret fun v w' => v = .tuple ⟨[.string ⟨⟨qtext (p + q)⟩⟩, .int .i64 0]⟩ ∧ Below w.heap.size w w') := by
  obtain ⟨u1, u2, u3, u4, u5, u6, u7, rfl⟩ := h1.shape
  obtain ⟨y1, y2, y3, y4, y5, y6, y7, rfl⟩ := h2.shape
  refine enter Tryz.func86 rfl Tryz.ntmps86 (Nat.le_of_ble_eq_true rfl) ?_
  refine dr U 600 rfl trivial ?_
  refine bx rfl rfl rfl rfl ?_
  intro b1 wa hb1 hsa hk1 hga
  have hB1 : Below w.heap.size w wa := (Below.refl _ _).grown hga (Nat.le_refl _) (fun k e => by cases e)
  refine dr U 600 rfl trivial ?_
  refine bx rfl rfl rfl rfl ?_
  intro b2 wb hb2 hsb hk2 hgb
  have hk1 := hk1.keep hgb (by simp)
  have hB2 := hB1.grown hgb hB1.size (fun k e => by cases e)
  refine dr U 600 rfl trivial ?_
  refine lg rfl ag_frac rfl rfl hk1 rfl ?_
  refine lg rfl ag_frac rfl rfl hk2 rfl ?_
  refine call (f := 53) rfl rfl cb53 (fadd_calls p q 4000 (by omega) _ _ wb (h1.stay hB2) (h2.stay hB2) hp hq) ?_
  rintro v w3 ⟨hf3, hB3⟩
  have hB3' := bl_tr hB2 hB3 hB2.size
  refine ⟨_, rfl, ?_⟩
  refine call (f := 55) rfl rfl cb55 (frnumq_calls (p + q) _ w3 hf3 (hr.fits (by omega)) (ht.below hB3')) ?_
  rintro v w4 ⟨hres, hB4⟩
  obtain rfl := hres.ok hr
  refine ⟨_, rfl, ?_⟩
  refine dr U 600 rfl trivial ?_
  exact ret Tryz.results86 rfl ⟨_, rfl, rfl, bl_tr hB3' hB4 hB3'.size⟩
theorem mboth2_calls (p q : Rat) (hp : Small 4000 p) (hq : Small 4000 q) (hr : Small 4000 (p + q)) (b2 b3 : Nat) (x1 : Bool) (x2 x5 : Option Addr) (x3 x4 x6 x7 : Nat) (v2 : Value) (w : World)
    (h1 : FQ w (.agg ⟨[.bool x1, .slice x2 x3 x4, .slice x5 x6 x7]⟩) p) (hk2 : Bk w b2 110 [.func (.func 86) ⟨[]⟩ ⟨[]⟩]) (hk3 : Bk w b3 76 [.bool x1, .slice x2 x3 x4, .slice x5 x6 x7]) (h2 : FQ w v2 q) (ht : TabOk w) :
    Calls Tryz.prog 115 #[v2, .pointer (some ⟨b2, 0, none⟩), .pointer (some ⟨b3, 0, none⟩)] w (Ret fun v w' => v = .tuple ⟨[.string ⟨⟨qtext (p + q)⟩⟩, .int .i64 0]⟩ ∧ Below w.heap.size w w') := by
  obtain ⟨y1, y2, y3, y4, y5, y6, y7, rfl⟩ := h2.shape
  refine enter Tryz.func115 rfl Tryz.ntmps115 (Nat.le_of_ble_eq_true rfl) ?_
  refine dr U 600 rfl trivial ?_
  refine bx rfl rfl rfl rfl ?_
  intro b1 wa hb1 hsa hk1 hga
  have hB1 : Below w.heap.size w wa := (Below.refl _ _).grown hga (Nat.le_refl _) (fun k e => by cases e)
  have hk2 := hk2.keep hga (by simp)
  have hk3 := hk3.keep hga (by simp)
  refine dr U 600 rfl trivial ?_
  refine ld U rfl rfl rfl rfl ((hk2).cell rfl) ?_
  refine lg rfl ag_frac rfl rfl hk3 rfl ?_
  refine lg rfl ag_frac rfl rfl hk1 rfl ?_
  refine call (f := 86) rfl rfl cb86 (madd1_calls p q hp hq hr _ _ wa (h1.stay hB1) (h2.stay hB1) (ht.below hB1)) ?_
  rintro v w4 ⟨rfl, hB4⟩
  refine ⟨_, rfl, ?_⟩
  refine dr U 600 rfl trivial ?_
  exact ret Tryz.results115 rfl ⟨_, rfl, rfl, bl_tr hB1 hB4 hB1.size⟩
theorem mboth1_calls (p q : Rat) (hp : Small 4000 p) (hq : Small 4000 q) (hr : Small 4000 (p + q)) (b1 b2 : Nat) (v1 : Value) (w : World)
    (h1 : FQ w v1 p) (hk1 : Bk w b1 35 [.string ⟨⟨qtext q⟩⟩]) (hk2 : Bk w b2 110 [.func (.func 86) ⟨[]⟩ ⟨[]⟩]) (ht : TabOk w) :
    Calls Tryz.prog 114 #[v1, .pointer (some ⟨b1, 0, none⟩), .pointer (some ⟨b2, 0, none⟩)] w (Ret fun v w' => v = .tuple ⟨[.string ⟨⟨qtext (p + q)⟩⟩, .int .i64 0]⟩ ∧ Below w.heap.size w w') := by
  obtain ⟨y1, y2, y3, y4, y5, y6, y7, rfl⟩ := h1.shape
  refine enter Tryz.func114 rfl Tryz.ntmps114 (Nat.le_of_ble_eq_true rfl) ?_
  refine dr U 600 rfl trivial ?_
  refine bx rfl rfl rfl rfl ?_
  intro b3 wa hb3 hsa hk3 hga
  have hB1 : Below w.heap.size w wa := (Below.refl _ _).grown hga (Nat.le_refl _) (fun k e => by cases e)
  have hk1 := hk1.keep hga (by simp)
  have hk2 := hk2.keep hga (by simp)
  have h1 := h1.stay hB1
  refine dr U 600 rfl trivial ?_
  refine ld U rfl rfl rfl rfl ((hk1).cell rfl) ?_
  refine dr U 600 rfl trivial ?_
  refine call (f := 113) rfl rfl cb113 (mwith_calls q hq (qtext (p + q)) 115 [.pointer (some ⟨b2, 0, none⟩), .pointer (some ⟨b3, 0, none⟩)]
    (fun W => FQ W (.agg ⟨[.bool y1, .slice y2 y3 y4, .slice y5 y6 y7]⟩) p ∧ Bk W b2 110 [.func (.func 86) ⟨[]⟩ ⟨[]⟩] ∧ Bk W b3 76 [.bool y1, .slice y2 y3 y4, .slice y5 y6 y7])
    (fun W W' h hB => ⟨h.1.stay hB, h.2.1.below hB h.2.1.lt, h.2.2.below hB h.2.2.lt⟩) cb115
    (fun u W hu h htW => mboth2_calls p q hp hq hr b2 b3 y1 y2 y5 y3 y4 y6 y7 u W h.1 h.2.1 h.2.2 hu htW) wa ⟨h1, hk2, hk3⟩ (ht.below hB1)) ?_
  rintro v w4 ⟨rfl, hB4⟩
  refine ⟨_, rfl, ?_⟩
  refine dr U 600 rfl trivial ?_
  exact ret Tryz.results114 rfl ⟨_, rfl, rfl, bl_tr hB1 hB4 hB1.size⟩
theorem madd_q {p q : Rat} (hp : Small 4000 p) (hq : Small 4000 q) (hr : Small 4000 (p + q)) (w : World) (ht : TabOk w) :
    Calls Tryz.prog 49 #[.string ⟨⟨qtext p⟩⟩, .string ⟨⟨qtext q⟩⟩] w (Ret fun v w' => v = .tuple ⟨[.string ⟨⟨qtext (p + q)⟩⟩, .int .i64 0]⟩ ∧ Below w.heap.size w w') := by
  have hboth : Calls Tryz.prog 85 #[.string ⟨⟨qtext p⟩⟩, .string ⟨⟨qtext q⟩⟩, .func (.func 86) ⟨[]⟩ ⟨[]⟩] w (Ret fun v w' => v = .tuple ⟨[.string ⟨⟨qtext (p + q)⟩⟩, .int .i64 0]⟩ ∧ Below w.heap.size w w') := by
    refine enter Tryz.func85 rfl Tryz.ntmps85 (Nat.le_of_ble_eq_true rfl) ?_
    refine dr U 600 rfl trivial ?_
    refine bx rfl rfl rfl rfl ?_
    intro b1 wa hb1 hsa hk1 hga
    have hB1 : Below w.heap.size w wa := (Below.refl _ _).grown hga (Nat.le_refl _) (fun k e => by cases e)
    refine dr U 600 rfl trivial ?_
    refine bx rfl rfl rfl rfl ?_
    intro b2 wb hb2 hsb hk2 hgb
    have hk1 := hk1.keep hgb (by simp)
    have hB2 := hB1.grown hgb hB1.size (fun k e => by cases e)
    refine dr U 600 rfl trivial ?_
    refine call (f := 113) rfl rfl cb113 (mwith_calls p hp (qtext (p + q)) 114 [.pointer (some ⟨b1, 0, none⟩), .pointer (some ⟨b2, 0, none⟩)]
      (fun W => Bk W b1 35 [.string ⟨⟨qtext q⟩⟩] ∧ Bk W b2 110 [.func (.func 86) ⟨[]⟩ ⟨[]⟩])
      (fun W W' h hB => ⟨h.1.below hB h.1.lt, h.2.below hB h.2.lt⟩) cb114
      (fun u W hu h htW => mboth1_calls p q hp hq hr b1 b2 u W hu h.1 h.2 htW) wb ⟨hk1, hk2⟩ (ht.below hB2)) ?_
    rintro v w4 ⟨rfl, hB4⟩
    refine ⟨_, rfl, ?_⟩
    refine dr U 600 rfl trivial ?_
    exact ret Tryz.results85 rfl ⟨_, rfl, rfl, bl_tr hB2 hB4 hB2.size⟩
  refine enter Tryz.func49 rfl Tryz.ntmps49 (Nat.le_of_ble_eq_true rfl) ?_
  refine dr U 600 rfl trivial ?_
  refine call (f := 85) rfl rfl cb85 hboth ?_
  rintro v w1 ⟨rfl, hB⟩
  refine ⟨_, rfl, ?_⟩
  refine dr U 600 rfl trivial ?_
  exact ret Tryz.results49 rfl ⟨_, rfl, rfl, hB⟩

theorem must_calls (p : Rat) (hp : Small 4000 p) (w : World) :
    Calls Tryz.prog 54 #[.string ⟨⟨qtext p⟩⟩] w (Ret fun v w' => FQ w' v p ∧ Below w.heap.size w w') := by
  have hql := qtext_len hp
  obtain ⟨hq0, hqv⟩ := q_text_ok p hp
  refine enter Tryz.func54 rfl Tryz.ntmps54 (Nat.le_of_ble_eq_true rfl) ?_
  refine dr U 600 rfl trivial ?_
  refine al U rfl rfl rfl rfl ?_
  intro b2 w0 hb2 hs0 hk2 hg0
  have hB0 : Below w.heap.size w w0 := (Below.refl _ _).grown hg0 (Nat.le_refl _) (fun k e => by cases e)
  refine dr U 600 rfl trivial ?_
  refine call (f := 96) rfl rfl cb96 (frparse_calls (qtext p) (by omega) w0) ?_
  rintro v w1 ⟨hr, hB1⟩
  obtain ⟨m, a1, n1, c1, a2, n2, c2, e, rfl, hqe, hfq⟩ := hr.cases
  obtain rfl := hqe.uniq hq0
  have hf := hfq rfl
  rw [hqv] at hf
  have hk2 := hk2.below hB1 hk2.lt
  have hB1' := bl_tr hB0 hB1 hB0.size
  refine ⟨_, rfl, ?_⟩
  refine dr U 600 rfl trivial ?_
  refine al U rfl rfl rfl rfl ?_
  intro b3 w2 hb3 hs2 hk3 hg2
  have hlt2 := hk2.lt
  have hk2 := hk2.keep hg2 (by simp)
  refine dr U 600 rfl trivial ?_
  refine st U rfl rfl rfl rfl rfl rfl rfl rfl rfl rfl (hk3) ?_
  intro w3 hk3 hg3 hs3
  have hk2 := hk2.keep hg3 (by intro e; cases e; omega)
  have hB3 : Below w1.heap.size w1 w3 := ((Below.refl _ _).grown hg2 (Nat.le_refl _) (fun k e => by cases e)).grown hg3 (by omega) (fun k e => by cases e; omega)
  have hf := hf.stay hB3
  have hB3' := bl_tr hB1' hB3 hB1'.size
  refine dr U 600 rfl trivial ?_
  refine lg rfl ag_frac rfl rfl hk3 rfl ?_
  refine st U rfl rfl rfl rfl rfl rfl rfl rfl rfl rfl (hk2) ?_
  intro w4 hk4 hg4 hs4
  refine dr U 600 rfl trivial ?_
  exact retS Tryz.results54 (vs := [_]) ⟨⟨_, rfl, run_load_agg ag_frac hk4 rfl⟩, trivial⟩ ⟨_, rfl, hf.push hg4 (fun g e => by cases e; exact hk2.tg), hB3'.grown hg4 hB3'.size (fun k e => by cases e; omega)⟩
end Go.Proofs.YtejlpdbiacmfcaaGreatDoor
end
section
set_option linter.unusedSimpArgs false
set_option linter.unusedVariables false
set_option maxHeartbeats 1000000
namespace Go.Proofs.YtejlpdbiacmfcaaGreatDoor
open Go Go.Proofs Go.RowKit Go.Lib

theorem RdI.push {w w' : World} {a : Option Addr} {c : Nat} {xs : List Nat} {row : Option Nat} (h : RdI w a c xs) {t : Nat} (hg : w.grownBy w' row) (hr : ∀ g, row = some g → Tg w t g) (ht : Nat.beq 3 t = false := by rfl) : RdI w' a c xs := by
  have hne : ∀ g, ab a = some g → row ≠ some g := fun g hga e => (h.2.2 g hga).ne (hr g e) ht rfl
  exact ⟨h.1.keep hg hne, h.2.1, fun g hga => (h.2.2 g hga).grown hg (hne g hga)⟩
theorem QR.push {w w' : World} {v : Value} {r : Rat} {row : Option Nat} (h : QR w v r) {t : Nat} (hg : w.grownBy w' row) (hr : ∀ g, row = some g → Tg w t g) (ht : Nat.beq 3 t = false := by rfl) : QR w' v r := by
  obtain ⟨an, cn, ad, cd, rfl, h1, h2⟩ := h
  exact ⟨an, cn, ad, cd, rfl, h1.push hg hr ht, h2.push hg hr ht⟩
theorem QR.shape {w : World} {v : Value} {r : Rat} (h : QR w v r) : ∃ m a1 n1 c1 a2 n2 c2, v = .agg ⟨[.bool m, .slice a1 n1 c1, .slice a2 n2 c2]⟩ := by
  obtain ⟨an, cn, ad, cd, rfl, h1, h2⟩ := h
  exact ⟨_, _, _, _, _, _, _, rfl⟩
/-- The elements are these fractions. -/
def ElsQ (w : World) (cs : List Value) (n : Nat) (f : Nat → Rat) : Prop := cs.length = n * 3 ∧ ∀ i, i < n → QR w (.agg ⟨el cs i⟩) (f i)
theorem ElsQ.stay {w w' : World} {cs : List Value} {n : Nat} {f : Nat → Rat} (h : ElsQ w cs n f) (hb : Below w.heap.size w w') : ElsQ w' cs n f := ⟨h.1, fun i hi => (h.2 i hi).stay hb⟩
theorem ElsQ.push {w w' : World} {cs : List Value} {n : Nat} {f : Nat → Rat} {row : Option Nat} (h : ElsQ w cs n f) {t : Nat} (hg : w.grownBy w' row) (hr : ∀ g, row = some g → Tg w t g) (ht : Nat.beq 3 t = false := by rfl) : ElsQ w' cs n f := ⟨h.1, fun i hi => (h.2 i hi).push hg hr ht⟩
theorem ElsQ.snoc {w : World} {cs t : List Value} {n : Nat} {f : Nat → Rat} (h : ElsQ w cs n f) (ht : QR w (.agg ⟨t⟩) (f n)) : ElsQ w (cs ++ t) (n + 1) f := by
  obtain ⟨m, a1, n1, c1, a2, n2, c2, e⟩ := ht.shape
  have hl : t.length = 3 := by simp only [Value.agg.injEq, Array.mk.injEq] at e; rw [e]; rfl
  refine ⟨by rw [List.length_append, h.1, hl]; omega, fun i hi => ?_⟩
  by_cases hn : i < n
  · rw [el_app (by rw [h.1]; omega)]; exact h.2 i hn
  · obtain rfl : i = n := by omega
    rw [el_last h.1 hl]; exact ht
theorem ElsQ.nil (w : World) (f : Nat → Rat) : ElsQ w [] 0 f := ⟨rfl, fun i hi => absurd hi (by omega)⟩
/-- A slice of fractions. -/
def VecQ (w : World) (a : Option Addr) (n : Nat) (f : Nat → Rat) : Prop := ∃ cs, ElsQ w cs n f ∧ Sl w a cs ∧ ∀ g, ab a = some g → Tg w 86 g
theorem VecQ.stay {w w' : World} {a : Option Addr} {n : Nat} {f : Nat → Rat} (h : VecQ w a n f) (hb : Below w.heap.size w w') : VecQ w' a n f := by
  obtain ⟨cs, h1, h2, h3⟩ := h
  exact ⟨cs, h1.stay hb, h2.below hb (fun g hg => (h3 g hg).lt), fun g hg => (h3 g hg).below hb⟩
/-- A slice of m rows of n fractions. -/
def MatQ (w : World) (a : Option Addr) (m n : Nat) (f : Nat → Nat → Rat) : Prop := ∃ A C, Sl w a (rws m n A C) ∧ (∀ i, i < m → VecQ w (A i) n (f i) ∧ n ≤ C i) ∧ ∀ g, ab a = some g → Tg w 169 g
theorem MatQ.stay {w w' : World} {a : Option Addr} {m n : Nat} {f : Nat → Nat → Rat} (h : MatQ w a m n f) (hb : Below w.heap.size w w') : MatQ w' a m n f := by
  obtain ⟨A, C, h1, h2, h3⟩ := h
  exact ⟨A, C, h1.below hb (fun g hg => (h3 g hg).lt), fun i hi => ⟨(h2 i hi).1.stay hb, (h2 i hi).2⟩, fun g hg => (h3 g hg).below hb⟩
theorem VecQ.push {w w' : World} {a : Option Addr} {n : Nat} {f : Nat → Rat} {row : Option Nat} {t : Nat} (h : VecQ w a n f) (hg : w.grownBy w' row) (hr : ∀ g, row = some g → Tg w t g) (ht : Nat.beq 3 t = false := by rfl) (hf : Nat.beq 86 t = false := by rfl) : VecQ w' a n f := by
  obtain ⟨cs, h1, h2, h3⟩ := h
  have hne : ∀ g, ab a = some g → row ≠ some g := fun g hga e => (h3 g hga).ne (hr g e) hf rfl
  exact ⟨cs, h1.push hg hr ht, h2.keep hg hne, fun g hga => (h3 g hga).grown hg (hne g hga)⟩
/-- Rows of fractions that agree with a matrix. -/
def RwsQ (w : World) (m n : Nat) (A : Nat → Option Addr) (C : Nat → Nat) (f : Nat → Nat → Rat) : Prop := ∀ i, i < m → VecQ w (A i) n (f i) ∧ n ≤ C i
theorem RwsQ.stay {w w' : World} {m n : Nat} {A : Nat → Option Addr} {C : Nat → Nat} {f : Nat → Nat → Rat} (h : RwsQ w m n A C f) (hb : Below w.heap.size w w') : RwsQ w' m n A C f := fun i hi => ⟨(h i hi).1.stay hb, (h i hi).2⟩
theorem RwsQ.push {w w' : World} {m n : Nat} {A : Nat → Option Addr} {C : Nat → Nat} {f : Nat → Nat → Rat} {row : Option Nat} {t : Nat} (h : RwsQ w m n A C f) (hg : w.grownBy w' row) (hr : ∀ g, row = some g → Tg w t g) (ht : Nat.beq 3 t = false := by rfl) (hf : Nat.beq 86 t = false := by rfl) : RwsQ w' m n A C f := fun i hi => ⟨(h i hi).1.push hg hr ht hf, (h i hi).2⟩
theorem RwsQ.snoc {w : World} {m n : Nat} {A : Nat → Option Addr} {C : Nat → Nat} {f : Nat → Nat → Rat} {a : Option Addr} {c : Nat} (h : RwsQ w m n A C f) (hv : VecQ w a n (f m)) (hc : n ≤ c) : RwsQ w (m + 1) n (upd A m a) (upd C m c) f := by
  intro i hi
  by_cases hm : i = m
  · subst hm; rw [upd_same, upd_same]; exact ⟨hv, hc⟩
  · rw [upd_ne _ _ hm, upd_ne _ _ hm]; exact h i (by omega)
theorem RwsQ.none (w : World) (n : Nat) (A : Nat → Option Addr) (C : Nat → Nat) (f : Nat → Nat → Rat) : RwsQ w 0 n A C f := fun i hi => absurd hi (by omega)
/-- Rows in blocks of their own: row j holds the first L j numbers of column j. -/
def OwnQ (w : World) (base n : Nat) (A : Nat → Option Addr) (L C : Nat → Nat) (f : Nat → Nat → Rat) : Prop :=
  (∀ j, j < n → ∃ cs, w.ownsRow base 86 3 (.slice (A j) (L j) (C j)) (L j) cs ∧ ElsQ w cs (L j) (f j)) ∧ ∀ j j', j < n → j' < n → j ≠ j' → ∀ g, ab (A j) = some g → ab (A j') ≠ some g
theorem OwnQ.keep {w w' : World} {base n t : Nat} {A : Nat → Option Addr} {L C : Nat → Nat} {f : Nat → Nat → Rat} {row : Option Nat} (h : OwnQ w base n A L C f) (hg : w.grownBy w' row) (hr : ∀ g, row = some g → Tg w t g) (ht : Nat.beq 3 t = false) (hf : Nat.beq 86 t = false) : OwnQ w' base n A L C f :=
  ⟨fun j hj => by
    obtain ⟨cs, h1, h2⟩ := h.1 j hj
    exact ⟨cs, own_keep h1 hg (fun g hga e => (own_tag h1 g hga).ne (hr g e) hf rfl), h2.push hg hr ht⟩, h.2⟩
theorem OwnQ.below {w w' : World} {base n : Nat} {A : Nat → Option Addr} {L C : Nat → Nat} {f : Nat → Nat → Rat} (h : OwnQ w base n A L C f) (hb : Below w.heap.size w w') : OwnQ w' base n A L C f :=
  ⟨fun j hj => by
    obtain ⟨cs, h1, h2⟩ := h.1 j hj
    exact ⟨cs, own_bw h1 hb, h2.stay hb⟩, h.2⟩
/-- A row grows by one number. -/
theorem OwnQ.grow {w w' : World} {base n k : Nat} {A : Nat → Option Addr} {L C : Nat → Nat} {f : Nat → Nat → Rat} {a' : Option Addr} {c' : Nat} {cs' : List Value} (h : OwnQ w base n A L C f) (hk : k < n) (hg : w.grownBy w' (ab (A k)))
    (ho : w'.ownsRow base 86 3 (.slice a' (L k + 1) c') (L k + 1) cs') (he : ElsQ w' cs' (L k + 1) (f k)) (hp : ab a' = ab (A k) ∨ ab a' = some w.heap.size) : OwnQ w' base n (upd A k a') (upd L k (L k + 1)) (upd C k c') f := by
  obtain ⟨csk, hok, hek⟩ := h.1 k hk
  have htag := own_tag hok
  have hlt : ∀ j, j < n → ∀ g, ab (A j) = some g → g < w.heap.size := fun j hj g hga => by
    obtain ⟨cs, h1, _⟩ := h.1 j hj
    exact (own_block h1 g hga).2
  refine ⟨fun j hj => ?_, fun j j' hj hj' hne g hga hga' => ?_⟩
  · by_cases hjk : j = k
    · subst hjk; rw [upd_same, upd_same, upd_same]; exact ⟨cs', ho, he⟩
    · rw [upd_ne _ _ hjk, upd_ne _ _ hjk, upd_ne _ _ hjk]
      obtain ⟨cs, h1, h2⟩ := h.1 j hj
      exact ⟨cs, own_keep h1 hg (fun g hga e => h.2 j k hj hk hjk g hga e), h2.push hg htag⟩
  · by_cases hjk : j = k
    · subst hjk
      rw [upd_same] at hga
      rw [upd_ne _ _ (fun e => hne e.symm)] at hga'
      rcases hp with hp | hp
      · exact h.2 j j' hj hj' hne g (hp ▸ hga) hga'
      · have := hlt j' hj' g hga'; rw [hga] at hp; cases hp; omega
    · rw [upd_ne _ _ hjk] at hga
      by_cases hjk' : j' = k
      · subst hjk'
        rw [upd_same] at hga'
        rcases hp with hp | hp
        · exact h.2 j j' hj hj' hne g hga (hp ▸ hga')
        · have := hlt j hj g hga; rw [hga'] at hp; cases hp; omega
      · rw [upd_ne _ _ hjk'] at hga'
        exact h.2 j j' hj hj' hne g hga hga'
/-- One more row, in a new block. -/
theorem OwnQ.snoc {w : World} {base i n : Nat} {A : Nat → Option Addr} {C : Nat → Nat} {f : Nat → Nat → Rat} {a : Option Addr} {c B : Nat} {cs : List Value} (h : OwnQ w base i A (fun _ => n) C f) (ho : w.ownsRow B 86 3 (.slice a n c) n cs) (he : ElsQ w cs n (f i)) (hB : base ≤ B)
    (hlt : ∀ j, j < i → ∀ g, ab (A j) = some g → g < B) : OwnQ w base (i + 1) (upd A i a) (fun _ => n) (upd C i c) f := by
  refine ⟨fun j hj => ?_, fun j j' hj hj' hne g hga hga' => ?_⟩
  · by_cases hji : j = i
    · subst hji; rw [upd_same, upd_same]; exact ⟨cs, own_mono2 ho hB, he⟩
    · rw [upd_ne _ _ hji, upd_ne _ _ hji]; exact h.1 j (by omega)
  · by_cases hji : j = i
    · subst hji
      rw [upd_same] at hga
      rw [upd_ne _ _ (fun e => hne e.symm)] at hga'
      have h1 := (own_block ho g hga).1
      have h2 := hlt j' (by omega) g hga'
      omega
    · rw [upd_ne _ _ hji] at hga
      by_cases hji' : j' = i
      · subst hji'
        rw [upd_same] at hga'
        have h1 := (own_block ho g hga').1
        have h2 := hlt j (by omega) g hga
        omega
      · rw [upd_ne _ _ hji'] at hga'
        exact h.2 j j' (by omega) (by omega) hne g hga hga'
theorem OwnQ.start (w : World) (base n : Nat) (f : Nat → Nat → Rat) : OwnQ w base n (fun _ => none) (fun _ => 0) (fun _ => 0) f :=
  ⟨fun j hj => ⟨[], ⟨rfl, .inl ⟨rfl, rfl⟩⟩, ElsQ.nil _ _⟩, fun j j' _ _ _ g h => by cases h⟩
theorem ElsQ.one {w : World} {cs : List Value} {n : Nat} {f : Nat → Rat} (h : ElsQ w cs n f) : ∀ u ∈ cs, u.oneCell' = true := by
  intro u hu
  obtain ⟨q, hq, rfl⟩ := List.getElem_of_mem hu
  have hl := h.1
  have hi : q / 3 < n := by omega
  obtain ⟨m, a1, n1, c1, a2, n2, c2, e⟩ := (h.2 (q / 3) hi).shape
  simp only [Value.agg.injEq, Array.mk.injEq] at e
  have h1 : (el cs (q / 3))[q % 3]? = some cs[q] := by
    unfold el
    rw [List.getElem?_take, if_pos (by omega), List.getElem?_drop, show q / 3 * 3 + q % 3 = q by omega, List.getElem?_eq_getElem hq]
  rw [e] at h1
  have hm := List.mem_of_getElem? h1
  simp at hm
  rcases hm with h | h | h <;> rw [h] <;> rfl
/-- A row grows by some numbers. -/
theorem OwnQ.growp {w w' : World} {base n k : Nat} {A : Nat → Option Addr} {L C : Nat → Nat} {f : Nat → Nat → Rat} {a' : Option Addr} {c' : Nat} {cs' : List Value} {q : Nat} (h : OwnQ w base n A L C f) (hk : k < n) (hg : w.grownBy w' (ab (A k)))
    (ho : w'.ownsRow base 86 3 (.slice a' (q) c') (q) cs') (he : ElsQ w' cs' (q) (f k)) (hp : ab a' = ab (A k) ∨ ab a' = some w.heap.size) : OwnQ w' base n (upd A k a') (upd L k (q)) (upd C k c') f := by
  obtain ⟨csk, hok, hek⟩ := h.1 k hk
  have htag := own_tag hok
  have hlt : ∀ j, j < n → ∀ g, ab (A j) = some g → g < w.heap.size := fun j hj g hga => by
    obtain ⟨cs, h1, _⟩ := h.1 j hj
    exact (own_block h1 g hga).2
  refine ⟨fun j hj => ?_, fun j j' hj hj' hne g hga hga' => ?_⟩
  · by_cases hjk : j = k
    · subst hjk; rw [upd_same, upd_same, upd_same]; exact ⟨cs', ho, he⟩
    · rw [upd_ne _ _ hjk, upd_ne _ _ hjk, upd_ne _ _ hjk]
      obtain ⟨cs, h1, h2⟩ := h.1 j hj
      exact ⟨cs, own_keep h1 hg (fun g hga e => h.2 j k hj hk hjk g hga e), h2.push hg htag⟩
  · by_cases hjk : j = k
    · subst hjk
      rw [upd_same] at hga
      rw [upd_ne _ _ (fun e => hne e.symm)] at hga'
      rcases hp with hp | hp
      · exact h.2 j j' hj hj' hne g (hp ▸ hga) hga'
      · have := hlt j' hj' g hga'; rw [hga] at hp; cases hp; omega
    · rw [upd_ne _ _ hjk] at hga
      by_cases hjk' : j' = k
      · subst hjk'
        rw [upd_same] at hga'
        rcases hp with hp | hp
        · exact h.2 j j' hj hj' hne g hga (hp ▸ hga')
        · have := hlt j hj g hga; rw [hga'] at hp; cases hp; omega
      · rw [upd_ne _ _ hjk'] at hga'
        exact h.2 j j' hj hj' hne g hga hga'
theorem ElsQ.congr {w : World} {cs : List Value} {n : Nat} {f g : Nat → Rat} (h : ElsQ w cs n f) (he : ∀ i, i < n → f i = g i) : ElsQ w cs n g := ⟨h.1, fun i hi => by rw [← he i hi]; exact h.2 i hi⟩
theorem ElsQ.app {w : World} {cs ds : List Value} {n p : Nat} {f g : Nat → Rat} (h : ElsQ w cs n f) (h' : ElsQ w ds p g) : ElsQ w (cs ++ ds) (n + p) (fun t => if t < n then f t else g (t - n)) := by
  refine ⟨by rw [List.length_append, h.1, h'.1]; omega, fun i hi => ?_⟩
  show QR w _ (if i < n then f i else g (i - n))
  by_cases hn : i < n
  · rw [el_app (by rw [h.1]; omega), if_pos hn]; exact h.2 i hn
  · rw [el_app2 h.1 (by omega), if_neg hn]; exact h'.2 (i - n) (by omega)
theorem ElsQ.set {w : World} {cs vs : List Value} {n j : Nat} {f : Nat → Rat} {x : Rat} (h : ElsQ w cs n f) (hj : j < n) (hx : QR w (.agg ⟨vs⟩) x) (hv : vs.length = 3) : ElsQ w (els cs j vs) n (upd f j x) := by
  have hl : j * 3 + 3 ≤ cs.length := by rw [h.1]; omega
  refine ⟨by rw [els_length hl hv]; exact h.1, fun i hi => ?_⟩
  rw [el_els hl hv (by rw [h.1]; omega)]
  by_cases hij : i = j
  · subst hij; rw [if_pos rfl, upd_same]; exact hx
  · rw [if_neg hij, upd_ne _ _ hij]; exact h.2 i hi
theorem OwnQ.congr {w : World} {base n : Nat} {A : Nat → Option Addr} {L C : Nat → Nat} {f g : Nat → Nat → Rat} (h : OwnQ w base n A L C f) (he : ∀ i, i < n → ∀ t, t < L i → f i t = g i t) : OwnQ w base n A L C g :=
  ⟨fun j hj => by
    obtain ⟨cs, h1, h2⟩ := h.1 j hj
    exact ⟨cs, h1, h2.congr (he j hj)⟩, h.2⟩
/-- A row's numbers are replaced where they lie. -/
theorem OwnQ.put {w w' : World} {base n k : Nat} {A : Nat → Option Addr} {L C : Nat → Nat} {f : Nat → Nat → Rat} {f' : Nat → Rat} {cs' : List Value} (h : OwnQ w base n A L C f) (hk : k < n) (hg : w.grownBy w' (ab (A k)))
    (ho : w'.ownsRow base 86 3 (.slice (A k) (L k) (C k)) (L k) cs') (he : ElsQ w' cs' (L k) f') : OwnQ w' base n A L C (upd f k f') := by
  obtain ⟨csk, hok, hek⟩ := h.1 k hk
  have htag := own_tag hok
  refine ⟨fun j hj => ?_, h.2⟩
  by_cases hjk : j = k
  · subst hjk; rw [upd_same]; exact ⟨cs', ho, he⟩
  · rw [upd_ne _ _ hjk]
    obtain ⟨cs, h1, h2⟩ := h.1 j hj
    exact ⟨cs, own_keep h1 hg (fun g hga e => h.2 j k hj hk hjk g hga e), h2.push hg htag⟩
/-- Two rows change places. -/
theorem OwnQ.swap {w : World} {base m n r i : Nat} {A : Nat → Option Addr} {C : Nat → Nat} {f : Nat → Nat → Rat} (h : OwnQ w base m A (fun _ => n) C f) (hr : r < m) (hi : i < m) :
    OwnQ w base m (upd (upd A r (A i)) i (A r)) (fun _ => n) (upd (upd C r (C i)) i (C r)) (swp r i f) := by
  have key : ∀ j, ∃ j', (j < m → j' < m) ∧ upd (upd A r (A i)) i (A r) j = A j' ∧ upd (upd C r (C i)) i (C r) j = C j' ∧ swp r i f j = f j' ∧ j' = (if j = i then r else if j = r then i else j) := by
    intro j
    refine ⟨if j = i then r else if j = r then i else j, ?_, ?_, ?_, ?_, rfl⟩
    · intro hj; split
      · exact hr
      · split
        · exact hi
        · exact hj
    · unfold upd; split
      · rfl
      · split <;> rfl
    · unfold upd; split
      · rfl
      · split <;> rfl
    · unfold swp
      by_cases h1 : j = i
      · subst h1
        rw [if_pos rfl, if_pos rfl]
        split
        · rename_i h2; rw [h2]
        · rfl
      · rw [if_neg h1, if_neg h1]
        split <;> rfl
  refine ⟨fun j hj => ?_, fun j j' hj hj' hne g hga hga' => ?_⟩
  · obtain ⟨q, h1, h2, h3, h4, _⟩ := key j
    rw [h2, h3, h4]; exact h.1 q (h1 hj)
  · obtain ⟨q, h1, h2, _, _, hq⟩ := key j
    obtain ⟨q', h1', h2', _, _, hq'⟩ := key j'
    rw [h2] at hga
    rw [h2'] at hga'
    refine h.2 q q' (h1 hj) (h1' hj') ?_ g hga hga'
    rw [hq, hq']
    split <;> split <;> (try split) <;> (try split) <;> omega
end Go.Proofs.YtejlpdbiacmfcaaGreatDoor
end
section
set_option linter.unusedSimpArgs false
set_option linter.unusedVariables false
set_option maxHeartbeats 2000000
namespace Go.Proofs.YtejlpdbiacmfcaaGreatDoor
open Go Go.Proofs Go.RowKit Go.Lib

end Go.Proofs.YtejlpdbiacmfcaaGreatDoor
end
section
set_option linter.unusedSimpArgs false
set_option linter.unusedVariables false
set_option maxHeartbeats 2000000
namespace Go.Proofs.YtejlpdbiacmfcaaGreatDoor
open Go Go.Proofs Go.RowKit Go.Lib

end Go.Proofs.YtejlpdbiacmfcaaGreatDoor
end
section
set_option linter.unusedSimpArgs false
set_option linter.unusedVariables false
set_option maxHeartbeats 2000000
namespace Go.Proofs.YtejlpdbiacmfcaaGreatDoor
open Go Go.Proofs Go.RowKit Go.Lib

end Go.Proofs.YtejlpdbiacmfcaaGreatDoor
end
section
set_option linter.unusedSimpArgs false
set_option linter.unusedVariables false
set_option maxHeartbeats 2000000
namespace Go.Proofs.YtejlpdbiacmfcaaGreatDoor
open Go Go.Proofs Go.RowKit Go.Lib


end Go.Proofs.YtejlpdbiacmfcaaGreatDoor
end
section
set_option linter.unusedSimpArgs false
set_option linter.unusedVariables false
set_option maxHeartbeats 4000000
namespace Go.Proofs.YtejlpdbiacmfcaaGreatDoor
open Go Go.Proofs Go.RowKit Go.Lib

theorem VecQ.congr {w : World} {a : Option Addr} {n : Nat} {f g : Nat → Rat} (h : VecQ w a n f) (he : ∀ i, i < n → f i = g i) : VecQ w a n g := by
  obtain ⟨cs, h1, h2, h3⟩ := h
  exact ⟨cs, h1.congr he, h2, h3⟩
theorem RwsQ.congr {w : World} {m n : Nat} {A : Nat → Option Addr} {C : Nat → Nat} {f g : Nat → Nat → Rat} (h : RwsQ w m n A C f) (he : ∀ i, i < m → ∀ t, t < n → f i t = g i t) : RwsQ w m n A C g :=
  fun i hi => ⟨(h i hi).1.congr (he i hi), (h i hi).2⟩
theorem RwsQ.set {w : World} {m n : Nat} {A : Nat → Option Addr} {C : Nat → Nat} {f : Nat → Nat → Rat} {a : Option Addr} {c r : Nat} {f' : Nat → Rat} (h : RwsQ w m n A C f) (hv : VecQ w a n f') (hc : n ≤ c) : RwsQ w m n (upd A r a) (upd C r c) (upd f r f') := by
  intro i hi
  by_cases hir : i = r
  · subst hir; rw [upd_same, upd_same, upd_same]; exact ⟨hv, hc⟩
  · rw [upd_ne _ _ hir, upd_ne _ _ hir, upd_ne _ _ hir]; exact h i hi
theorem RwsQ.swap {w : World} {m n r i : Nat} {A : Nat → Option Addr} {C : Nat → Nat} {f : Nat → Nat → Rat} (h : RwsQ w m n A C f) (hr : r < m) (hi : i < m) : RwsQ w m n (upd (upd A r (A i)) i (A r)) (upd (upd C r (C i)) i (C r)) (swp r i f) := by
  intro j hj
  by_cases hji : j = i
  · subst hji
    rw [upd_same, upd_same]
    have : swp r j f j = f r := by
      unfold swp
      rw [if_pos rfl]
      split
      · rename_i h2; rw [h2]
      · rfl
    rw [this]; exact h r hr
  · rw [upd_ne _ _ hji, upd_ne _ _ hji]
    by_cases hjr : j = r
    · subst hjr
      rw [upd_same, upd_same]
      have : swp j i f j = f i := by unfold swp; rw [if_pos rfl]
      rw [this]; exact h i hi
    · rw [upd_ne _ _ hjr, upd_ne _ _ hjr]
      have : swp r i f j = f j := by unfold swp; rw [if_neg hjr, if_neg hji]
      rw [this]; exact h j hj

/-- What holds while the reference eliminates. -/
def RdqI (w w' : World) (base go c m n : Nat) (A : Nat → Option Addr) (C : Nat → Nat) (g : Mx) : Prop :=
  w'.ownsRow base 169 1 (.slice (some ⟨go, 0, none⟩) m c) m (rws m n A C) ∧ RwsQ w' m n A C g ∧ Below base w w'
theorem RdqI.step {w w1 w2 : World} {base go c m n : Nat} {A : Nat → Option Addr} {C : Nat → Nat} {g : Mx} (h : RdqI w w1 base go c m n A C g) (hb : Below w1.heap.size w1 w2) (hbase : base ≤ w.heap.size) : RdqI w w2 base go c m n A C g :=
  ⟨own_bw h.1 hb, h.2.1.stay hb, bl_base h.2.2 hb hbase⟩
theorem RdqI.congr {w w1 : World} {base go c m n : Nat} {A : Nat → Option Addr} {C : Nat → Nat} {g g' : Mx} (h : RdqI w w1 base go c m n A C g) (he : ∀ i, i < m → ∀ t, t < n → g i t = g' i t) : RdqI w w1 base go c m n A C g' :=
  ⟨h.1, h.2.1.congr he, h.2.2⟩
/-- A row's place is taken by another. -/
theorem RdqI.put {w w1 w2 : World} {base go c m n r : Nat} {A : Nat → Option Addr} {C : Nat → Nat} {g : Mx} {a : Option Addr} {d : Nat} {f' : Nat → Rat} (h : RdqI w w1 base go c m n A C g) (hr : r < m) (hv : VecQ w1 a n f') (hd : n ≤ d)
    (ho : w2.ownsRow base 169 1 (.slice (some ⟨go, 0, none⟩) m c) m ((rws m n A C).set r (.slice a n d))) (hg : w1.grownBy w2 (some go)) (hbase : base ≤ w.heap.size) : RdqI w w2 base go c m n (upd A r a) (upd C r d) (upd g r f') := by
  have htg : ∀ q, some go = some q → Tg w1 169 q := fun q e => by cases e; exact own_tag h.1 go rfl
  rw [rws_set hr] at ho
  exact ⟨ho, (h.2.1.push hg htg).set (hv.push hg htg) hd, h.2.2.grown hg (Nat.le_trans hbase h.2.2.size) (fun q e => by cases e; exact (own_block h.1 go rfl).1)⟩
/-- A row of numbers is somewhere. -/
theorem VecQ.at {w : World} {a : Option Addr} {n : Nat} {f : Nat → Rat} (h : VecQ w a n f) (hn : 0 < n) : ∃ g o cs, a = some ⟨g, o, none⟩ ∧ ElsQ w cs n f ∧ Sl w (some ⟨g, o, none⟩) cs ∧ g < w.heap.size := by
  obtain ⟨cs, h1, h2, h3⟩ := h
  obtain ⟨g, o, rfl, _⟩ := h2.at (j := 0) (by rw [h1.1]; omega)
  exact ⟨g, o, cs, rfl, h1, h2, (h3 g rfl).lt⟩

end Go.Proofs.YtejlpdbiacmfcaaGreatDoor
end
section
set_option linter.unusedSimpArgs false
set_option linter.unusedVariables false
set_option maxHeartbeats 4000000
namespace Go.Proofs.YtejlpdbiacmfcaaGreatDoor
open Go Go.Proofs Go.RowKit Go.Lib

end Go.Proofs.YtejlpdbiacmfcaaGreatDoor
end
section
set_option linter.unusedSimpArgs false
set_option linter.unusedVariables false
set_option maxHeartbeats 4000000
namespace Go.Proofs.YtejlpdbiacmfcaaGreatDoor
open Go Go.Proofs Go.RowKit Go.Lib

end Go.Proofs.YtejlpdbiacmfcaaGreatDoor
end
section
set_option linter.unusedSimpArgs false
set_option linter.unusedVariables false
set_option maxHeartbeats 4000000
namespace Go.Proofs.YtejlpdbiacmfcaaGreatDoor
open Go Go.Proofs Go.RowKit Go.Lib

end Go.Proofs.YtejlpdbiacmfcaaGreatDoor
end
section
set_option linter.unusedSimpArgs false
set_option linter.unusedVariables false
set_option maxHeartbeats 2000000
namespace Go.Proofs.YtejlpdbiacmfcaaGreatDoor
open Go Go.Proofs Go.RowKit Go.Lib

/-- At most 7 light rows. -/
def LtM (xss : List (List Tx)) : Prop := xss.length ≤ 7 ∧ ∀ i, i < xss.length → RowL (rw' xss i)
theorem RowL.small {ys : List Tx} (h : RowL ys) (he : VErr ys 0) : ∀ i, i < ys.length → Small 12 (vval ys i) := fun i hi => q_len_small (he.qok i hi) (h.2 i hi)
theorem LtM.small {xss : List (List Tx)} (h : LtM xss) (he : XErr xss 0) : ∀ i t, i < xss.length → t < (rw' xss 0).length → Small 12 (mval xss i t) := fun i t hi ht =>
  q_len_small (he.rows.2 i hi t ht) ((h.2 i hi).2 t (by rw [he.rows.1 i hi]; exact ht))
theorem LtM.cols {xss : List (List Tx)} (h : LtM xss) (he : XErr xss 0) : (rw' xss 0).length ≤ 6 := (h.2 0 he.ok.1).1
theorem grw_at {n k L B : Nat} (hn : n ≤ k) (hB : grw k L ≤ B) : grw n L ≤ B := Nat.le_trans (grw_mono L hn) hB
theorem grw_mono2 {L M : Nat} (h : L ≤ M) : ∀ k, grw k L ≤ grw k M
  | 0 => h
  | k + 1 => by have := grw_mono2 h k; rw [grw, grw]; omega

def VChk (ys : List Tx) : Prop := 0 < ys.length ∧ ys.length ≤ 64 ∧ ∀ j, j < ys.length → QChk (ys.getD j [])
instance (ys : List Tx) : Decidable (VChk ys) := by unfold VChk; infer_instance
theorem VChk.ok {ys : List Tx} (h : VChk ys) : VErr ys 0 := .inr (.inr (.inr ⟨h.1, h.2.1, fun j hj => qok_chk (h.2.2 j hj), rfl⟩))
def XChk (xss : List (List Tx)) : Prop := 0 < xss.length ∧ xss.length ≤ 64 ∧ ∀ i, i < xss.length → (rw' xss i).length = (rw' xss 0).length ∧ VChk (rw' xss i)
instance (xss : List (List Tx)) : Decidable (XChk xss) := by unfold XChk; infer_instance
theorem XChk.ok {xss : List (List Tx)} (h : XChk xss) : XErr xss 0 :=
  .inr (.inr (.inr ⟨h.1, (h.2.2 0 h.1).2.1, h.2.1, (h.2.2 0 h.1).2.2.1, fun i hi => ⟨(h.2.2 i hi).1, (h.2.2 i hi).2.ok⟩, rfl⟩))
theorem txs_back {ys : List Tx} (h : VErr ys 0) : txs ys.length (vval ys) = ys := by
  apply List.ext_getElem (txs_length _ _)
  intro i h1 h2
  have e := q_text_back (h.qok i h2)
  simp only [txs, List.getElem_map, List.getElem_range, vval]
  rw [e]; simp [List.getD, h2]
theorem mtx_back {xss : List (List Tx)} (h : XErr xss 0) : mtx xss.length (rw' xss 0).length (mval xss) = xss := by
  apply List.ext_getElem (mtx_length _ _ _)
  intro i h1 h2
  have hr := h.ok.2.2.2.2 i h2
  have e := txs_back hr.2
  have hg : xss[i] = rw' xss i := by simp [rw', List.getD, h2]
  rw [hr.1] at e
  simp only [mtx, List.getElem_map, List.getElem_range]
  rw [hg]; exact e
theorem TxtS.lit {zs : List Tx} {n : Nat} {f : Nat → Rat} (hz : VErr zs 0) (hn : zs.length = n) (hf : ∀ i, i < n → f i = vval zs i) : TxtS n f zs 0 := by
  subst hn
  exact TxtS.congr (f := vval zs) (.inr ⟨hz.small, (txs_back hz).symm, rfl⟩) (fun i hi => (hf i hi).symm)
theorem MtxS.lit {zss : List (List Tx)} {m n : Nat} {f : Mx} (hz : XErr zss 0) (hm : zss.length = m) (hn : (rw' zss 0).length = n) (hf : ∀ i, i < m → ∀ k, k < n → f i k = mval zss i k) : MtxS m n f zss 0 := by
  subst hm; subst hn
  exact MtxS.congr (f := mval zss) (.inr ⟨hz.small, (mtx_back hz).symm, rfl⟩) (fun i hi k hk => (hf i hi k hk).symm)
instance (ys : List Tx) : Decidable (RowL ys) := by unfold RowL; infer_instance
instance (xss : List (List Tx)) : Decidable (LtM xss) := by unfold LtM; infer_instance
end Go.Proofs.YtejlpdbiacmfcaaGreatDoor
end
section
set_option linter.unusedSimpArgs false
set_option linter.unusedVariables false
set_option maxHeartbeats 4000000
namespace Go.Proofs.YtejlpdbiacmfcaaGreatDoor
open Go Go.Proofs Go.RowKit Go.Lib

/-- A value that is a list of texts. -/
def Lit (w : World) (v : Value) (xs : List Tx) : Prop := ∃ a c, v = .slice a xs.length c ∧ Sl w a (strs xs)
theorem Lit.stay {w w' : World} {v : Value} {xs : List Tx} (h : Lit w v xs) (hb : Below w.heap.size w w') : Lit w' v xs := by
  obtain ⟨a, c, rfl, h1⟩ := h
  exact ⟨a, c, rfl, h1.stay hb⟩
theorem lit_bk {w : World} {g n c : Nat} {t : TypeId} {xs : List Tx} (h : Bk w g t (strs xs)) (hn : n = xs.length) : Lit w (.slice (some ⟨g, 0, none⟩) n c) xs :=
  ⟨some ⟨g, 0, none⟩, c, by rw [hn], h.sl 0⟩
theorem Lit.sl {w : World} {a : Option Addr} {n c : Nat} {xs : List Tx} (h : Lit w (.slice a n c) xs) : Sl w a (strs xs) ∧ n = xs.length := by
  obtain ⟨a', c', e, h1⟩ := h
  simp only [Value.slice.injEq] at e
  obtain ⟨rfl, rfl, rfl⟩ := e
  exact ⟨h1, rfl⟩
def vadr : Option Value → Option Addr | some (.slice a _ _) => a | _ => none
def vcap : Option Value → Nat | some (.slice _ _ c) => c | _ => 0
section
variable {xss yss zss : List (List Tx)} {ys zs : List Tx} {e : Int}
theorem nsame_x {xs zs' : List Tx} (a b : Option Addr) (c d m n : Nat) (w : World) (h1 : Lit w (.slice a m c) xs) (h2 : Lit w (.slice b n d) zs') (hx : xs.length ≤ 1099511627776) (hy : zs'.length ≤ 1099511627776) :
    Calls Tryz.prog 16 #[.slice a m c, .slice b n d] w (Ret fun v w' => v = .bool (decide (xs = zs')) ∧ Below w.heap.size w w') := by
  obtain ⟨g1, rfl⟩ := h1.sl
  obtain ⟨k1, rfl⟩ := h2.sl
  exact nsame_calls xs zs' a b c d w g1 k1 hx hy
end

end Go.Proofs.YtejlpdbiacmfcaaGreatDoor
end
section
set_option linter.unusedSimpArgs false
set_option linter.unusedVariables false
set_option maxHeartbeats 2000000
namespace Go.Proofs.YtejlpdbiacmfcaaGreatDoor
open Go Go.Proofs Go.RowKit Go.Lib

theorem LightM.row {xss : List (List Tx)} {xs : List Tx} (h : LightM xss [xs]) : RowL xs := by
  have := h.1 xss.length (by rw [List.length_append, List.length_singleton]; omega)
  rwa [rw_app2] at this
theorem VOut.lit {ys : List Tx} {e : Int} {v : Value} {w : World} (h : VOut ys e v w) : ∃ a c, v = .tuple ⟨[.slice a ys.length c, .int .i64 e]⟩ ∧ Lit w (.slice a ys.length c) ys := by
  obtain ⟨a, c, h1, h2, _, h4⟩ := h
  exact ⟨a, c, h1, a, c, rfl, h2⟩
theorem IdR.out {n : Int} {v : Value} {w : World} (h : IdR n v w) : ∃ a c ys, v = .slice a ys.length c ∧ SM w a ys ∧ Lens ys ∧ ((n < 1 ∨ 64 < n) ∧ ys = [] ∨ (1 ≤ n ∧ n ≤ 64) ∧ ys = mtx n.toNat n.toNat idn) := by
  rcases h with ⟨h1, rfl⟩ | ⟨h1, h2, a, c, rfl, h3⟩
  · exact ⟨none, 0, [], rfl, SM.nil w, nil_lens, .inl ⟨h1, rfl⟩⟩
  · exact ⟨a, c, mtx n.toNat n.toNat idn, by rw [mtx_length], h3, mtx_lens (by omega) (by omega) (fun i _ k _ => small_mono (idn_small i k) (by omega)), .inr ⟨⟨h1, h2⟩, rfl⟩⟩


section
variable {m n p : Nat} {f g : Mx}
end
/-- What the solver answers at numbers. -/
def SolvedR (n : Nat) (f : Mx) (b : Nat → Rat) (v : Value) (w : World) : Prop :=
  ((gj n f n).2 ≠ n ∧ ∃ a c, v = .tuple ⟨[.slice a 0 c, .int .i64 17]⟩) ∨
  ((gj n f n).2 = n ∧ ∃ x a c, (∀ i, i < n → mapp n f x i = b i) ∧ (∀ i, i < n → Small 4000 (x i)) ∧ v = .tuple ⟨[.slice a n c, .int .i64 0]⟩ ∧ Lit w (.slice a n c) (txs n x))
theorem SlvS.solved {n : Nat} {f : Mx} {b : Nat → Rat} {zs : List Tx} {e : Int} {v : Value} {w : World} (h : SlvS n f b zs e) (ho : VOut zs e v w) (hsol : ∀ x, (∀ i, i < n → mapp n f x i = b i) → (gj n f n).2 = n → ∀ i, i < n → Small 4000 (x i)) : SolvedR n f b v w := by
  obtain ⟨a, c, rfl, hl⟩ := ho.lit
  rcases h with ⟨h1, rfl, rfl⟩ | ⟨h1, x, h2, h3⟩
  · exact .inl ⟨h1, a, c, rfl⟩
  · have hs := hsol x h2 h1
    rcases h3 with ⟨⟨i, hi, h4⟩, _⟩ | ⟨_, rfl, rfl⟩
    · exact absurd (hs i hi) h4
    · rw [txs_length] at hl ⊢
      exact .inr ⟨h1, x, a, c, h2, hs, rfl, hl⟩
end Go.Proofs.YtejlpdbiacmfcaaGreatDoor
end
