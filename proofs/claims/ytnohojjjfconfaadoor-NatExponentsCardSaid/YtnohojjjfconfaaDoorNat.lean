/-
  Walks of package nat: Check, first, result.
  Conditions: texts take fewer than 2^40 bytes; numbers fewer than 2^36 limbs; the library's table of powers of ten is laid.
-/
import Derived.Test.YtnohojjjfconfaaDoorForm
set_option linter.unusedSimpArgs false
set_option linter.unusedVariables false
set_option maxHeartbeats 1000000
namespace Go.Proofs.YtnohojjjfconfaaDoor
open Go Go.Proofs Go.RowKit Go.Lib

/-- What Check says of a text. -/
def Chk (l : List UInt8) (e : Int) : Prop := (Form l ∧ l.length ≤ 4000 ∧ e = 0) ∨ (Form l ∧ 4000 < l.length ∧ e = 5) ∨ (¬ Form l ∧ e = 3)

theorem check_calls (l : List UInt8) (hl : l.length ≤ 1099511627776) (w : World) :
    Calls Tryd.prog 16 #[.string ⟨⟨l⟩⟩] w (Ret fun v w' => (∃ e, v = .int .i64 e ∧ Chk l e) ∧ Below w.heap.size w w') := by
  refine enter Tryd.func16 rfl Tryd.ntmps16 (Nat.le_of_ble_eq_true rfl) ?_
  refine dr U 600 rfl trivial ?_
  refine call (f := 33) rfl rfl cb33 (form_calls l hl w) ?_
  rintro v w1 ⟨⟨b, rfl, hb⟩, hB⟩
  refine ⟨_, rfl, ?_⟩
  cases b with
  | true =>
    have hf := hb.1 rfl
    refine dr U 600 rfl trivial ?_
    refine cS rfl rfl rfl rfl (fun hq => ?_) (fun hq => ?_)
    · refine dr U 600 rfl trivial ?_
      exact ret Tryd.results16 rfl ⟨_, rfl, ⟨5, rfl, .inr (.inl ⟨hf, by omega, rfl⟩)⟩, hB⟩
    · refine dr U 600 rfl trivial ?_
      exact ret Tryd.results16 rfl ⟨_, rfl, ⟨0, rfl, .inl ⟨hf, by omega, rfl⟩⟩, hB⟩
  | false =>
    have hf : ¬ Form l := fun h => by have := hb.2 h; cases this
    refine dr U 600 rfl trivial ?_
    exact ret Tryd.results16 rfl ⟨_, rfl, ⟨3, rfl, .inr (.inr ⟨hf, rfl⟩)⟩, hB⟩

/-- The result of a computation: the digits of a number, if they are not too many. -/
def Res (n : Nat) (v : Value) : Prop := (nDigits n ≤ 4000 ∧ v = .tuple ⟨[.string ⟨⟨decDigits n⟩⟩, .int .i64 0]⟩) ∨ (4000 < nDigits n ∧ v = .tuple ⟨[.string ⟨⟨[]⟩⟩, .int .i64 5]⟩)

theorem result_calls (n : Nat) (a : Option Addr) (c : Nat) (w : World) (ha : Rd w a c (lim n)) (hl : (lim n).length ≤ 68719476736) (ht : TabOk w) :
    Calls Tryd.prog 23 #[.slice a (lim n).length c] w (Ret fun v w' => Res n v ∧ Below w.heap.size w w') := by
  refine enter Tryd.func23 rfl Tryd.ntmps23 (Nat.le_of_ble_eq_true rfl) ?_
  refine dr U 600 rfl trivial ?_
  refine call (f := 44) rfl rfl cb44 (digits_calls n a c w ha hl ht) ?_
  rintro v w1 ⟨rfl, hB1⟩
  refine ⟨_, rfl, ?_⟩
  refine cS rfl rfl rfl rfl (fun hq => ?_) (fun hq => ?_)
  · refine dr U 600 rfl trivial ?_
    exact ret Tryd.results23 rfl ⟨_, rfl, .inr ⟨by omega, rfl⟩, hB1⟩
  · refine dr U 600 rfl trivial ?_
    refine call (f := 30) rfl rfl cb30 (string_calls n a c w1 (ha.below hB1) hl (ht.below hB1)) ?_
    rintro v w2 ⟨rfl, hB2⟩
    refine ⟨_, rfl, ?_⟩
    refine dr U 600 rfl trivial ?_
    exact ret Tryd.results23 rfl ⟨_, rfl, .inl ⟨by omega, rfl⟩, bl_tr hB1 hB2 hB1.size⟩

theorem first_calls (x y : Int) (b : Nat) (w : World) (hk : Sl w (some ⟨b, 0, none⟩) [.int .i64 x, .int .i64 y]) :
    Calls Tryd.prog 31 #[.slice (some ⟨b, 0, none⟩) 2 2] w (Ret fun v w' => v = .int .i64 (if x ≠ 0 then x else y) ∧ w = w') := by
  refine enter Tryd.func31 rfl Tryd.ntmps31 (Nat.le_of_ble_eq_true rfl) ?_
  refine dr U 600 rfl trivial ?_
  refine loopR (fun l w' m => ∃ i : Nat, l = [(6, .slice (some ⟨b, 0, none⟩) 2 2), (7, .int .i64 2), (8, .int .i64 (i : Nat)), (3, .int .i64 0)] ∧ i ≤ 2 ∧ (1 ≤ i → x = 0) ∧ (2 ≤ i → y = 0) ∧ w = w' ∧ m = 2 - i) ⟨0, rfl, by omega, fun h => by omega, fun h => by omega, rfl, rfl⟩ ⟨rfl, rfl, rfl, rfl, trivial⟩ ?_
  rintro l w1 m ⟨i, rfl, hi, h1, h2, rfl, rfl⟩
  refine dr U 600 rfl trivial ?_
  refine cS rfl rfl rfl rfl (fun hq => ?_) (fun hq => ?_)
  · have hi2 : i = 0 ∨ i = 1 := by omega
    refine dr U 600 rfl trivial ?_
    obtain rfl | rfl := hi2
    · refine il U rfl rfl rfl rfl rfl rfl rfl (fun _ => rfl) rfl 0 (by omega) (show 0 < 2 by decide) hk rfl ?_
      refine dr U 600 rfl trivial ?_
      refine cS rfl rfl rfl rfl (fun hq => ?_) (fun hq => ?_)
      · refine dr U 600 rfl trivial ?_
        refine ret Tryd.results31 rfl ⟨_, rfl, ?_, rfl⟩
        rw [if_pos hq]; rfl
      · refine dr U 600 rfl (by first | exact True.intro | (simp only [AllP, InR, List.nil_append, List.cons_append, and_true]; omega)) ?_
        exact rend _ 1 ⟨1, rfl, by omega, fun _ => Classical.not_not.1 hq, fun h => by omega, rfl, rfl⟩ (by omega) ⟨rfl, rfl, rfl, rfl, trivial⟩
    · refine il U rfl rfl rfl rfl rfl rfl rfl (fun _ => rfl) rfl 1 (by omega) (show 1 < 2 by decide) hk rfl ?_
      refine dr U 600 rfl trivial ?_
      refine cS rfl rfl rfl rfl (fun hq => ?_) (fun hq => ?_)
      · refine dr U 600 rfl trivial ?_
        refine ret Tryd.results31 rfl ⟨_, rfl, ?_, rfl⟩
        rw [if_neg (by have := h1 (by omega); omega)]; rfl
      · refine dr U 600 rfl (by first | exact True.intro | (simp only [AllP, InR, List.nil_append, List.cons_append, and_true]; omega)) ?_
        exact rend _ 0 ⟨2, rfl, by omega, fun _ => h1 (by omega), fun _ => Classical.not_not.1 hq, rfl, rfl⟩ (by omega) ⟨rfl, rfl, rfl, rfl, trivial⟩
  · have := h1 (by omega)
    have h3 := h2 (by omega)
    refine dr U 600 rfl trivial ?_
    refine ret Tryd.results31 rfl ⟨_, rfl, ?_, rfl⟩
    rw [this, h3]; rfl
end Go.Proofs.YtnohojjjfconfaaDoor
