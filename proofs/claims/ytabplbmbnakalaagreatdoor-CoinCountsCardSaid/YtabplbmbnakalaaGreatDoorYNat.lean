/-
  Walks of package nat: Check, first, result.
  Conditions: texts take fewer than 2^40 bytes; numbers fewer than 2^36 limbs; the library's table of powers of ten is laid.

  Walk of package nat: pair, which reads two texts and computes with their numbers.
  Conditions: texts take fewer than 2^40 bytes.

  Walks of package nat: Add, Mul, Gcd, Sub.
  Conditions: texts take fewer than 2^40 bytes; the library's table of powers of ten is laid.

  Walks of package nat: Cmp, Pow, Sub.
  Conditions: texts take fewer than 2^40 bytes; the library's table of powers of ten is laid.

  Walks of package nat: Sub, DivMod.
  Conditions: texts take fewer than 2^40 bytes; the library's table of powers of ten is laid.

  Walk of package nat: DivMod.
  Conditions: texts take fewer than 2^40 bytes; the library's table of powers of ten is laid.
-/
import Derived.Test.YtabplbmbnakalaaGreatDoorYPar
section
set_option linter.unusedSimpArgs false
set_option linter.unusedVariables false
set_option maxHeartbeats 1000000
namespace Go.Proofs.YtabplbmbnakalaaGreatDoor
open Go Go.Proofs Go.RowKit Go.Lib

/-- What Check says of a text. -/
def Chk (l : List UInt8) (e : Int) : Prop := (Form l ∧ l.length ≤ 4000 ∧ e = 0) ∨ (Form l ∧ 4000 < l.length ∧ e = 5) ∨ (¬ Form l ∧ e = 3)

theorem check_calls (l : List UInt8) (hl : l.length ≤ 1099511627776) (w : World) :
    Calls Tryz.prog 87 #[.string ⟨⟨l⟩⟩] w (Ret fun v w' => (∃ e, v = .int .i64 e ∧ Chk l e) ∧ Below w.heap.size w w') := by
  refine enter Tryz.func87 rfl Tryz.ntmps87 (Nat.le_of_ble_eq_true rfl) ?_
  refine dr U 600 rfl trivial ?_
  refine call (f := 111) rfl rfl cb111 (form_calls l hl w) ?_
  rintro v w1 ⟨⟨b, rfl, hb⟩, hB⟩
  refine ⟨_, rfl, ?_⟩
  cases b with
  | true =>
    have hf := hb.1 rfl
    refine dr U 600 rfl trivial ?_
    refine cS rfl rfl rfl rfl (fun hq => ?_) (fun hq => ?_)
    · refine dr U 600 rfl trivial ?_
      exact ret Tryz.results87 rfl ⟨_, rfl, ⟨5, rfl, .inr (.inl ⟨hf, by omega, rfl⟩)⟩, hB⟩
    · refine dr U 600 rfl trivial ?_
      exact ret Tryz.results87 rfl ⟨_, rfl, ⟨0, rfl, .inl ⟨hf, by omega, rfl⟩⟩, hB⟩
  | false =>
    have hf : ¬ Form l := fun h => by have := hb.2 h; cases this
    refine dr U 600 rfl trivial ?_
    exact ret Tryz.results87 rfl ⟨_, rfl, ⟨3, rfl, .inr (.inr ⟨hf, rfl⟩)⟩, hB⟩

/-- The result of a computation: the digits of a number, if they are not too many. -/
def Res (n : Nat) (v : Value) : Prop := (nDigits n ≤ 4000 ∧ v = .tuple ⟨[.string ⟨⟨decDigits n⟩⟩, .int .i64 0]⟩) ∨ (4000 < nDigits n ∧ v = .tuple ⟨[.string ⟨⟨[]⟩⟩, .int .i64 5]⟩)

theorem result_calls (n : Nat) (a : Option Addr) (c : Nat) (w : World) (ha : Rd w a c (lim n)) (hl : (lim n).length ≤ 68719476736) (ht : TabOk w) :
    Calls Tryz.prog 94 #[.slice a (lim n).length c] w (Ret fun v w' => Res n v ∧ Below w.heap.size w w') := by
  refine enter Tryz.func94 rfl Tryz.ntmps94 (Nat.le_of_ble_eq_true rfl) ?_
  refine dr U 600 rfl trivial ?_
  refine call (f := 130) rfl rfl cb130 (digits_calls n a c w ha hl ht) ?_
  rintro v w1 ⟨rfl, hB1⟩
  refine ⟨_, rfl, ?_⟩
  refine cS rfl rfl rfl rfl (fun hq => ?_) (fun hq => ?_)
  · refine dr U 600 rfl trivial ?_
    exact ret Tryz.results94 rfl ⟨_, rfl, .inr ⟨by omega, rfl⟩, hB1⟩
  · refine dr U 600 rfl trivial ?_
    refine call (f := 99) rfl rfl cb99 (string_calls n a c w1 (ha.below hB1) hl (ht.below hB1)) ?_
    rintro v w2 ⟨rfl, hB2⟩
    refine ⟨_, rfl, ?_⟩
    refine dr U 600 rfl trivial ?_
    exact ret Tryz.results94 rfl ⟨_, rfl, .inl ⟨by omega, rfl⟩, bl_tr hB1 hB2 hB1.size⟩

theorem first_calls (x y : Int) (b : Nat) (w : World) (hk : Sl w (some ⟨b, 0, none⟩) [.int .i64 x, .int .i64 y]) :
    Calls Tryz.prog 86 #[.slice (some ⟨b, 0, none⟩) 2 2] w (Ret fun v w' => v = .int .i64 (if x ≠ 0 then x else y) ∧ w = w') := by
  refine enter Tryz.func86 rfl Tryz.ntmps86 (Nat.le_of_ble_eq_true rfl) ?_
  refine dr U 600 rfl trivial ?_
  refine loopR (fun l w' m => ∃ i : Nat, l = [(6, .slice (some ⟨b, 0, none⟩) 2 2), (7, .int .i64 2), (8, .int .i64 (i : Nat)), (3, .int .i64 0)] ∧ i ≤ 2 ∧ (1 ≤ i → x = 0) ∧ (2 ≤ i → y = 0) ∧ w = w' ∧ m = 2 - i) ⟨0, rfl, by omega, fun h => by omega, fun h => by omega, rfl, rfl⟩ ⟨rfl, rfl, rfl, rfl, trivial⟩ ?_
  rintro l w1 m ⟨i, rfl, hi, h1, h2, rfl, rfl⟩
  refine dr U 600 rfl trivial ?_
  refine cS rfl rfl rfl rfl (fun hq => ?_) (fun hq => ?_)
  · have hi2 : i = 0 ∨ i = 1 := by omega
    refine dr U 600 rfl trivial ?_
    obtain rfl | rfl := hi2
    · refine il U rfl rfl rfl rfl rfl rfl rfl (fun _ => rfl) rfl 0 (by omega) (show 0 < 2 by decide) hk rfl ?_
      refine dr U 600 rfl trivial ?_
      refine cS rfl rfl rfl rfl (fun hq => ?_) (fun hq => ?_)
      · refine dr U 600 rfl trivial ?_
        refine ret Tryz.results86 rfl ⟨_, rfl, ?_, rfl⟩
        rw [if_pos hq]; rfl
      · refine dr U 600 rfl (by first | exact True.intro | (simp only [AllP, InR, List.nil_append, List.cons_append, and_true]; omega)) ?_
        exact rend _ 1 ⟨1, rfl, by omega, fun _ => Classical.not_not.1 hq, fun h => by omega, rfl, rfl⟩ (by omega) ⟨rfl, rfl, rfl, rfl, trivial⟩
    · refine il U rfl rfl rfl rfl rfl rfl rfl (fun _ => rfl) rfl 1 (by omega) (show 1 < 2 by decide) hk rfl ?_
      refine dr U 600 rfl trivial ?_
      refine cS rfl rfl rfl rfl (fun hq => ?_) (fun hq => ?_)
      · refine dr U 600 rfl trivial ?_
        refine ret Tryz.results86 rfl ⟨_, rfl, ?_, rfl⟩
        rw [if_neg (by have := h1 (by omega); omega)]; rfl
      · refine dr U 600 rfl (by first | exact True.intro | (simp only [AllP, InR, List.nil_append, List.cons_append, and_true]; omega)) ?_
        exact rend _ 0 ⟨2, rfl, by omega, fun _ => h1 (by omega), fun _ => Classical.not_not.1 hq, rfl, rfl⟩ (by omega) ⟨rfl, rfl, rfl, rfl, trivial⟩
  · have := h1 (by omega)
    have h3 := h2 (by omega)
    refine dr U 600 rfl trivial ?_
    refine ret Tryz.results86 rfl ⟨_, rfl, ?_, rfl⟩
    rw [this, h3]; rfl
end Go.Proofs.YtabplbmbnakalaaGreatDoor
end
section
set_option linter.unusedSimpArgs false
set_option linter.unusedVariables false
set_option maxHeartbeats 1000000
namespace Go.Proofs.YtabplbmbnakalaaGreatDoor
open Go Go.Proofs Go.RowKit Go.Lib

section
variable {P : Program} (U : Tys P) {ro : Option Nat} {n : Nat} {ds : List Deferred} {Q : PT} {l l' : Fr} {w w' : World} {arr : Array Oper} {r : List Oper} {k : List It}
/-- A slice of two written-out ints. -/
theorem bs2 {d1 : Nat} {t e ty : TypeId} {x y : Operand} {ps : String} {af : Array Edge} {g1 : Option (Nat × Bool)} {kk : IntKind} {a b : Int} {by_ : Nat} {z0 : Int}
    (hx : ev l x = some (.int kk a)) (hy : ev l y = some (.int kk b)) (ht : U.tb.u t = some (.slice e)) (hi : U.tb.inf e = some (1, by_, .int kk z0)) (hg1 : gd arr l g1 = some true) (hd1 : Nat.blt d1 n = true)
    (t' : ∀ w1, Bk w1 w.heap.size e [.int kk a, .int kk b] → w1.heap.size = w.heap.size + 1 → w.grownBy w1 none → T P ro n ds Q ((d1, .slice (some ⟨w.heap.size, 0, none⟩) 2 2) :: l) w1 (.ops arr r) k) :
    T P ro n ds Q l w (.ops arr (⟨some d1, .buildSlice t 2 #[(0, x), (1, y)], ty, ps, af, g1⟩ :: r)) k := by
  obtain ⟨i, hi0, hz1, hz2, hz3⟩ := U.hi _ _ _ _ hi
  have hpt := U.hu _ _ ht
  refine op1 (w' := w.alloc (.cells #[.int kk a, .int kk b] e)) (v := .slice (some ⟨w.heap.size, 0, none⟩) 2 2) (by intro c h; cases h) hg1 (put1_some hd1) (fun act hf => ?_) (t' _ (heap_alloc_new w _) (by simp) (World.grownBy_alloc w _ none))
  simp only [execOp, Instr.buildSlice]
  simp [hf.ev hx, hf.ev hy, run_under hpt, sizeOf, typeInfo, program, Sem.run, hi0, hz1, zeroValue, hz3, Instr.fill, newRow, newObj, Value.cells]
  congr 2
  apply Array.toList_inj.1
  simp [List.range_succ]
end

/-- The error of two texts. -/
def Chk2 (x y : List UInt8) (e : Int) : Prop := ∃ e1 e2, Chk x e1 ∧ Chk y e2 ∧ e = if e1 ≠ 0 then e1 else e2

theorem chk_ok {l : List UInt8} (h : Chk l 0) : Form l ∧ l.length ≤ 4000 := by
  rcases h with ⟨h1, h2, _⟩ | ⟨_, _, h⟩ | ⟨_, h⟩
  · exact ⟨h1, h2⟩
  · cases h
  · cases h
theorem chk2_ok {x y : List UInt8} (h : Chk2 x y 0) : (Form x ∧ x.length ≤ 4000) ∧ Form y ∧ y.length ≤ 4000 := by
  obtain ⟨e1, e2, h1, h2, h3⟩ := h
  split at h3
  · rename_i h4; exact absurd h3.symm h4
  · rename_i h4
    have h5 := Classical.not_not.1 h4
    subst h5; subst h3
    exact ⟨chk_ok h1, chk_ok h2⟩

theorem pair_calls (x y : List UInt8) (f : Nat) (cs : List Value) (hcb : Callable Tryz.prog f) (hx : x.length ≤ 1099511627776) (hy : y.length ≤ 1099511627776) (w : World) (R : Value → World → Prop) (hR : ∀ v w', R v w' → ∃ v1 v2, v = .tuple ⟨[v1, v2]⟩)
    (hf : ∀ w1 a c b d, (Form x ∧ x.length ≤ 4000) → (Form y ∧ y.length ≤ 4000) → Below w.heap.size w w1 → Rd w1 a c (lim (dval x)) → Rd w1 b d (lim (dval y)) →
      Calls Tryz.prog f (.slice a (lim (dval x)).length c :: .slice b (lim (dval y)).length d :: cs).toArray w1 (Ret R)) :
    Calls Tryz.prog 95 #[.string ⟨⟨x⟩⟩, .string ⟨⟨y⟩⟩, .func (.func f) ⟨[]⟩ ⟨cs⟩] w
      (Ret fun v w' => (∃ e, e ≠ 0 ∧ Chk2 x y e ∧ v = .tuple ⟨[.string ⟨⟨[]⟩⟩, .int .i64 e]⟩ ∧ Below w.heap.size w w') ∨ (Chk2 x y 0 ∧ R v w')) := by
  refine enter Tryz.func95 rfl Tryz.ntmps95 (Nat.le_of_ble_eq_true rfl) ?_
  refine dr U 600 rfl trivial ?_
  refine call (f := 87) rfl rfl cb87 (check_calls x hx w) ?_
  rintro v w1 ⟨⟨e1, rfl, hc1⟩, hB1⟩
  refine ⟨_, rfl, ?_⟩
  refine dr U 600 rfl trivial ?_
  refine call (f := 87) rfl rfl cb87 (check_calls y hy w1) ?_
  rintro v w2 ⟨⟨e2, rfl, hc2⟩, hB2⟩
  refine ⟨_, rfl, ?_⟩
  have hB2' := bl_tr hB1 hB2 hB1.size
  refine bs2 U rfl rfl rfl rfl rfl rfl ?_
  intro w3 hk hs3 hg3
  refine call (f := 86) rfl rfl cb86 (first_calls e1 e2 w2.heap.size w3 (hk.sl 0)) ?_
  rintro v w4 ⟨rfl, rfl⟩
  refine ⟨_, rfl, ?_⟩
  have hB3 := hB2'.grown hg3 hB2'.size (fun k e => by cases e)
  generalize he : (if e1 ≠ 0 then e1 else e2) = e
  have hch : Chk2 x y e := ⟨e1, e2, hc1, hc2, he.symm⟩
  refine dr U 600 rfl trivial ?_
  refine cS rfl rfl rfl rfl (fun hq => ?_) (fun hq => ?_)
  · refine dr U 600 rfl trivial ?_
    exact ret Tryz.results95 rfl ⟨_, rfl, .inl ⟨e, hq, hch, rfl, hB3⟩⟩
  · obtain rfl := Classical.not_not.1 hq
    obtain ⟨hox, hoy⟩ := chk2_ok hch
    refine dr U 600 rfl trivial ?_
    refine call (f := 88) rfl rfl cb88 (parse_calls x hox.1.2.2 hx w3) ?_
    rintro v w5 ⟨a5, c5, rfl, ho5, hB5⟩
    refine ⟨_, rfl, ?_⟩
    refine dr U 600 rfl trivial ?_
    refine call (f := 88) rfl rfl cb88 (parse_calls y hoy.1.2.2 hy w5) ?_
    rintro v w6 ⟨a6, c6, rfl, ho6, hB6⟩
    refine ⟨_, rfl, ?_⟩
    have hB5' := bl_tr hB3 hB5 hB3.size
    have hB6' := bl_tr hB5' hB6 hB5'.size
    refine call (f := f) rfl rfl hcb (hf w6 a5 c5 a6 c6 hox hoy hB6' ((own_rd ho5).below hB6) (own_rd ho6)) ?_
    rintro v w7 hr
    obtain ⟨v1, v2, rfl⟩ := hR v w7 hr
    refine ⟨_, rfl, ?_⟩
    refine dr U 600 rfl trivial ?_
    exact ret Tryz.results95 rfl ⟨_, rfl, .inr ⟨hch, hr⟩⟩
end Go.Proofs.YtabplbmbnakalaaGreatDoor
end
section
set_option linter.unusedSimpArgs false
set_option linter.unusedVariables false
set_option maxHeartbeats 1000000
namespace Go.Proofs.YtabplbmbnakalaaGreatDoor
open Go Go.Proofs Go.RowKit Go.Lib

theorem form_len {x : List UInt8} (h : Form x ∧ x.length ≤ 4000) : nDigits (dval x) ≤ 4000 ∧ (lim (dval x)).length ≤ 4000 := by
  have h1 := dec_of h.1.2.2 h.1.1 h.1.2.1
  have h2 : nDigits (dval x) ≤ 4000 := by rw [← decDigits_length, ← h1]; exact h.2
  exact ⟨h2, Nat.le_trans (lim_le_nD _) h2⟩
theorem Res.tup {n : Nat} {v : Value} (h : Res n v) : ∃ v1 v2, v = .tuple ⟨[v1, v2]⟩ := by
  rcases h with ⟨_, h⟩ | ⟨_, h⟩ <;> exact ⟨_, _, h⟩

/-- What a function of two texts returns that computes a number. -/
def Out (x y : List UInt8) (n : Nat) (v : Value) : Prop := (∃ e, e ≠ 0 ∧ Chk2 x y e ∧ v = .tuple ⟨[.string ⟨⟨[]⟩⟩, .int .i64 e]⟩) ∨ (Chk2 x y 0 ∧ Res n v)
theorem Out.tup {x y : List UInt8} {n : Nat} {v : Value} (h : Out x y n v) : ∃ v1 v2, v = .tuple ⟨[v1, v2]⟩ := by
  rcases h with ⟨_, _, _, h⟩ | ⟨_, h⟩
  · exact ⟨_, _, h⟩
  · exact h.tup

theorem lenadd {m n : Nat} (h1 : (lim m).length ≤ 4000) (h2 : (lim n).length ≤ 4000) : (lim (m + n)).length ≤ 68719476736 := by
  have := lim_len_add m n; omega
theorem lenmul {m n : Nat} (h1 : (lim m).length ≤ 4000) (h2 : (lim n).length ≤ 4000) : (lim (m * n)).length ≤ 68719476736 := by
  have := lim_len_mul m n; omega
theorem lengcd {m n : Nat} (h1 : (lim m).length ≤ 4000) (h2 : (lim n).length ≤ 4000) : (lim (Nat.gcd m n)).length ≤ 68719476736 := by
  rcases Nat.eq_zero_or_pos m with rfl | h
  · rw [Nat.gcd_zero_left]; omega
  · have := lim_len_mono (Nat.gcd_le_left n h); omega


theorem natAdd_calls (x y : List UInt8) (hx : x.length ≤ 1099511627776) (hy : y.length ≤ 1099511627776) (w : World) (ht : TabOk w) :
    Calls Tryz.prog 92 #[.string ⟨⟨x⟩⟩, .string ⟨⟨y⟩⟩] w (Ret fun v w' => Out x y (dval x + dval y) v ∧ Below w.heap.size w w') := by
  refine enter Tryz.func92 rfl Tryz.ntmps92 (Nat.le_of_ble_eq_true rfl) ?_
  refine dr U 600 rfl trivial ?_
  refine call (f := 95) rfl rfl cb95 (pair_calls x y 126 [] cb126 hx hy w (fun v w' => Res (dval x+dval y) v ∧ Below w.heap.size w w') (fun v w' h => h.1.tup) ?_) ?_
  · intro w1 a c b d hox hoy hB ha hb
    have hlx := (form_len hox).2
    have hly := (form_len hoy).2
    refine enter Tryz.func126 rfl Tryz.ntmps126 (Nat.le_of_ble_eq_true rfl) ?_
    refine dr U 600 rfl trivial ?_
    refine call (f := 127) rfl rfl cb127 (add_calls (dval x) (dval y) a b c d w1 ha hb (by omega) (by omega)) ?_
    rintro v w2 hown
    have hrd0 := hown.red
    obtain ⟨_, _, _, _, hB2⟩ := hown
    obtain ⟨a2, c2, rfl, hrd⟩ := hrd0
    refine ⟨_, rfl, ?_⟩
    have hBW := bl_tr hB hB2 hB.size
    refine call (f := 94) rfl rfl cb94 (result_calls (dval x+dval y) _ _ w2 hrd (lenadd hlx hly) (ht.below hBW)) ?_
    rintro v w3 ⟨hres, hB3⟩
    obtain ⟨v1, v2, rfl⟩ := hres.tup
    refine ⟨_, rfl, ?_⟩
    refine dr U 600 rfl trivial ?_
    exact ret Tryz.results126 rfl ⟨_, rfl, hres, bl_tr hBW hB3 hBW.size⟩
  · rintro v w1 h
    have hO : Out x y (dval x+dval y) v ∧ Below w.heap.size w w1 := by
      rcases h with ⟨e, h1, h2, h3, h4⟩ | ⟨h1, h2, h3⟩
      · exact ⟨.inl ⟨e, h1, h2, h3⟩, h4⟩
      · exact ⟨.inr ⟨h1, h2⟩, h3⟩
    obtain ⟨v1, v2, rfl⟩ := hO.1.tup
    refine ⟨_, rfl, ?_⟩
    refine dr U 600 rfl trivial ?_
    exact ret Tryz.results92 rfl ⟨_, rfl, hO⟩
theorem natMul_calls (x y : List UInt8) (hx : x.length ≤ 1099511627776) (hy : y.length ≤ 1099511627776) (w : World) (ht : TabOk w) :
    Calls Tryz.prog 91 #[.string ⟨⟨x⟩⟩, .string ⟨⟨y⟩⟩] w (Ret fun v w' => Out x y (dval x * dval y) v ∧ Below w.heap.size w w') := by
  refine enter Tryz.func91 rfl Tryz.ntmps91 (Nat.le_of_ble_eq_true rfl) ?_
  refine dr U 600 rfl trivial ?_
  refine call (f := 95) rfl rfl cb95 (pair_calls x y 124 [] cb124 hx hy w (fun v w' => Res (dval x*dval y) v ∧ Below w.heap.size w w') (fun v w' h => h.1.tup) ?_) ?_
  · intro w1 a c b d hox hoy hB ha hb
    have hlx := (form_len hox).2
    have hly := (form_len hoy).2
    refine enter Tryz.func124 rfl Tryz.ntmps124 (Nat.le_of_ble_eq_true rfl) ?_
    refine dr U 600 rfl trivial ?_
    refine call (f := 125) rfl rfl cb125 (mul_calls (dval x) (dval y) a b c d w1 ha hb (by omega) (by omega)) ?_
    rintro v w2 hown
    have hrd0 := hown.red
    obtain ⟨_, _, _, _, hB2⟩ := hown
    obtain ⟨a2, c2, rfl, hrd⟩ := hrd0
    refine ⟨_, rfl, ?_⟩
    have hBW := bl_tr hB hB2 hB.size
    refine call (f := 94) rfl rfl cb94 (result_calls (dval x*dval y) _ _ w2 hrd (lenmul hlx hly) (ht.below hBW)) ?_
    rintro v w3 ⟨hres, hB3⟩
    obtain ⟨v1, v2, rfl⟩ := hres.tup
    refine ⟨_, rfl, ?_⟩
    refine dr U 600 rfl trivial ?_
    exact ret Tryz.results124 rfl ⟨_, rfl, hres, bl_tr hBW hB3 hBW.size⟩
  · rintro v w1 h
    have hO : Out x y (dval x*dval y) v ∧ Below w.heap.size w w1 := by
      rcases h with ⟨e, h1, h2, h3, h4⟩ | ⟨h1, h2, h3⟩
      · exact ⟨.inl ⟨e, h1, h2, h3⟩, h4⟩
      · exact ⟨.inr ⟨h1, h2⟩, h3⟩
    obtain ⟨v1, v2, rfl⟩ := hO.1.tup
    refine ⟨_, rfl, ?_⟩
    refine dr U 600 rfl trivial ?_
    exact ret Tryz.results91 rfl ⟨_, rfl, hO⟩
end Go.Proofs.YtabplbmbnakalaaGreatDoor
end
section
set_option linter.unusedSimpArgs false
set_option linter.unusedVariables false
set_option maxHeartbeats 1000000
namespace Go.Proofs.YtabplbmbnakalaaGreatDoor
open Go Go.Proofs Go.RowKit Go.Lib

theorem natCmp_calls (x y : List UInt8) (hx : x.length ≤ 1099511627776) (hy : y.length ≤ 1099511627776) (w : World) :
    Calls Tryz.prog 53 #[.string ⟨⟨x⟩⟩, .string ⟨⟨y⟩⟩] w (Ret fun v w' => (∃ e, Chk2 x y e ∧ v = .int .i64 (if e ≠ 0 then 0 else cmpN (dval x) (dval y))) ∧ Below w.heap.size w w') := by
  refine enter Tryz.func53 rfl Tryz.ntmps53 (Nat.le_of_ble_eq_true rfl) ?_
  refine dr U 600 rfl trivial ?_
  refine call (f := 87) rfl rfl cb87 (check_calls x hx w) ?_
  rintro v w1 ⟨⟨e1, rfl, hc1⟩, hB1⟩
  refine ⟨_, rfl, ?_⟩
  refine dr U 600 rfl trivial ?_
  refine call (f := 87) rfl rfl cb87 (check_calls y hy w1) ?_
  rintro v w2 ⟨⟨e2, rfl, hc2⟩, hB2⟩
  refine ⟨_, rfl, ?_⟩
  have hB2' := bl_tr hB1 hB2 hB1.size
  refine bs2 U rfl rfl rfl rfl rfl rfl ?_
  intro w3 hk hs3 hg3
  refine call (f := 86) rfl rfl cb86 (first_calls e1 e2 w2.heap.size w3 (hk.sl 0)) ?_
  rintro v w4 ⟨rfl, rfl⟩
  refine ⟨_, rfl, ?_⟩
  have hB3 := hB2'.grown hg3 hB2'.size (fun k e => by cases e)
  generalize he : (if e1 ≠ 0 then e1 else e2) = e
  have hch : Chk2 x y e := ⟨e1, e2, hc1, hc2, he.symm⟩
  refine cS rfl rfl rfl rfl (fun hq => ?_) (fun hq => ?_)
  · refine dr U 600 rfl trivial ?_
    refine ret Tryz.results53 rfl ⟨_, rfl, ⟨e, hch, ?_⟩, hB3⟩
    rw [if_pos hq]; rfl
  · obtain rfl := Classical.not_not.1 hq
    obtain ⟨hox, hoy⟩ := chk2_ok hch
    have hlx := (form_len hox).2
    have hly := (form_len hoy).2
    refine dr U 600 rfl trivial ?_
    refine call (f := 88) rfl rfl cb88 (parse_calls x hox.1.2.2 hx w3) ?_
    rintro v w5 ⟨a5, c5, rfl, ho5, hB5⟩
    refine ⟨_, rfl, ?_⟩
    refine dr U 600 rfl trivial ?_
    refine call (f := 88) rfl rfl cb88 (parse_calls y hoy.1.2.2 hy w5) ?_
    rintro v w6 ⟨a6, c6, rfl, ho6, hB6⟩
    refine ⟨_, rfl, ?_⟩
    have hB5' := bl_tr hB3 hB5 hB3.size
    have hB6' := bl_tr hB5' hB6 hB5'.size
    refine call (f := 89) rfl rfl cb89 (cmp_calls (dval x) (dval y) a5 a6 c5 c6 w6 ((own_rd ho5).below hB6) (own_rd ho6) (by omega) (by omega)) ?_
    rintro v w7 ⟨rfl, hB7⟩
    refine ⟨_, rfl, ?_⟩
    refine dr U 600 rfl trivial ?_
    exact ret Tryz.results53 rfl ⟨_, rfl, ⟨0, hch, rfl⟩, bl_tr hB6' hB7 hB6'.size⟩

/-- What Pow returns. -/
def OutP (x : List UInt8) (n : Int) (v : Value) : Prop :=
  (∃ e, e ≠ 0 ∧ Chk x e ∧ v = .tuple ⟨[.string ⟨⟨[]⟩⟩, .int .i64 e]⟩) ∨ (Chk x 0 ∧ n < 0 ∧ v = .tuple ⟨[.string ⟨⟨[]⟩⟩, .int .i64 2]⟩) ∨ (Chk x 0 ∧ 0 ≤ n ∧ Res (dval x ^ n.toNat) v)

theorem natPow_calls (x : List UInt8) (n : Int) (hx : x.length ≤ 1099511627776) (hn : n ≤ 9223372036854775807) (w : World) (ht : TabOk w) :
    Calls Tryz.prog 59 #[.string ⟨⟨x⟩⟩, .int .i64 n] w (Ret fun v w' => OutP x n v ∧ Below w.heap.size w w') := by
  refine enter Tryz.func59 rfl Tryz.ntmps59 (Nat.le_of_ble_eq_true rfl) ?_
  refine dr U 600 rfl trivial ?_
  refine call (f := 87) rfl rfl cb87 (check_calls x hx w) ?_
  rintro v w1 ⟨⟨e, rfl, hc⟩, hB1⟩
  refine ⟨_, rfl, ?_⟩
  refine dr U 600 rfl trivial ?_
  refine cS rfl rfl rfl rfl (fun hq => ?_) (fun hq => ?_)
  · refine dr U 600 rfl trivial ?_
    exact ret Tryz.results59 rfl ⟨_, rfl, .inl ⟨e, hq, hc, rfl⟩, hB1⟩
  · obtain rfl := Classical.not_not.1 hq
    have hox := chk_ok hc
    have hlx := form_len hox
    refine dr U 600 rfl trivial ?_
    refine cS rfl rfl rfl rfl (fun hq => ?_) (fun hq => ?_)
    · refine dr U 600 rfl trivial ?_
      exact ret Tryz.results59 rfl ⟨_, rfl, .inr (.inl ⟨hc, hq, rfl⟩), hB1⟩
    · obtain ⟨k, rfl⟩ : ∃ k : Nat, n = k := ⟨n.toNat, by omega⟩
      refine dr U 600 rfl trivial ?_
      refine call (f := 88) rfl rfl cb88 (parse_calls x hox.1.2.2 hx w1) ?_
      rintro v w2 ⟨a2, c2, rfl, ho2, hB2⟩
      refine ⟨_, rfl, ?_⟩
      have hB2' := bl_tr hB1 hB2 hB1.size
      refine dr U 600 rfl (by first | exact True.intro | (simp only [AllP, InR, List.nil_append, List.cons_append, and_true]; omega)) ?_
      refine call (f := 93) rfl rfl cb93 (pow_calls (dval x) k 4000 (by omega) a2 c2 w2 (own_rd ho2) hlx.1 (by omega) (ht.below hB2')) ?_
      rintro v w3 ⟨v1, rfl, hred, hB3⟩
      refine ⟨_, rfl, ?_⟩
      have hB3' := bl_tr hB2' hB3 hB2'.size
      by_cases hd : nDigits (dval x ^ k) ≤ 4000
      · rw [decide_eq_true hd]
        obtain ⟨a3, c3, rfl, hr3⟩ := hred hd
        refine dr U 600 rfl trivial ?_
        refine call (f := 94) rfl rfl cb94 (result_calls (dval x ^ k) a3 c3 w3 hr3 (Nat.le_trans (lim_le_nD _) (by omega)) (ht.below hB3')) ?_
        rintro v w4 ⟨hres, hB4⟩
        have hres' := hres
        obtain ⟨u1, u2, rfl⟩ := hres'.tup
        refine ⟨_, rfl, ?_⟩
        refine dr U 600 rfl trivial ?_
        exact ret Tryz.results59 rfl ⟨_, rfl, .inr (.inr ⟨hc, by omega, hres⟩), bl_tr hB3' hB4 hB3'.size⟩
      · rw [decide_eq_false hd]
        refine dr U 600 rfl trivial ?_
        exact ret Tryz.results59 rfl ⟨_, rfl, .inr (.inr ⟨hc, by omega, .inr ⟨by show 4000 < nDigits (dval x ^ k); omega, rfl⟩⟩), hB3'⟩
end Go.Proofs.YtabplbmbnakalaaGreatDoor
end
section
set_option linter.unusedSimpArgs false
set_option linter.unusedVariables false
set_option maxHeartbeats 1000000
namespace Go.Proofs.YtabplbmbnakalaaGreatDoor
open Go Go.Proofs Go.RowKit Go.Lib

/-- What the difference of two numbers yields. -/
def ResS (m n : Nat) (v : Value) : Prop := (m < n ∧ v = .tuple ⟨[.string ⟨⟨[]⟩⟩, .int .i64 2]⟩) ∨ (n ≤ m ∧ Res (m - n) v)
def OutS (x y : List UInt8) (v : Value) : Prop := (∃ e, e ≠ 0 ∧ Chk2 x y e ∧ v = .tuple ⟨[.string ⟨⟨[]⟩⟩, .int .i64 e]⟩) ∨ (Chk2 x y 0 ∧ ResS (dval x) (dval y) v)
theorem ResS.tup {m n : Nat} {v : Value} (h : ResS m n v) : ∃ v1 v2, v = .tuple ⟨[v1, v2]⟩ := by
  rcases h with ⟨_, h⟩ | ⟨_, h⟩
  · exact ⟨_, _, h⟩
  · exact h.tup
theorem OutS.tup {x y : List UInt8} {v : Value} (h : OutS x y v) : ∃ v1 v2, v = .tuple ⟨[v1, v2]⟩ := by
  rcases h with ⟨_, _, _, h⟩ | ⟨_, h⟩
  · exact ⟨_, _, h⟩
  · exact h.tup

theorem natSub_calls (x y : List UInt8) (hx : x.length ≤ 1099511627776) (hy : y.length ≤ 1099511627776) (w : World) (ht : TabOk w) :
    Calls Tryz.prog 61 #[.string ⟨⟨x⟩⟩, .string ⟨⟨y⟩⟩] w (Ret fun v w' => OutS x y v ∧ Below w.heap.size w w') := by
  refine enter Tryz.func61 rfl Tryz.ntmps61 (Nat.le_of_ble_eq_true rfl) ?_
  refine dr U 600 rfl trivial ?_
  refine call (f := 95) rfl rfl cb95 (pair_calls x y 100 [] cb100 hx hy w (fun v w' => ResS (dval x) (dval y) v ∧ Below w.heap.size w w') (fun v w' h => h.1.tup) ?_) ?_
  · intro w1 a c b d hox hoy hB ha hb
    have hlx := (form_len hox).2
    have hly := (form_len hoy).2
    refine enter Tryz.func100 rfl Tryz.ntmps100 (Nat.le_of_ble_eq_true rfl) ?_
    refine dr U 600 rfl trivial ?_
    refine call (f := 89) rfl rfl cb89 (cmp_calls (dval x) (dval y) a b c d w1 ha hb (by omega) (by omega)) ?_
    rintro v w2 ⟨rfl, hB2⟩
    refine ⟨_, rfl, ?_⟩
    have hBW2 := bl_tr hB hB2 hB.size
    refine cS rfl rfl rfl rfl (fun hq => ?_) (fun hq => ?_)
    · refine dr U 600 rfl trivial ?_
      exact ret Tryz.results100 rfl ⟨_, rfl, .inl ⟨cmpN_neg.1 hq, rfl⟩, hBW2⟩
    · have hle : dval y ≤ dval x := by
        rcases Nat.lt_or_ge (dval x) (dval y) with h | h
        · exact absurd (cmpN_neg.2 h) hq
        · exact h
      clear hq
      refine dr U 600 rfl trivial ?_
      refine call (f := 101) rfl rfl cb101 (sub_calls (dval x) (dval y) hle a b c d w2 (ha.below hB2) (hb.below hB2) (by omega)) ?_
      rintro v w3 hown
      have hrd0 := hown.red
      obtain ⟨_, _, _, _, hB3⟩ := hown
      obtain ⟨a2, c2, rfl, hrd⟩ := hrd0
      refine ⟨_, rfl, ?_⟩
      have hBW := bl_tr hBW2 hB3 hBW2.size
      have hls := lim_len_mono (show dval x - dval y ≤ dval x by omega)
      refine call (f := 94) rfl rfl cb94 (result_calls (dval x - dval y) _ _ w3 hrd (by omega) (ht.below hBW)) ?_
      rintro v w4 ⟨hres, hB4⟩
      have hres' := hres
      obtain ⟨v1, v2, rfl⟩ := hres'.tup
      refine ⟨_, rfl, ?_⟩
      refine dr U 600 rfl trivial ?_
      exact ret Tryz.results100 rfl ⟨_, rfl, .inr ⟨hle, hres⟩, bl_tr hBW hB4 hBW.size⟩
  · rintro v w1 h
    have hO : OutS x y v ∧ Below w.heap.size w w1 := by
      rcases h with ⟨e, h1, h2, h3, h4⟩ | ⟨h1, h2, h3⟩
      · exact ⟨.inl ⟨e, h1, h2, h3⟩, h4⟩
      · exact ⟨.inr ⟨h1, h2⟩, h3⟩
    have hO' := hO.1
    obtain ⟨v1, v2, rfl⟩ := hO'.tup
    refine ⟨_, rfl, ?_⟩
    refine dr U 600 rfl trivial ?_
    exact ret Tryz.results61 rfl ⟨_, rfl, hO⟩
end Go.Proofs.YtabplbmbnakalaaGreatDoor
end
section
set_option linter.unusedSimpArgs false
set_option linter.unusedVariables false
set_option maxHeartbeats 1000000
namespace Go.Proofs.YtabplbmbnakalaaGreatDoor
open Go Go.Proofs Go.RowKit Go.Lib

/-- What DivMod returns. -/
def OutD (x y : List UInt8) (v : Value) : Prop :=
  (∃ e, e ≠ 0 ∧ Chk2 x y e ∧ v = .tuple ⟨[.string ⟨⟨[]⟩⟩, .string ⟨⟨[]⟩⟩, .int .i64 e]⟩) ∨
  (Chk2 x y 0 ∧ dval y = 0 ∧ v = .tuple ⟨[.string ⟨⟨[]⟩⟩, .string ⟨⟨[]⟩⟩, .int .i64 6]⟩) ∨
  (Chk2 x y 0 ∧ dval y ≠ 0 ∧ v = .tuple ⟨[.string ⟨⟨decDigits (dval x / dval y)⟩⟩, .string ⟨⟨decDigits (dval x % dval y)⟩⟩, .int .i64 0]⟩)

/-- What its closure leaves. -/
def ResD (b5 m n : Nat) (w0 : World) (v : Value) (w' : World) : Prop :=
  Oth [b5] w0 w' ∧ ((n = 0 ∧ v = .tuple ⟨[.string ⟨⟨[]⟩⟩, .int .i64 6]⟩ ∧ Bk w' b5 22 [.string ⟨⟨[]⟩⟩]) ∨
    (n ≠ 0 ∧ v = .tuple ⟨[.string ⟨⟨decDigits (m / n)⟩⟩, .int .i64 0]⟩ ∧ Bk w' b5 22 [.string ⟨⟨decDigits (m % n)⟩⟩]))

theorem rd_keep {w w' : World} {a : Option Addr} {c : Nat} {xs : List Nat} {b t : Nat} {s : ByteArray} (h : Rd w a c xs) (hg : w.grownBy w' (some b)) (hb : Bk w b t [.string s]) : Rd w' a c xs := by
  refine ⟨fun j v hv => ?_, h.2.1, fun g hgg => Nat.lt_of_lt_of_le (h.2.2 g hgg) hg.size⟩
  obtain ⟨g, off, rfl, hc⟩ := h.1 j v hv
  refine ⟨g, off, rfl, hg.cell hc (fun e => ?_)⟩
  have e2 : g = b := Option.some.inj e
  subst e2
  have hc2 : ([Value.string s] : List Value)[off + j]? = some v := by
    unfold Bk at hb
    simpa [World.cell?, hb] using hc
  rw [List.getElem?_map] at hv
  cases hx : xs[j]? with
  | none => rw [hx] at hv; cases hv
  | some y =>
    rw [hx] at hv
    have hv2 : u64 y = v := Option.some.inj hv
    subst hv2
    cases ho : off + j with
    | zero => rw [ho] at hc2; cases hc2
    | succ q => rw [ho] at hc2; simp at hc2


theorem natDivMod_calls (x y : List UInt8) (hx : x.length ≤ 1099511627776) (hy : y.length ≤ 1099511627776) (w : World) (ht : TabOk w) :
    Calls Tryz.prog 60 #[.string ⟨⟨x⟩⟩, .string ⟨⟨y⟩⟩] w (Ret fun v w' => OutD x y v ∧ Below w.heap.size w w') := by
  refine enter Tryz.func60 rfl Tryz.ntmps60 (Nat.le_of_ble_eq_true rfl) ?_
  refine dr U 600 rfl trivial ?_
  refine al U rfl rfl rfl rfl ?_
  intro b5 w0 hb5 hs0 hk0 hg0
  have hB0 : Below w.heap.size w w0 := (Below.refl _ w).grown hg0 (Nat.le_refl _) (fun k e => by cases e)
  have ht0 := ht.new hg0
  have hn5 := tab_ne ht0 hk0
  have hlt5 := hk0.lt
  refine dr U 600 rfl trivial ?_
  refine call (f := 95) rfl rfl cb95 (pair_calls x y 96 [.pointer (some ⟨b5, 0, none⟩)] cb96 hx hy w0 (ResD b5 (dval x) (dval y) w0) (fun v w' h => by rcases h.2 with ⟨_, h, _⟩ | ⟨_, h, _⟩ <;> exact ⟨_, _, h⟩) ?_) ?_
  · intro w1 a c b d hox hoy hB ha hb
    have hlx := form_len hox
    have hly := form_len hoy
    have hk1 := hk0.below hB hlt5
    have ht1 := ht0.below hB
    refine enter Tryz.func96 rfl Tryz.ntmps96 (Nat.le_of_ble_eq_true rfl) ?_
    refine dr U 600 rfl trivial ?_
    have hz := zero_calls (lim (dval y)) b d w1
    by_cases h0 : dval y = 0
    · rw [h0, lim_zero] at hz hb ⊢
      refine call (f := 97) rfl rfl cb97 hz ?_
      rintro v w2 ⟨rfl, rfl⟩
      refine ⟨_, rfl, ?_⟩
      rw [decide_eq_true (show ([] : List Nat) = [] from rfl)]
      refine dr U 600 rfl trivial ?_
      exact ret Tryz.results96 rfl ⟨_, rfl, Oth.of_below hB, .inl ⟨rfl, rfl, hk1⟩⟩
    · refine call (f := 97) rfl rfl cb97 hz ?_
      rintro v w2 ⟨rfl, rfl⟩
      refine ⟨_, rfl, ?_⟩
      rw [decide_eq_false (fun e => h0 (lim_eq_nil.1 e))]
      refine dr U 600 rfl trivial ?_
      refine call (f := 98) rfl rfl cb98 (divmod_calls (dval x) (dval y) (Nat.pos_of_ne_zero h0) a b c d w1 ha hb (by omega) (by omega)) ?_
      rintro v w2 ⟨v1, v2, rfl, ⟨a2, c2, rfl, hr2⟩, ⟨a3, c3, rfl, hr3⟩, hB2⟩
      refine ⟨_, rfl, ?_⟩
      have hql : dval x / dval y ≤ dval x := Nat.div_le_self _ _
      have hrl : dval x % dval y ≤ dval x := Nat.mod_le _ _
      have hq4 := lim_len_mono hql
      have hr4 := lim_len_mono hrl
      have hqd := nD_mono hql
      have ht2 := ht1.below hB2
      have hk2 := hk1.below hB2 hk1.lt
      have hBW2 := bl_tr hB hB2 hB.size
      refine dr U 600 rfl trivial ?_
      refine call (f := 99) rfl rfl cb99 (string_calls (dval x % dval y) a3 c3 w2 hr3 (by omega) ht2) ?_
      rintro v w3 ⟨rfl, hB3⟩
      refine ⟨_, rfl, ?_⟩
      have hk3 := hk2.below hB3 hk2.lt
      have ht3 := ht2.below hB3
      have hBW3 := bl_tr hBW2 hB3 hBW2.size
      have hr23 := hr2.below hB3
      have hlt3 := hk2.lt
      refine st U rfl rfl rfl rfl rfl rfl rfl rfl rfl rfl (hk3) ?_
      intro w4 hk4 hg4 hs4
      have ht4 := ht3.keep hg4 (by simpa using hn5)
      have hO4 : Oth [b5] w0 w4 := (Oth.of_below hBW3).trans (Oth.of_grown hg4 (fun r e => by cases e; simp))
      have hr24 := rd_keep hr23 hg4 hk3
      refine dr U 600 rfl trivial ?_
      refine call (f := 94) rfl rfl cb94 (result_calls (dval x / dval y) a2 c2 w4 hr24 (by omega) ht4) ?_
      rintro v w5 ⟨hres, hB5⟩
      rcases hres with ⟨_, rfl⟩ | ⟨h, _⟩
      · refine ⟨_, rfl, ?_⟩
        refine dr U 600 rfl trivial ?_
        exact ret Tryz.results96 rfl ⟨_, rfl, hO4.trans (Oth.of_below hB5), .inr ⟨h0, rfl, hk4.below hB5 hk4.lt⟩⟩
      · omega
  · rintro v w1 h
    rcases h with ⟨e, h1, h2, rfl, h4⟩ | ⟨h1, hOX, ⟨h2, rfl, hkX⟩ | ⟨h2, rfl, hkX⟩⟩
    · have hkX := hk0.below h4 hlt5
      have hOX : Oth [b5] w0 w1 := Oth.of_below h4
      refine ⟨_, rfl, ?_⟩
      refine dr U 600 rfl trivial ?_
      have hq5 := hkX.cell (off := 0) rfl
      refine dwn 5 (fun w' => w'.cell? ⟨b5, 0, none⟩ = some (.string ⟨⟨[]⟩⟩)) hmo ?_
      intro w2 hh hg2
      have hC : w2.cell? ⟨b5, 0, none⟩ = some (.string ⟨⟨[]⟩⟩) := cell_heap hh hq5
      refine dq U [0,1,2,3] [(1, (.string ⟨⟨[]⟩⟩))] (by kernel_rfl) rfl rfl hC (by simp only [AllP, InR, List.nil_append, List.cons_append]; (repeat' apply And.intro); all_goals first | exact True.intro | omega | (simp only [List.length_cons, List.length_nil]; omega) | (intro w_ hw_; refine ldC U rfl hw_ ?_; first | assumption | (simp [add_plain]; assumption)) | (intro w_ hw_; refine run_load_cell U rfl ?_; first | exact hw_ | exact hw_.1 | exact hw_.2 | exact hw_.2.1 | exact hw_.2.2 | exact hw_.2.2.1 | exact hw_.2.2.2 | (simp [add_plain]; first | exact hw_.1 | exact hw_.2.1 | exact hw_.2.2))) ?_
      refine d1 rfl rfl (fun _ => hC) ?_
      have hk2 := heap_bk hh hkX
      refine st U rfl rfl rfl rfl rfl rfl rfl rfl rfl rfl (hk2) ?_
      intro w3 hk3 hg3 hs3
      refine d2 ?_
      refine d1 rfl rfl (fun _ => hk3.cell rfl) ?_
      refine dr U 600 rfl trivial ?_
      refine d3 ?_; refine dend rfl (fun h => by cases h) ?_
      refine dr U 600 rfl trivial ?_
      refine retC U Tryz.results60 (vs := [_, _, _]) ⟨rfl, ⟨_, rfl, rfl, hk3.cell rfl⟩, rfl, trivial⟩ ⟨_, rfl, (.inl ⟨e, h1, h2, rfl⟩), ?_⟩
      have hBX := bl_tr hB0 (hOX.below (Nat.le_refl w0.heap.size |> fun _ => hB0.size) (fun b hb => by simp at hb; omega)) (Nat.le_refl _)
      have hBX2 := hBX.grown hg2 hBX.size (fun k e => by cases e)
      exact hBX2.grown hg3 hBX2.size (fun k e => by cases e; omega)
    · refine ⟨_, rfl, ?_⟩
      refine dr U 600 rfl trivial ?_
      have hq5 := hkX.cell (off := 0) rfl
      refine dwn 5 (fun w' => w'.cell? ⟨b5, 0, none⟩ = some (.string ⟨⟨[]⟩⟩)) hmo ?_
      intro w2 hh hg2
      have hC : w2.cell? ⟨b5, 0, none⟩ = some (.string ⟨⟨[]⟩⟩) := cell_heap hh hq5
      refine dq U [0,1,2,3] [(1, (.string ⟨⟨[]⟩⟩))] (by kernel_rfl) rfl rfl hC (by simp only [AllP, InR, List.nil_append, List.cons_append]; (repeat' apply And.intro); all_goals first | exact True.intro | omega | (simp only [List.length_cons, List.length_nil]; omega) | (intro w_ hw_; refine ldC U rfl hw_ ?_; first | assumption | (simp [add_plain]; assumption)) | (intro w_ hw_; refine run_load_cell U rfl ?_; first | exact hw_ | exact hw_.1 | exact hw_.2 | exact hw_.2.1 | exact hw_.2.2 | exact hw_.2.2.1 | exact hw_.2.2.2 | (simp [add_plain]; first | exact hw_.1 | exact hw_.2.1 | exact hw_.2.2))) ?_
      refine d1 rfl rfl (fun _ => hC) ?_
      have hk2 := heap_bk hh hkX
      refine st U rfl rfl rfl rfl rfl rfl rfl rfl rfl rfl (hk2) ?_
      intro w3 hk3 hg3 hs3
      refine d2 ?_
      refine d1 rfl rfl (fun _ => hk3.cell rfl) ?_
      refine dr U 600 rfl trivial ?_
      refine d3 ?_; refine dend rfl (fun h => by cases h) ?_
      refine dr U 600 rfl trivial ?_
      refine retC U Tryz.results60 (vs := [_, _, _]) ⟨rfl, ⟨_, rfl, rfl, hk3.cell rfl⟩, rfl, trivial⟩ ⟨_, rfl, (.inr (.inl ⟨h1, h2, rfl⟩)), ?_⟩
      have hBX := bl_tr hB0 (hOX.below (Nat.le_refl w0.heap.size |> fun _ => hB0.size) (fun b hb => by simp at hb; omega)) (Nat.le_refl _)
      have hBX2 := hBX.grown hg2 hBX.size (fun k e => by cases e)
      exact hBX2.grown hg3 hBX2.size (fun k e => by cases e; omega)
    · refine ⟨_, rfl, ?_⟩
      refine dr U 600 rfl trivial ?_
      have hq5 := hkX.cell (off := 0) rfl
      refine dwn 5 (fun w' => w'.cell? ⟨b5, 0, none⟩ = some (.string ⟨⟨decDigits (dval x % dval y)⟩⟩)) hmo ?_
      intro w2 hh hg2
      have hC : w2.cell? ⟨b5, 0, none⟩ = some (.string ⟨⟨decDigits (dval x % dval y)⟩⟩) := cell_heap hh hq5
      refine dq U [0,1,2,3] [(1, (.string ⟨⟨decDigits (dval x % dval y)⟩⟩))] (by kernel_rfl) rfl rfl hC (by simp only [AllP, InR, List.nil_append, List.cons_append]; (repeat' apply And.intro); all_goals first | exact True.intro | omega | (simp only [List.length_cons, List.length_nil]; omega) | (intro w_ hw_; refine ldC U rfl hw_ ?_; first | assumption | (simp [add_plain]; assumption)) | (intro w_ hw_; refine run_load_cell U rfl ?_; first | exact hw_ | exact hw_.1 | exact hw_.2 | exact hw_.2.1 | exact hw_.2.2 | exact hw_.2.2.1 | exact hw_.2.2.2 | (simp [add_plain]; first | exact hw_.1 | exact hw_.2.1 | exact hw_.2.2))) ?_
      refine d1 rfl rfl (fun _ => hC) ?_
      have hk2 := heap_bk hh hkX
      refine st U rfl rfl rfl rfl rfl rfl rfl rfl rfl rfl (hk2) ?_
      intro w3 hk3 hg3 hs3
      refine d2 ?_
      refine d1 rfl rfl (fun _ => hk3.cell rfl) ?_
      refine dr U 600 rfl trivial ?_
      refine d3 ?_; refine dend rfl (fun h => by cases h) ?_
      refine dr U 600 rfl trivial ?_
      refine retC U Tryz.results60 (vs := [_, _, _]) ⟨rfl, ⟨_, rfl, rfl, hk3.cell rfl⟩, rfl, trivial⟩ ⟨_, rfl, (.inr (.inr ⟨h1, h2, rfl⟩)), ?_⟩
      have hBX := bl_tr hB0 (hOX.below (Nat.le_refl w0.heap.size |> fun _ => hB0.size) (fun b hb => by simp at hb; omega)) (Nat.le_refl _)
      have hBX2 := hBX.grown hg2 hBX.size (fun k e => by cases e)
      exact hBX2.grown hg3 hBX2.size (fun k e => by cases e; omega)
end Go.Proofs.YtabplbmbnakalaaGreatDoor
end
