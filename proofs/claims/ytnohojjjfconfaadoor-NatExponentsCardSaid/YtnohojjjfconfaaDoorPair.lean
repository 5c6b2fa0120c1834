/-
  Walk of package nat: pair, which reads two texts and computes with their numbers.
  Conditions: texts take fewer than 2^40 bytes.
-/
import Derived.Test.YtnohojjjfconfaaDoorNat
set_option linter.unusedSimpArgs false
set_option linter.unusedVariables false
set_option maxHeartbeats 1000000
namespace Go.Proofs.YtnohojjjfconfaaDoor
open Go Go.Proofs Go.RowKit Go.Lib

section
variable {P : Program} (U : Tys P) {ro : Option Nat} {n : Nat} {ds : List Deferred} {Q : PT} {l l' : Fr} {w w' : World} {arr : Array Oper} {r : List Oper} {k : List It}
/-- A slice of two written-out ints. -/
theorem bs2 {d1 : Nat} {t e ty : TypeId} {x y : Operand} {ps : String} {af : Array Edge} {g1 : Option (Nat × Bool)} {kk : IntKind} {a b : Int} {by_ : Nat} {z0 : Int}
    (hx : ev l x = some (.int kk a)) (hy : ev l y = some (.int kk b)) (ht : U.tb.u t = some (.slice e)) (hi : U.tb.inf e = some (1, by_, .int kk z0)) (hg1 : gd arr l g1 = some true) (hd1 : Nat.blt d1 n = true)
    (t' : ∀ w1, Bk w1 w.heap.size e [.int kk a, .int kk b] → w1.heap.size = w.heap.size + 1 → w.grownBy w1 none → T P ro n ds Q ((d1, .slice (some ⟨w.heap.size, 0, none⟩) 2 2) :: l) w1 (.ops arr r) k) :
    T P ro n ds Q l w (.ops arr (⟨some d1, .buildSlice t 2 #[(0, x), (1, y)], ty, ps, af, g1⟩ :: r)) k := by
  obtain ⟨i, hi0, hz1, hz2, hz3⟩ := U.hi _ _ _ _ hi
  have hpt := U.hu _ _ ht
  refine op1 (w' := w.alloc (.cells #[.int kk a, .int kk b] e)) (v := .slice (some ⟨w.heap.size, 0, none⟩) 2 2) (by intro c h; cases h) hg1 (put1_some hd1) (fun act hf => ?_) (t' _ (heap_alloc_new w _) (by simp) (World.grownBy_alloc w _ none))
  simp only [execOp, Instr.buildSlice]
  simp [hf.ev hx, hf.ev hy, run_under hpt, sizeOf, typeInfo, program, Sem.run, hi0, hz1, zeroValue, hz3, Instr.fill, newRow, newObj, Value.cells]
  congr 2
  apply Array.toList_inj.1
  simp [List.range_succ]
end

/-- The error of two texts. -/
def Chk2 (x y : List UInt8) (e : Int) : Prop := ∃ e1 e2, Chk x e1 ∧ Chk y e2 ∧ e = if e1 ≠ 0 then e1 else e2

theorem chk_ok {l : List UInt8} (h : Chk l 0) : Form l ∧ l.length ≤ 4000 := by
  rcases h with ⟨h1, h2, _⟩ | ⟨_, _, h⟩ | ⟨_, h⟩
  · exact ⟨h1, h2⟩
  · cases h
  · cases h
theorem chk2_ok {x y : List UInt8} (h : Chk2 x y 0) : (Form x ∧ x.length ≤ 4000) ∧ Form y ∧ y.length ≤ 4000 := by
  obtain ⟨e1, e2, h1, h2, h3⟩ := h
  split at h3
  · rename_i h4; exact absurd h3.symm h4
  · rename_i h4
    have h5 := Classical.not_not.1 h4
    subst h5; subst h3
    exact ⟨chk_ok h1, chk_ok h2⟩

theorem pair_calls (x y : List UInt8) (f : Nat) (cs : List Value) (hcb : Callable Tryd.prog f) (hx : x.length ≤ 1099511627776) (hy : y.length ≤ 1099511627776) (w : World) (R : Value → World → Prop) (hR : ∀ v w', R v w' → ∃ v1 v2, v = .tuple ⟨[v1, v2]⟩)
    (hf : ∀ w1 a c b d, (Form x ∧ x.length ≤ 4000) → (Form y ∧ y.length ≤ 4000) → Below w.heap.size w w1 → Rd w1 a c (lim (dval x)) → Rd w1 b d (lim (dval y)) →
      Calls Tryd.prog f (.slice a (lim (dval x)).length c :: .slice b (lim (dval y)).length d :: cs).toArray w1 (Ret R)) :
    Calls Tryd.prog 24 #[.string ⟨⟨x⟩⟩, .string ⟨⟨y⟩⟩, .func (.func f) ⟨[]⟩ ⟨cs⟩] w
      (Ret fun v w' => (∃ e, e ≠ 0 ∧ Chk2 x y e ∧ v = .tuple ⟨[.string ⟨⟨[]⟩⟩, .int .i64 e]⟩ ∧ Below w.heap.size w w') ∨ (Chk2 x y 0 ∧ R v w')) := by
  refine enter Tryd.func24 rfl Tryd.ntmps24 (Nat.le_of_ble_eq_true rfl) ?_
  refine dr U 600 rfl trivial ?_
  refine call (f := 16) rfl rfl cb16 (check_calls x hx w) ?_
  rintro v w1 ⟨⟨e1, rfl, hc1⟩, hB1⟩
  refine ⟨_, rfl, ?_⟩
  refine dr U 600 rfl trivial ?_
  refine call (f := 16) rfl rfl cb16 (check_calls y hy w1) ?_
  rintro v w2 ⟨⟨e2, rfl, hc2⟩, hB2⟩
  refine ⟨_, rfl, ?_⟩
  have hB2' := bl_tr hB1 hB2 hB1.size
  refine bs2 U rfl rfl rfl rfl rfl rfl ?_
  intro w3 hk hs3 hg3
  refine call (f := 31) rfl rfl cb31 (first_calls e1 e2 w2.heap.size w3 (hk.sl 0)) ?_
  rintro v w4 ⟨rfl, rfl⟩
  refine ⟨_, rfl, ?_⟩
  have hB3 := hB2'.grown hg3 hB2'.size (fun k e => by cases e)
  generalize he : (if e1 ≠ 0 then e1 else e2) = e
  have hch : Chk2 x y e := ⟨e1, e2, hc1, hc2, he.symm⟩
  refine dr U 600 rfl trivial ?_
  refine cS rfl rfl rfl rfl (fun hq => ?_) (fun hq => ?_)
  · refine dr U 600 rfl trivial ?_
    exact ret Tryd.results24 rfl ⟨_, rfl, .inl ⟨e, hq, hch, rfl, hB3⟩⟩
  · obtain rfl := Classical.not_not.1 hq
    obtain ⟨hox, hoy⟩ := chk2_ok hch
    refine dr U 600 rfl trivial ?_
    refine call (f := 21) rfl rfl cb21 (parse_calls x hox.1.2.2 hx w3) ?_
    rintro v w5 ⟨a5, c5, rfl, ho5, hB5⟩
    refine ⟨_, rfl, ?_⟩
    refine dr U 600 rfl trivial ?_
    refine call (f := 21) rfl rfl cb21 (parse_calls y hoy.1.2.2 hy w5) ?_
    rintro v w6 ⟨a6, c6, rfl, ho6, hB6⟩
    refine ⟨_, rfl, ?_⟩
    have hB5' := bl_tr hB3 hB5 hB3.size
    have hB6' := bl_tr hB5' hB6 hB5'.size
    refine call (f := f) rfl rfl hcb (hf w6 a5 c5 a6 c6 hox hoy hB6' ((own_rd ho5).below hB6) (own_rd ho6)) ?_
    rintro v w7 hr
    obtain ⟨v1, v2, rfl⟩ := hR v w7 hr
    refine ⟨_, rfl, ?_⟩
    refine dr U 600 rfl trivial ?_
    exact ret Tryd.results24 rfl ⟨_, rfl, .inr ⟨hch, hr⟩⟩
end Go.Proofs.YtnohojjjfconfaaDoor
