/-
  Walks of package nat: FromInt, ToInt, Bits.
  Conditions: texts take fewer than 2^40 bytes; the library's table of powers of ten is laid, and its error of range.
-/
import Derived.Test.YtabplbmbnakalaaGreatDoorYRG
import Derived.WalkSmall
import Derived.WideLaws
set_option linter.unusedSimpArgs false
set_option linter.unusedVariables false
set_option maxHeartbeats 1000000
namespace Go.Proofs.YtabplbmbnakalaaGreatDoor
open Go Go.Proofs Go.RowKit Go.Lib Go.Sort

theorem grow_below (w : World) (k : Nat) (os : Array Obj) : Below w.heap.size w (grow (w.drewN k) os) :=
  (below_drewN (Below.refl _ w) k).trans ⟨rfl, rfl, rfl, by simp [grow], fun i hi => by
    have : i < (w.drewN k).heap.size := hi
    simp only [grow]
    rw [Array.getElem?_append_left this]⟩

theorem itoa_calls (n : Nat) (hn : n ≤ 9223372036854775807) (w : World) (ht : TabOk w) :
    Calls Tryz.prog 176 #[.int .i64 (n : Nat)] w (Ret fun v w' => v = .string ⟨⟨decDigits n⟩⟩ ∧ Below w.heap.size w w') :=
  (Tryz.strconv_Itoa (n : Int) (by omega) (by omega) w (ht.tab (by kernel_rfl))).mono (by
    rintro e w' ⟨rfl, k, os, rfl⟩
    refine ⟨_, rfl, ?_, grow_below w k os⟩
    rw [itoa_nonneg])

/-- The bytes of a builder that is not empty, as a string. -/
theorem bstring_calls (base b : Nat) (bs : List UInt8) (w : World) (h : Bld w base b bs) (hne : bs ≠ []) :
    Calls Tryz.prog 136 #[.pointer (some ⟨b, 0, none⟩)] w (Ret fun v w' => v = .string ⟨⟨bs⟩⟩ ∧ Below base w w') := by
  have hib : Lib.IsBuilder 163 5 base b (byteCells bs) w := by
    obtain ⟨h1, p, a2, m, c2, h2, h3, h4, h5⟩ := h
    have hm2 := own_len h4
    subst hm2
    rcases h2 with rfl | rfl
    · exact .inl ⟨h1, _, h3, h4, by rw [ownBlock_ab]; exact fun e => h5 b e rfl⟩
    · exact .inr ⟨h1, _, h3, h4, by rw [ownBlock_ab]; exact fun e => h5 b e rfl⟩
  exact (Any.Builder_String_k Tryz.lays169 Tryz.Builder_Extra_169 base b bs w (IsBuilderF.of hib) hne).mono (by rintro e w' ⟨rfl, _, h, hk⟩; exact ⟨_, rfl, rfl, h⟩)

theorem dvalA_ge (a : Nat) (l : List UInt8) : a ≤ dvalA a l := by
  rw [dvalA_eq]
  have := Nat.le_mul_of_pos_right a (Nat.pow_pos (n := l.length) (show 0 < 10 by omega))
  omega
theorem parse10 : ∀ (l : List UInt8) (acc : Nat), Dgs l → acc < 18446744073709551616 → (dvalA acc l < 18446744073709551616 → parseUint10 acc l = .ok (dvalA acc l)) ∧ (18446744073709551616 ≤ dvalA acc l → parseUint10 acc l = .range)
  | [], acc, _, ha => by
    rw [dvalA_nil, parseUint10]
    exact ⟨fun _ => rfl, fun h => by omega⟩
  | c :: r, acc, h, ha => by
    have hc : isD c := h c (by simp)
    have hr : Dgs r := fun b hb => h b (by simp [hb])
    unfold isD at hc
    have hge := dvalA_ge (acc * 10 + (c.toNat - 48)) r
    rw [dvalA_cons, parseUint10, if_pos hc]
    by_cases h1 : 1844674407370955162 ≤ acc
    · rw [if_pos h1]
      exact ⟨fun h2 => by omega, fun _ => rfl⟩
    · rw [if_neg h1]
      by_cases h2 : 18446744073709551616 ≤ acc * 10 + (c.toNat - 48)
      · rw [if_pos h2]
        exact ⟨fun h3 => by omega, fun _ => rfl⟩
      · rw [if_neg h2]
        exact parse10 r _ hr (by omega)
theorem atoi_form {x : List UInt8} (h : Form x) : (dval x ≤ 9223372036854775807 → atoiAll x = .ok (dval x : Nat)) ∧ (9223372036854775807 < dval x → atoiAll x = .range) := by
  obtain ⟨hne, _, hd⟩ := h
  cases x with
  | nil => exact absurd rfl hne
  | cons c r =>
    have hc := hd c (by simp)
    unfold isD at hc
    rw [atoiAll_plain c r (by omega) (by omega)]
    unfold parseMag
    rw [if_neg (by simp)]
    obtain ⟨h1, h2⟩ := parse10 (c :: r) 0 hd (by omega)
    change (dval (c :: r) < _ → _ = NumEnd.ok (dval (c :: r))) at h1
    change (_ ≤ dval (c :: r) → _) at h2
    generalize dval (c :: r) = n at *
    refine ⟨fun hn => ?_, fun hn => ?_⟩
    · rw [h1 (by omega)]
      simp only [signless]
      rw [if_neg (by omega)]
    · rcases Nat.lt_or_ge n 18446744073709551616 with h3 | h3
      · rw [h1 h3]
        simp only [signless]
        rw [if_pos (by omega)]
      · rw [h2 h3]; rfl

/-- The library's error of range is laid. -/
def ErrOk (w : World) : Prop := ∃ ev, w.cell? ⟨2, 0, none⟩ = some ev ∧ (ev = .nilIface ∨ ∃ te pe, ev = .iface te pe)
theorem ErrOk.below {w w' : World} (h : ErrOk w) (hb : Below w.heap.size w w') : ErrOk w' := by
  obtain ⟨ev, h1, h2⟩ := h
  exact ⟨ev, by rw [hb.cell (World.block_lt_of_cell? w _ h1)]; exact h1, h2⟩

section
variable {P : Program} {ro : Option Nat} {n : Nat} {ds : List Deferred} {Q : PT} {l l' : Fr} {w w' : World} {arr : Array Oper} {r : List Oper} {k : List It}
/-- An error that is one, compared with nil. -/
theorem neqE {d : Nat} {t t2 ty : TypeId} {x : Operand} {ps : String} {af : Array Edge} {g : Option (Nat × Bool)} {u : TypeId} {z : Value} (hx : ev l x = some (.iface u z)) (hm : P.underlying t = some (.interface (P.methodsAt t))) (hg : gd arr l g = some true) (hd : Nat.blt d n = true)
    (t' : T P ro n ds Q ((d, .bool true) :: l) w (.ops arr r) k) : T P ro n ds Q l w (.ops arr (⟨some d, .binOp .neq t x (.const .nilIface) t2, ty, ps, af, g⟩ :: r)) k :=
  op1 (v := .bool true) (by intro c h; cases h) hg (put1_some hd) (fun a hf => by
    have h1 := run_equal_held_nil (P := P) w t u z hm
    have h2 : a.eval (.const .nilIface) = .nilIface := rfl
    simp [execOp, hf.ev hx, h2, eqGuard_at_iface, binOp, h1]) t'
theorem neqN {d : Nat} {t t2 ty : TypeId} {x : Operand} {ps : String} {af : Array Edge} {g : Option (Nat × Bool)} (hx : ev l x = some .nilIface) (hm : P.underlying t = some (.interface (P.methodsAt t))) (hg : gd arr l g = some true) (hd : Nat.blt d n = true)
    (t' : T P ro n ds Q ((d, .bool false) :: l) w (.ops arr r) k) : T P ro n ds Q l w (.ops arr (⟨some d, .binOp .neq t x (.const .nilIface) t2, ty, ps, af, g⟩ :: r)) k :=
  op1 (v := .bool false) (by intro c h; cases h) hg (put1_some hd) (fun a hf => by
    have h1 := run_equal_nil_nil (P := P) w t hm
    have h2 : a.eval (.const .nilIface) = .nilIface := rfl
    simp [execOp, hf.ev hx, h2, eqGuard_nil_constR, binOp, h1]) t'
end

end Go.Proofs.YtabplbmbnakalaaGreatDoor
