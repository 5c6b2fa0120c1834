/-
  Walks of the reference's rational numbers: one, Reduce, Write, Plus.
  Conditions: numbers take fewer than 2^34 limbs.
-/
import Derived.Test.YtfdekppnilffeaaGreatDoorYQ
import Derived.Test.YtfdekppnilffeaaGreatDoorYStr
import Derived.Test.YtfdekppnilffeaaGreatDoorYRG
set_option linter.unusedSimpArgs false
set_option linter.unusedVariables false
set_option maxHeartbeats 1000000
namespace Go.Proofs.YtfdekppnilffeaaGreatDoor
open Go Go.Proofs Go.RowKit Go.Lib

/-- A number of the reference that reads so. -/
def QV (w : World) (v : Value) (m : Bool) (n d : Nat) : Prop := ∃ an cn ad cd, v = .agg ⟨[.bool m, .slice an (lim n).length cn, .slice ad (lim d).length cd]⟩ ∧ RdI w an cn (lim n) ∧ RdI w ad cd (lim d)
theorem QV.below {w w' : World} {v : Value} {m : Bool} {n d : Nat} (h : QV w v m n d) (hb : Below w.heap.size w w') : QV w' v m n d := by
  obtain ⟨an, cn, ad, cd, rfl, h1, h2⟩ := h
  exact ⟨an, cn, ad, cd, rfl, h1.below hb, h2.below hb⟩
theorem RdI.past {w w' : World} {a : Option Addr} {c : Nat} {xs : List Nat} {b t : Nat} {cs : List Value} (h : RdI w a c xs) (hk : Bk w b t cs) (hn : NoInt cs) (hg : w.grownBy w' (some b)) (ht : Nat.beq 3 t = false := by rfl) : RdI w' a c xs :=
  ⟨h.1.past (fun v hv => by obtain ⟨x, _, rfl⟩ := List.mem_map.1 hv; exact ⟨_, _, rfl⟩) hk hn hg, h.2.1, fun g e => (h.2.2 g e).grown hg (fun e' => (h.2.2 g e).ne hk.tg ht (by cases e'; rfl))⟩
theorem ag_q : AggOk Tryz.prog 75 3 := ⟨⟨_, Tryz.underlying75⟩, inf75.sz⟩
/-- A number of the reference that is this one. -/
def QR (w : World) (v : Value) (r : Rat) : Prop := QV w v (decide (r.num < 0)) r.num.natAbs r.den
theorem qr_of {w : World} {v : Value} {m : Bool} {n d : Nat} (hd : d ≠ 0) (h : QV w v (m && decide (n ≠ 0)) (n / Nat.gcd n d) (d / Nat.gcd n d)) : QR w v (mkq m n d) := by
  unfold QR
  rw [mkq_num m n d hd, (mkq_form m n d hd).2]
  rwa [show decide ((mkq m n d).num < 0) = (m && decide (n ≠ 0)) from by
    rw [Bool.eq_iff_iff]; simp [mkq_neg m n d hd]]

theorem rone_calls (w : World) : Calls Tryz.prog 104 #[] w (Ret fun v w' => (∃ a c, v = .slice a (lim 1).length c ∧ RdI w' a c (lim 1)) ∧ Below w.heap.size w w') := by
  refine enter Tryz.func104 rfl Tryz.ntmps104 (Nat.le_of_ble_eq_true rfl) ?_
  refine dr U 600 rfl trivial ?_
  refine bs1 U (v := i64n 1) rfl rfl rfl rfl rfl rfl rfl ?_
  intro w1 hk1 hs1 hg1
  refine dr U 600 rfl trivial ?_
  refine ret Tryz.results104 rfl ⟨_, rfl, ⟨some ⟨w.heap.size, 0, none⟩, 1, by rw [lim_one]; rfl, ?_⟩, (Below.refl _ _).grown hg1 (Nat.le_refl _) (fun k e => by cases e)⟩
  rw [lim_one]; exact ⟨by simpa using hk1.sl 0, by simp, fun g hg => by simp [ab] at hg; subst hg; exact hk1.tg⟩

section
variable {P : Program} (U : Tys P) {ro : Option Nat} {n : Nat} {ds : List Deferred} {Q : PT} {l l' : Fr} {w w' : World} {arr : Array Oper} {r : List Oper} {k : List It}
/-- Two bools are compared. -/
theorem eqlB {d : Nat} {t t2 ty : TypeId} {x y : Operand} {ps : String} {af : Array Edge} {g : Option (Nat × Bool)} {a b c : Bool} (hx : ev l x = some (.bool a)) (hy : ev l y = some (.bool b)) (ht : U.tb.u t = some .bool) (hc : (a == b) = c) (hg : gd arr l g = some true) (hd : Nat.blt d n = true)
    (t' : T P ro n ds Q ((d, .bool c) :: l) w (.ops arr r) k) : T P ro n ds Q l w (.ops arr (⟨some d, .binOp .eql t x y t2, ty, ps, af, g⟩ :: r)) k :=
  op1 (v := .bool c) (by intro c h; cases h) hg (put1_some hd) (fun act hf => by
    have h1 := run_equal_bool (P := P) w t a b (U.hu _ _ ht)
    rw [hc] at h1
    simp [execOp, hf.ev hx, hf.ev hy, eqGuard, binOp, h1]) t'
end

theorem mkq_add_same (m : Bool) (a b c d : Nat) (hb : b ≠ 0) (hd : d ≠ 0) : mkq m a b + mkq m c d = mkq m (a * d + c * b) (b * d) := by
  rw [mkq_add m m a b c d hb hd]
  unfold mkq
  congr 1
  cases m <;> simp [Int.neg_add]
theorem mkq_add_lt (m : Bool) (a b c d : Nat) (hb : b ≠ 0) (hd : d ≠ 0) (h : a * d ≤ c * b) : mkq m a b + mkq (!m) c d = mkq (!m) (c * b - a * d) (b * d) := by
  rw [mkq_add m (!m) a b c d hb hd]
  unfold mkq
  congr 1
  generalize a * d = x at *
  generalize c * b = y at *
  cases m <;> simp <;> omega
theorem mkq_add_ge (m : Bool) (a b c d : Nat) (hb : b ≠ 0) (hd : d ≠ 0) (h : c * b ≤ a * d) : mkq m a b + mkq (!m) c d = mkq m (a * d - c * b) (b * d) := by
  rw [mkq_add m (!m) a b c d hb hd]
  unfold mkq
  congr 1
  generalize a * d = x at *
  generalize c * b = y at *
  cases m <;> simp <;> omega
theorem Small.lim {k : Nat} {r : Rat} (h : Small k r) : (lim r.num.natAbs).length ≤ k ∧ (lim r.den).length ≤ k := ⟨Nat.le_trans (lim_le_nD _) h.1, Nat.le_trans (lim_le_nD _) h.2⟩
end Go.Proofs.YtfdekppnilffeaaGreatDoor
