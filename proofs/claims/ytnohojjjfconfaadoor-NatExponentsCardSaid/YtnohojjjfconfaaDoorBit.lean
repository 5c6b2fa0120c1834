/-
  Rules of the engine for bits of unsigned numbers: the lowest bit, a shift to the right by a constant.
  No conditions: each theorem names its own premises.
-/
import Derived.Test.YtnohojjjfconfaaDoorRul
set_option linter.unusedVariables false
set_option linter.unusedSimpArgs false
namespace Go.Proofs.YtnohojjjfconfaaDoor
open Go.RowKit

section
variable {P : Program} {ro : Option Nat} {n : Nat} {ds : List Deferred} {Q : PT} {l l' : Fr} {w w' : World} {arr : Array Oper} {r : List Oper} {k : List It}

theorem and1 {d : Nat} {t t2 ty : TypeId} {x y : Operand} {ps : String} {af : Array Edge} {g : Option (Nat × Bool)} (m : Nat) (hx : ev l x = some (.int .u64 (m : Nat))) (hy : ev l y = some (.int .u64 1)) (hm : m < 18446744073709551616) (hg : gd arr l g = some true) (hd : Nat.blt d n = true)
    (t' : T P ro n ds Q ((d, .int .u64 ((m % 2 : Nat) : Int)) :: l) w (.ops arr r) k) : T P ro n ds Q l w (.ops arr (⟨some d, .binOp .and t x y t2, ty, ps, af, g⟩ :: r)) k := by
  have h1 : (BitVec.ofInt 64 (m : Int) &&& BitVec.ofInt 64 1).toNat = m % 2 := by
    rw [BitVec.toNat_and]
    have h2 : (BitVec.ofInt 64 (m : Int)).toNat = m := by simp [BitVec.toNat_ofInt]; omega
    have h3 : (BitVec.ofInt 64 1).toNat = 1 := by decide
    rw [h2, h3, Nat.and_one_is_mod]
  have h4 : IntKind.u64.wrap (((m % 2 : Nat) : Int)) = ((m % 2 : Nat) : Int) := wrap_in (by simp only [InR]; omega)
  refine op1 (w' := w) (v := .int .u64 ((m % 2 : Nat) : Int)) (by intro c h; cases h) hg (by simp only [put1, hd]) (fun a hf => ?_) t'
  have h5 : (binOp .and t (.int .u64 (m : Nat)) (.int .u64 1)).run P w = .ok (.int .u64 ((m % 2 : Nat) : Int)) w := by
    simp only [binOp_and, Op.intBits]
    show (pure _ : Sem Value).run P w = _
    simp only [Sem.run_pure]
    show Result.ok (Value.int .u64 (IntKind.u64.wrap ((BitVec.ofInt 64 (m : Int) &&& BitVec.ofInt 64 1).toNat : Int))) w = _
    rw [h1, h4]
  simp [execOp, hf.ev hx, hf.ev hy, eqGuard, h5]

theorem shr1 {d : Nat} {t t2 ty : TypeId} {x y : Operand} {ps : String} {af : Array Edge} {g : Option (Nat × Bool)} {kk : IntKind} (m s : Nat) (hx : ev l x = some (.int .u64 (m : Nat))) (hy : ev l y = some (.int kk (s : Nat))) (hs : s ≤ 64) (hg : gd arr l g = some true) (hd : Nat.blt d n = true)
    (t' : T P ro n ds Q ((d, .int .u64 ((m / 2 ^ s : Nat) : Int)) :: l) w (.ops arr r) k) : T P ro n ds Q l w (.ops arr (⟨some d, .binOp .shr t x y t2, ty, ps, af, g⟩ :: r)) k := by
  refine op1 (w' := w) (v := .int .u64 ((m / 2 ^ s : Nat) : Int)) (by intro c h; cases h) hg (by simp only [put1, hd]) (fun a hf => ?_) t'
  have h5 : (binOp .shr t (.int .u64 (m : Nat)) (.int kk (s : Nat))).run P w = .ok (.int .u64 ((m / 2 ^ s : Nat) : Int)) w := by
    simp only [binOp, Op.shift]
    rw [if_neg (by omega)]
    have hmin : min ((s : Nat) : Int).toNat IntKind.u64.bits = s := by
      show min ((s : Nat) : Int).toNat 64 = s
      rw [Int.toNat_natCast]; omega
    rw [hmin]
    simp only [Sem.run_pure]
    congr 2
    rw [show ((2 : Int) ^ s) = ((2 ^ s : Nat) : Int) by simp, Int.fdiv_eq_ediv_of_nonneg _ (Int.natCast_nonneg _)]
    rfl
  simp [execOp, hf.ev hx, hf.ev hy, eqGuard, h5]
end
end Go.Proofs.YtnohojjjfconfaaDoor
