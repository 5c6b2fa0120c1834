/-
  Walks of package bits: Join, FromBytes.
  Conditions: texts take fewer than 2^40 bytes.
-/
import Derived.Test.YtabplbmbnakalaaGreatDoorYWx
import Derived.Test.YtabplbmbnakalaaGreatDoorYBl
set_option linter.unusedSimpArgs false
set_option linter.unusedVariables false
set_option maxHeartbeats 1000000
namespace Go.Proofs.YtabplbmbnakalaaGreatDoor
open Go Go.Proofs Go.RowKit Go.Lib

theorem Sl.stay {w w' : World} {a : Option Addr} {vs : List Value} (h : Sl w a vs) (hb : Below w.heap.size w w') : Sl w' a vs := by
  by_cases he : vs = []
  · subst he; exact Sl.nil _ _
  · exact h.below hb (h.lt he)
/-- What Join answers. -/
def JoinR (ls : List (List UInt8)) (v : Value) : Prop :=
  ((∃ s ∈ ls, ¬ Bin s) ∧ v = .tuple ⟨[.string ⟨⟨[]⟩⟩, .int .i64 3]⟩) ∨ ((∀ s ∈ ls, Bin s) ∧ v = .tuple ⟨[.string ⟨⟨ls.flatten⟩⟩, .int .i64 0]⟩)
theorem JoinR.uniq {ls : List (List UInt8)} {v v' : Value} (h : JoinR ls v) (h' : JoinR ls v') : v = v' := by
  rcases h with ⟨⟨s, h1, h2⟩, rfl⟩ | ⟨h1, rfl⟩ <;> rcases h' with ⟨⟨t, h3, h4⟩, rfl⟩ | ⟨h3, rfl⟩
  · rfl
  · exact absurd (h3 s h1) h2
  · exact absurd (h1 t h3) h4
  · rfl

theorem flat_take {ls : List (List UInt8)} (i : Nat) (h : i < ls.length) : (ls.take (i + 1)).flatten = (ls.take i).flatten ++ ls.getD i [] := by
  rw [List.take_succ_eq_append_getElem h, List.flatten_append]
  simp [List.getD, h]
theorem flat_len {ls : List (List UInt8)} (i : Nat) : (ls.take i).flatten.length ≤ ls.flatten.length := by
  have := congrArg List.length (congrArg List.flatten (List.take_append_drop i ls))
  rw [List.flatten_append, List.length_append] at this
  omega

/-- The i-th bit of bytes. -/
def fbit (bs : List UInt8) (i : Nat) : Bool := decide ((bs.getD (i / 8) 0).toNat / 2 ^ (7 - i % 8) % 2 = 1)
def fbits (bs : List UInt8) (n : Nat) : List UInt8 := (List.range n).map fun i => bitc (fbit bs i)
theorem fbits_succ (bs : List UInt8) (n : Nat) : fbits bs (n + 1) = fbits bs n ++ [bitc (fbit bs n)] := by simp [fbits, List.range_succ]
theorem fbits_length (bs : List UInt8) (n : Nat) : (fbits bs n).length = n := by simp [fbits]
/-- What FromBytes answers. -/
def FbR (bs : List UInt8) (n : Int) (v : Value) : Prop :=
  ((n < 0 ∨ 256 < n) ∧ v = .tuple ⟨[.string ⟨⟨[]⟩⟩, .int .i64 2]⟩) ∨
  (0 ≤ n ∧ n ≤ 256 ∧ 8 * (bs.length : Int) < n ∧ v = .tuple ⟨[.string ⟨⟨[]⟩⟩, .int .i64 16]⟩) ∨
  (0 ≤ n ∧ n ≤ 256 ∧ n ≤ 8 * (bs.length : Int) ∧ v = .tuple ⟨[.string ⟨⟨fbits bs n.toNat⟩⟩, .int .i64 0]⟩)
theorem FbR.uniq {bs : List UInt8} {n : Int} {v v' : Value} (h : FbR bs n v) (h' : FbR bs n v') : v = v' := by
  rcases h with ⟨h1, rfl⟩ | ⟨h1, h2, h3, rfl⟩ | ⟨h1, h2, h3, rfl⟩ <;> rcases h' with ⟨g1, rfl⟩ | ⟨g1, g2, g3, rfl⟩ | ⟨g1, g2, g3, rfl⟩ <;> first | rfl | (exfalso; omega)

theorem top_bit (x : UInt8) (s : Nat) (hs : s < 8) : (128 ≤ x.toNat * 2 ^ s % 256) ↔ x.toNat / 2 ^ (7 - s) % 2 = 1 := by
  have key : ∀ (a : Fin 256) (s : Fin 8), (128 ≤ a.val * 2 ^ s.val % 256) = (a.val / 2 ^ (7 - s.val) % 2 = 1) ∨ decide (128 ≤ a.val * 2 ^ s.val % 256) = decide (a.val / 2 ^ (7 - s.val) % 2 = 1) := fun a s => .inr (by
    revert a s; decide +kernel)
  rcases key ⟨x.toNat, x.toNat_lt⟩ ⟨s, hs⟩ with h | h
  · exact iff_of_eq h
  · exact decide_eq_decide.1 h

section
variable {P : Program} {ro : Option Nat} {n : Nat} {ds : List Deferred} {Q : PT} {l l' : Fr} {w w' : World} {arr : Array Oper} {r : List Oper} {k : List It}
theorem and128 {d : Nat} {t t2 ty : TypeId} {x y : Operand} {ps : String} {af : Array Edge} {g : Option (Nat × Bool)} (m : Nat) (hx : ev l x = some (.int .u8 (m : Nat))) (hy : ev l y = some (.int .u8 128)) (hm : m < 256) (hg : gd arr l g = some true) (hd : Nat.blt d n = true)
    (t' : T P ro n ds Q ((d, .int .u8 ((if 128 ≤ m then 128 else 0 : Nat) : Int)) :: l) w (.ops arr r) k) : T P ro n ds Q l w (.ops arr (⟨some d, .binOp .and t x y t2, ty, ps, af, g⟩ :: r)) k := by
  have key : ∀ a : Fin 256, IntKind.u8.wrap ((BitVec.ofInt 8 ((a.val : Nat) : Int) &&& BitVec.ofInt 8 128).toNat : Int) = ((if 128 ≤ a.val then 128 else 0 : Nat) : Int) := by decide +kernel
  have h1 := key ⟨m, hm⟩
  refine op1 (w' := w) (v := .int .u8 ((if 128 ≤ m then 128 else 0 : Nat) : Int)) (by intro c h; cases h) hg (by simp only [put1, hd]) (fun a hf => ?_) t'
  have h5 : (binOp .and t (.int .u8 (m : Nat)) (.int .u8 128)).run P w = .ok (.int .u8 ((if 128 ≤ m then 128 else 0 : Nat) : Int)) w := by
    simp only [binOp_and, Op.intBits]
    show (pure _ : Sem Value).run P w = _
    simp only [Sem.run_pure]
    show Result.ok (Value.int .u8 (IntKind.u8.wrap ((BitVec.ofInt 8 (m : Int) &&& BitVec.ofInt 8 128).toNat : Int))) w = _
    rw [h1]
  simp [execOp, hf.ev hx, hf.ev hy, eqGuard, h5]
end
theorem wrap_u8 (a : Nat) (s : Nat) : IntKind.u8.wrap ((a : Int) * 2 ^ s) = ((a * 2 ^ s % 256 : Nat) : Int) := by
  rw [show ((a : Int) * 2 ^ s) = ((a * 2 ^ s : Nat) : Int) by simp]
  simp [IntKind.wrap, IntKind.bits, IntKind.signed]

end Go.Proofs.YtabplbmbnakalaaGreatDoor
