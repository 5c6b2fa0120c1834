/-
  Walks of package bits: Cell, All; of the law package's helpers: Same, lives.
  Conditions: texts take fewer than 2^40 bytes; the library's table of powers of ten is laid.
-/
import Derived.Test.YtabplbmbnakalaaGreatDoorYRng
import Derived.Test.YtabplbmbnakalaaGreatDoorYQ
import Derived.Test.YtabplbmbnakalaaGreatDoorYStr
import Derived.Test.YtabplbmbnakalaaGreatDoorYRG
set_option linter.unusedSimpArgs false
set_option linter.unusedVariables false
set_option maxHeartbeats 1000000
namespace Go.Proofs.YtabplbmbnakalaaGreatDoor
open Go Go.Proofs Go.RowKit Go.Lib

theorem dec_noneg (n : Nat) : ineg (decDigits n) = false ∧ irest (decDigits n) = decDigits n := by
  have hf : Form (decDigits n) := form_iff.2 ⟨n, rfl⟩
  have h : hasPrefix (decDigits n) [45] = false := by
    unfold hasPrefix
    cases hl : decDigits n with
    | nil => rfl
    | cons c t =>
      have := hf.2.2 c (by rw [hl]; simp)
      unfold isD at this
      simp only [List.isPrefixOf, Bool.and_true]
      rw [beq_eq_false_iff_ne]
      rintro rfl
      revert this; decide
  exact ⟨h, by unfold irest trimPrefix; rw [h]; rfl⟩
theorem make_nat {k d : Nat} {v : Value} (hk : nDigits k ≤ 4000) (hd : nDigits d ≤ 4000) (h0 : d ≠ 0) (h : MakeR (decDigits k) (decDigits d) v) : v = .tuple ⟨[.string ⟨⟨qtext (mkq false k d)⟩⟩, .int .i64 0]⟩ := by
  obtain ⟨h1, h2⟩ := dec_noneg k
  have hf : Form (decDigits k) := form_iff.2 ⟨k, rfl⟩
  have hfd : Form (decDigits d) := form_iff.2 ⟨d, rfl⟩
  have hne : decDigits d ≠ [48] := fun e => h0 (by have := (dec_dval d).2; rw [e] at this; exact this.symm)
  refine h.uniq (.inr ⟨.inr (.inr (.inr (.inr ⟨⟨by rw [h2]; exact hf, by rw [h1]; simp⟩, by rw [h2, decDigits_length]; exact hk, .inl ⟨hfd, by rw [decDigits_length]; exact hd, rfl⟩, hne, rfl⟩))), ?_⟩)
  rw [h1, h2, (dec_dval k).2, (dec_dval d).2]
  exact .inl ⟨mkq_small h0 hk hd, rfl⟩

/-- What Cell answers. -/
def CellR (l : List UInt8) (v : Value) : Prop :=
  (∃ e, e ≠ 0 ∧ SChk l e ∧ v = .tuple ⟨[.string ⟨⟨[]⟩⟩, .string ⟨⟨[]⟩⟩, .int .i64 e]⟩) ∨
  (SChk l 0 ∧ v = .tuple ⟨[.string ⟨⟨qtext (mkq false (bval l) (2 ^ l.length))⟩⟩, .string ⟨⟨qtext (mkq false 1 (2 ^ l.length))⟩⟩, .int .i64 0]⟩)
theorem CellR.uniq {l : List UInt8} {v v' : Value} (h : CellR l v) (h' : CellR l v') : v = v' := by
  rcases h with ⟨e, h1, h2, rfl⟩ | ⟨h2, rfl⟩ <;> rcases h' with ⟨e', h3, h4, rfl⟩ | ⟨h4, rfl⟩
  · rw [h2.uniq h4]
  · exact absurd (h2.uniq h4) h1
  · exact absurd (h4.uniq h2) h3
  · rfl
section
variable {P : Program} {ro : Option Nat} {n : Nat} {ds : List Deferred} {Q : PT} {l l' : Fr} {w w' : World} {arr : Array Oper} {r : List Oper} {k : List It}
theorem shlI {d : Nat} {t t2 ty : TypeId} {x y : Operand} {ps : String} {af : Array Edge} {g : Option (Nat × Bool)} {kx kk : IntKind} (m : Int) (s : Nat) (hx : ev l x = some (.int kx m)) (hy : ev l y = some (.int kk (s : Nat))) (hs : s ≤ kx.bits) (hg : gd arr l g = some true) (hd : Nat.blt d n = true)
    (t' : T P ro n ds Q ((d, .int kx (kx.wrap (m * 2 ^ s))) :: l) w (.ops arr r) k) : T P ro n ds Q l w (.ops arr (⟨some d, .binOp .shl t x y t2, ty, ps, af, g⟩ :: r)) k := by
  refine op1 (w' := w) (v := .int kx (kx.wrap (m * 2 ^ s))) (by intro c h; cases h) hg (by simp only [put1, hd]) (fun a hf => ?_) t'
  have h5 : (binOp .shl t (.int kx m) (.int kk (s : Nat))).run P w = .ok (.int kx (kx.wrap (m * 2 ^ s))) w := by
    simp only [binOp, shift_shl kx kk m (s : Int) (Int.natCast_nonneg _) (by omega), Int.toNat_natCast]
    rfl
  simp [execOp, hf.ev hx, hf.ev hy, eqGuard, h5]
end

/-- Strings as cells. -/
def strs (ls : List (List UInt8)) : List Value := ls.map fun s => .string ⟨⟨s⟩⟩
theorem getS {xs : List (List UInt8)} {j : Nat} (h : j < xs.length) : (strs xs)[j]? = some (.string ⟨⟨xs.getD j []⟩⟩) := by simp [strs, h, List.getD]
/-- All bit strings of n bits, ascending. -/
def allb (n m : Nat) : List (List UInt8) := (List.range m).map (bitsOf n)
theorem allb_length (n m : Nat) : (allb n m).length = m := by simp [allb]
theorem allb_succ (n m : Nat) : strs (allb n (m + 1)) = strs (allb n m) ++ [.string ⟨⟨bitsOf n m⟩⟩] := by simp [allb, strs, List.range_succ]
theorem own_bw {w w' : World} {base e s : Nat} {a : Option Addr} {m c : Nat} {cs : List Value} (h : w.ownsRow base e s (.slice a m c) m cs) (hb : Below w.heap.size w w') : w'.ownsRow base e s (.slice a m c) m cs := by
  refine ⟨h.1, ?_⟩
  rcases h.2 with h | ⟨g, cap, cur, e1, e2, e3, e4⟩
  · exact .inl h
  · exact .inr ⟨g, cap, cur, e1, e2, by rw [hb.block g (Array.getElem?_eq_some_iff.1 e3).1]; exact e3, e4⟩
/-- What All answers. -/
def AllR (n : Int) (W : World) (v : Value) (w : World) : Prop :=
  ((n < 0 ∨ 12 < n) ∧ v = .tuple ⟨[.slice none 0 0, .int .i64 2]⟩) ∨
  (0 ≤ n ∧ n ≤ 12 ∧ ∃ a c, v = .tuple ⟨[.slice a (2 ^ n.toNat) c, .int .i64 0]⟩ ∧ w.ownsRow W.heap.size 23 1 (.slice a (2 ^ n.toNat) c) (2 ^ n.toNat) (strs (allb n.toNat (2 ^ n.toNat))))

end Go.Proofs.YtabplbmbnakalaaGreatDoor
