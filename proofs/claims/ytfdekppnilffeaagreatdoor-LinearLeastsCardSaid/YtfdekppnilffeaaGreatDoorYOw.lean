/-
  Engine rules: an empty slice literal, a whole slice appended to a slice that the call owns, operations on bytes.
  No conditions: each theorem names its own premises.
-/
import Derived.Test.YtfdekppnilffeaaGreatDoorYRng
import Derived.Laws.OwnMore
set_option linter.unusedVariables false
set_option linter.unusedSimpArgs false
namespace Go.Proofs.YtfdekppnilffeaaGreatDoor
open Go.RowKit

section
variable {P : Program} (U : Tys P) {ro : Option Nat} {n : Nat} {ds : List Deferred} {Q : PT} {l l' : Fr} {w w' : World} {arr : Array Oper} {r : List Oper} {k : List It}

/-- An empty slice literal. -/
theorem bs0 {d1 : Nat} {t e ty : TypeId} {ps : String} {af : Array Edge} {g1 : Option (Nat × Bool)} {z : Value} {by_ s : Nat}
    (ht : U.tb.u t = some (.slice e)) (hi : U.tb.inf e = some (s, by_, z)) (hg1 : gd arr l g1 = some true) (hd1 : Nat.blt d1 n = true)
    (t' : ∀ w1, w1.ownsRow w.heap.size e s (.slice (some ⟨w.heap.size, 0, none⟩) 0 0) 0 [] → w1.heap.size = w.heap.size + 1 → w.grownBy w1 none → T P ro n ds Q ((d1, .slice (some ⟨w.heap.size, 0, none⟩) 0 0) :: l) w1 (.ops arr r) k) :
    T P ro n ds Q l w (.ops arr (⟨some d1, .buildSlice t 0 #[], ty, ps, af, g1⟩ :: r)) k := by
  obtain ⟨i, hi0, hz1, hz2, hz3⟩ := U.hi _ _ _ _ hi
  have hpt := U.hu _ _ ht
  refine op1 (w' := w.alloc (.cells #[] e)) (v := .slice (some ⟨w.heap.size, 0, none⟩) 0 0) (by intro c h; cases h) hg1 (put1_some hd1) (fun a hf => ?_) (t' _ (World.ownsRow_made w #[] 0 (Nat.le_refl _) (by decide) (by simp)) (by simp) (World.grownBy_alloc w _ none))
  simp only [execOp, Instr.buildSlice]
  simp [run_under hpt, sizeOf, typeInfo, program, Sem.run, hi0, hz1, zeroValue, hz3, Instr.fill, newRow, newObj]
  rw [show Array.range 0 = #[] from rfl]; simp

theorem run_append_nothing (base : Nat) (t ty e : TypeId) (i : TypeInfo) (size : Nat) (ht : P.underlying t = some (.slice e)) (hi : P.info? e = some i)
    (v : Value) (n : Nat) (xs : List Value) (hown : w.ownsRow base e size v n xs) (c : Nat) :
    (Builtin.append_ #[t, t] ty #[v, .slice none 0 c]).run P w = .ok v w := by
  rcases hown.2 with ⟨rfl, rfl⟩ | ⟨g, cap, cur, rfl, _, _, hnc, _⟩
  · simp [Builtin.append_, run_underlying ht, sizeOf, typeInfo, hi, Builtin.lenOf, Builtin.firstCells]
  · simp [Builtin.append_, run_underlying ht, sizeOf, typeInfo, hi, Builtin.lenOf, Builtin.firstCells, hnc, storeCells]

/-- A whole slice is appended to a slice that the call owns. -/
theorem aw {d : Nat} {t e ty : TypeId} {s x : Operand} {ps : String} {af : Array Edge} {g : Option (Nat × Bool)} {a b : Option Addr} {m c kk cb sz by_ base : Nat} {z : Value} {cs vs : List Value} {tt : Array TypeId}
    (hs : ev l s = some (.slice a m c)) (hx : ev l x = some (.slice b kk cb)) (ht : U.tb.u t = some (.slice e)) (hi : U.tb.inf e = some (sz, by_, z)) (hzc : Nat.beq z.cells.size sz = true) (hsz : Nat.blt 0 sz = true) (hg : gd arr l g = some true) (hd : Nat.blt d n = true) (htt : tt = #[t, t])
    (hown : w.ownsRow base e sz (.slice a m c) m cs) (hv : Sl w b vs) (hl : vs.length = kk * sz) (h1 : ∀ u ∈ vs, u.oneCell' = true) (hbase : base ≤ w.heap.size) (hlen : (m + kk) * by_ ≤ 140737488355328) (hby : Nat.blt 0 by_ = true)
    (t' : ∀ a' c' w1, w1.ownsRow base e sz (.slice a' (m + kk) c') (m + kk) (cs ++ vs) → w.grownBy w1 (ab a) → T P ro n ds Q ((d, .slice a' (m + kk) c') :: l) w1 (.ops arr r) k) :
    T P ro n ds Q l w (.ops arr (⟨some d, .call ⟨.builtin .append, #[s, x], tt⟩, ty, ps, af, g⟩ :: r)) k := by
  subst htt
  have hsz : 0 < sz := by simpa using hsz
  have hzc := Nat.eq_of_beq_eq_true hzc
  have hby : 0 < by_ := by simpa using hby
  obtain ⟨i, hi0, hz1, hz2, hz3⟩ := U.hi _ _ _ _ hi
  have hpt := U.hu _ _ ht
  have hmm : m + kk ≤ maxLen := by
    unfold maxLen
    have : (m + kk) * 1 ≤ (m + kk) * by_ := Nat.mul_le_mul_left _ hby
    omega
  cases b with
  | none =>
    have hk0 : kk = 0 := by
      rcases Nat.eq_zero_or_pos kk with h | h
      · exact h
      · exfalso
        have hpos : 0 < vs.length := by rw [hl]; exact Nat.mul_pos h hsz
        obtain ⟨g, off, he, _⟩ := hv 0 vs[0] (List.getElem?_eq_getElem hpos)
        cases he
    subst hk0
    have hv0 : vs = [] := List.eq_nil_of_length_eq_zero (by rw [hl, Nat.zero_mul])
    subst hv0
    have hrun := run_append_nothing (P := P) (w := w) base t ty e i sz hpt hi0 (.slice a m c) m cs hown cb
    refine op1 (w' := w) (by intro c h; cases h) hg (put1_some hd) (fun act hf => ?_) (t' a c w (by simpa using hown) ⟨rfl, rfl, rfl, Nat.le_refl _, fun _ _ _ => rfl⟩)
    simp only [execOp, resolve, invoke, builtin]
    simp [hf.ev hs, hf.ev hx, hrun]
  | some ba =>
    obtain ⟨v', w1, hrun, ho, hgr, _⟩ := run_append_own w base t ty e i z sz by_ hpt hi0 hz3 hz1 hz2 hzc hsz (.slice a m c) m cs hown ba kk cb vs hl
      (fun j u hj => by
        obtain ⟨g, off, he, hc⟩ := hv j u hj
        cases he
        rw [add_plain]; exact hc) h1 hmm hlen hbase
    obtain ⟨a', c', rfl⟩ : ∃ a' c', v' = .slice a' (m + kk) c' := by
      rcases ho.2 with ⟨rfl, h⟩ | ⟨g, cap, cur, h, _⟩
      · exact ⟨none, 0, by rw [h]⟩
      · exact ⟨_, _, h⟩
    rw [ownBlock_ab] at hgr
    refine op1 (w' := w1) (by intro c h; cases h) hg (put1_some hd) (fun act hf => ?_) (t' a' c' w1 ho hgr)
    simp only [execOp, resolve, invoke, builtin]
    simp [hf.ev hs, hf.ev hx, hrun]

end
end Go.Proofs.YtfdekppnilffeaaGreatDoor
