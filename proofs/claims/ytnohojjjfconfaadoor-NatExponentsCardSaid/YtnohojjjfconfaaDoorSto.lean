/-
  More rules of the engine: stores through a pointer into an owned row, and stores into a written-out block by index.
  No conditions: each theorem names its own premises.
-/
import Derived.Test.YtnohojjjfconfaaDoorRng
import Derived.Test.YtnohojjjfconfaaDoorDrw
set_option linter.unusedVariables false
set_option linter.unusedSimpArgs false
namespace Go.Proofs.YtnohojjjfconfaaDoor
open Go.RowKit

theorem Bk.sl {w : World} {g t : Nat} {cs : List Value} (h : Bk w g t cs) (off : Nat) : Sl w (some ⟨g, off, none⟩) (cs.drop off) := fun j v hv =>
  ⟨g, off, rfl, h.cell (by simpa using hv)⟩

/-- An owned row lies in a block. -/
theorem own_bk {w : World} {base e : Nat} {a : Option Addr} {m c : Nat} {cs : List Value} (h : w.ownsRow base e 1 (.slice a m c) m cs) (hm : 0 < m) :
    ∃ g cur, a = some ⟨g, 0, none⟩ ∧ base ≤ g ∧ Bk w g e cur ∧ cur.take m = cs ∧ cur.length = c ∧ m ≤ c := by
  have hl := own_len h
  rcases h.2 with ⟨h1, h2⟩ | ⟨g, cap, cur, h1, h2, h3, h4, h5, h6, h7⟩
  · omega
  · simp at h1; obtain ⟨rfl, rfl⟩ := h1
    refine ⟨g, cur.toList, rfl, h2, h3, ?_, ?_, h4⟩
    · rw [← h7]; simp
    · simpa using h6
theorem own_mono {w : World} {base base' e s : Nat} {a : Option Addr} {m c : Nat} {cs : List Value} (h : w.ownsRow base e s (.slice a m c) m cs) (hb : base' ≤ base) : w.ownsRow base' e s (.slice a m c) m cs := by
  refine ⟨h.1, ?_⟩
  rcases h.2 with h1 | ⟨g, cap, cur, h1, h2, h3⟩
  · exact .inl h1
  · exact .inr ⟨g, cap, cur, h1, Nat.le_trans hb h2, h3⟩
/-- And back. -/
theorem bk_own {w : World} {base e g m c : Nat} {cur : List Value} (hb : Bk w g e cur) (hg : base ≤ g) (hc : cur.length = c) (hm : m ≤ c) (hM : c ≤ maxLen) : w.ownsRow base e 1 (.slice (some ⟨g, 0, none⟩) m c) m (cur.take m) := by
  refine ⟨by simp; omega, .inr ⟨g, c, ⟨cur⟩, rfl, hg, hb, hm, ?_, ?_, ?_⟩⟩
  all_goals first | omega | (simp; done) | simpa using hc

section
variable {P : Program} (U : Tys P) {ro : Option Nat} {n : Nat} {ds : List Deferred} {Q : PT} {l l' : Fr} {w w' : World} {arr : Array Oper} {r : List Oper} {k : List It}

/-- Behind the one operation that could come, driven on. -/
theorem d3 {C : World → Prop} {last f : Nat} {listed : Array Bool} {K : Act → World → Prop} (t : TA P ro n ds arr C last K f listed l w) : T P ro n ds Q l w .nrm [.inv (fun a w' => anyC P ro arr C last K f listed a w')] :=
  fun a hf => t a hf

/-- A store into a written-out block, by index. -/
theorem sx {d : Option Nat} {t ty : TypeId} {x y : Operand} {ps : String} {af : Array Edge} {g : Option (Nat × Bool)} {v : Value} {b bt : Nat} {p : Addr} {cs : List Value}
    (hx : ev l x = some (.pointer (some p))) (hy : ev l y = some v) (hs : U.tb.sz t = some 1) (hg : gd arr l g = some true) (hl : put1 n l d undef = some l')
    (hvs : v.cells = #[v]) (h1 : v.oneCell' = true) (j : Nat) (hp : p = ⟨b, j, none⟩) (hj : j < cs.length) (hb : Bk w b bt cs)
    (t' : ∀ w1, Bk w1 b bt (cs.set j v) → w.grownBy w1 (some b) → w1.heap.size = w.heap.size → T P ro n ds Q l' w1 (.ops arr r) k) :
    T P ro n ds Q l w (.ops arr (⟨d, .store t x y, ty, ps, af, g⟩ :: r)) k := by
  subst hp
  obtain ⟨i, hi, hz⟩ := U.hs _ _ hs
  have hrun := run_storeCells_at P b j bt [v] 0 ⟨cs⟩ w hb (by simp; omega) (fun u hu => by simp at hu; subst hu; exact h1)
  have hset : (List.take (j + 0) cs ++ [v] ++ List.drop (j + 0 + [v].length) cs) = cs.set j v := by
    rw [List.set_eq_take_append_cons_drop, if_pos hj]; simp
  rw [hset] at hrun
  try simp only [Nat.add_zero] at hrun
  refine op0 (w' := w.setRow b (cs.set j v).toArray) (by intro c h; cases h) hg hl (fun a hf => ?_) (t' _ (by rw [Bk, setRow_heap w b ⟨cs⟩ _ bt (0, 0) hb]) (grownBy_setRow _ _ _) (by simp [World.setRow]))
  simp only [execOp, hf.ev hx, hf.ev hy, Instr.storeAt, Instr.sureAddr, storeVar, sizeOf, typeInfo, program]
  simp [Sem.run, hi, hz, hvs, hrun]

/-- An element of a slice of a written-out block is stored. -/
theorem ix {x1 : Nat} {d2 : Option Nat} {t e t2 ty ty2 : TypeId} {x i y : Operand} {ps ps2 : String} {af af2 : Array Edge} {g1 g2 : Option (Nat × Bool)} {b off m c bt : Nat} {ki : IntKind} {iv : Int} {cs : List Value} {v : Value} {lp : Value → Fr}
    (hx : ev l x = some (.slice (some ⟨b, off, none⟩) m c)) (hi : ev l i = some (.int ki iv)) (ht : U.tb.u t = some (.slice e)) (hz : U.tb.sz e = some 1) (h2 : U.tb.sz t2 = some 1)
    (hg1 : gd arr l g1 = some true) (hx1 : Nat.blt x1 n = true) (hg2 : ∀ p, gd arr ((x1, p) :: l) g2 = some true) (hy : ∀ p, ev ((x1, p) :: l) y = some v) (hl : ∀ p, put1 n ((x1, p) :: l) d2 undef = some (lp p))
    (hvc : v.cells = #[v]) (h1 : v.oneCell' = true)
    (j : Nat) (hj : iv = (j : Int)) (hm : j < m) (hlt : off + j < cs.length) (hb : Bk w b bt cs)
    (t' : ∀ p w1, Bk w1 b bt (cs.set (off + j) v) → w.grownBy w1 (some b) → w1.heap.size = w.heap.size → T P ro n ds Q (lp p) w1 (.ops arr r) k) :
    T P ro n ds Q l w (.ops arr (⟨some x1, .indexAddr t x i, ty, ps, af, g1⟩ :: ⟨d2, .store t2 (.tmp x1) y, ty2, ps2, af2, g2⟩ :: r)) k := by
  subst hj
  refine op1 (w' := w) (v := .pointer (some ⟨b, off + j, none⟩)) (by intro c h; cases h) hg1 (put1_some hx1) (fun a hf => ?_) ?_
  · have := run_index U ht hz ⟨b, off, none⟩ m c j ki hm w
    simp [execOp, hf.ev hx, hf.ev hi, this, add_plain]
  · exact sx U (by simp [ev, look_cons]) (hy _) h2 (hg2 _) (hl _) hvc h1 _ rfl hlt hb (t' _)

/-- A slice of one written-out element. -/
theorem bs1 {d1 : Nat} {t e ty : TypeId} {x : Operand} {ps : String} {af : Array Edge} {g1 : Option (Nat × Bool)} {v z : Value} {by_ : Nat}
    (hx : ev l x = some v) (ht : U.tb.u t = some (.slice e)) (hi : U.tb.inf e = some (1, by_, z)) (hzc : z.cells.size = 1) (hg1 : gd arr l g1 = some true) (hd1 : Nat.blt d1 n = true) (hv : v.cells = #[v])
    (t' : ∀ w1, Bk w1 w.heap.size e [v] → w1.heap.size = w.heap.size + 1 → w.grownBy w1 none → T P ro n ds Q ((d1, .slice (some ⟨w.heap.size, 0, none⟩) 1 1) :: l) w1 (.ops arr r) k) :
    T P ro n ds Q l w (.ops arr (⟨some d1, .buildSlice t 1 #[(0, x)], ty, ps, af, g1⟩ :: r)) k := by
  obtain ⟨i, hi0, hz1, hz2, hz3⟩ := U.hi _ _ _ _ hi
  have hpt := U.hu _ _ ht
  refine op1 (w' := w.alloc (.cells #[v] e)) (v := .slice (some ⟨w.heap.size, 0, none⟩) 1 1) (by intro c h; cases h) hg1 (put1_some hd1) (fun a hf => ?_) (t' _ (heap_alloc_new w _) (by simp) (World.grownBy_alloc w _ none))
  simp only [execOp, Instr.buildSlice]
  simp [hf.ev hx, run_under hpt, sizeOf, typeInfo, program, Sem.run, hi0, hz1, zeroValue, hz3, Instr.fill, hv, newRow, newObj]
  rw [show (Array.map (fun x => z.cells[x % z.cells.size]!) (Array.range 1)).setIfInBounds 0 v = #[v] from by apply Array.toList_inj.1; simp [List.range_succ]]

/-- A store through a pointer into an owned row. -/
theorem so {d : Option Nat} {t ty : TypeId} {x y : Operand} {ps : String} {af : Array Edge} {gg : Option (Nat × Bool)} {v : Value} {g : Nat} {p : Addr} {base e m c : Nat} {cs : List Value}
    (hx : ev l x = some (.pointer (some p))) (hy : ev l y = some v) (hs : U.tb.sz t = some 1) (hg : gd arr l gg = some true) (hl : put1 n l d undef = some l')
    (hvs : v.cells = #[v]) (h1 : v.oneCell' = true) (j : Nat) (hp : p = ⟨g, j, none⟩) (hj : j < m) (ho : w.ownsRow base e 1 (.slice (some ⟨g, 0, none⟩) m c) m cs)
    (t' : ∀ w1, w1.ownsRow base e 1 (.slice (some ⟨g, 0, none⟩) m c) m (cs.set j v) → w.grownBy w1 (some g) → w1.heap.size = w.heap.size → T P ro n ds Q l' w1 (.ops arr r) k) :
    T P ro n ds Q l w (.ops arr (⟨d, .store t x y, ty, ps, af, gg⟩ :: r)) k := by
  subst hp
  obtain ⟨cur, hg2, hlt, ho1⟩ := own_set ho j hj v
  obtain ⟨i, hi, hz⟩ := U.hs _ _ hs
  have hrun := run_storeCells_at P g j e [v] 0 cur w hg2 (by simp; omega) (fun u hu => by simp at hu; subst hu; exact h1)
  have hset : (List.take (j + 0) cur.toList ++ [v] ++ List.drop (j + 0 + [v].length) cur.toList) = cur.toList.set j v := by
    rw [List.set_eq_take_append_cons_drop, if_pos (by simpa using hlt)]; simp
  rw [hset] at hrun
  try simp only [Nat.add_zero] at hrun
  refine op0 (w' := w.setRow g (cur.toList.set j v).toArray) (by intro c h; cases h) hg hl (fun a hf => ?_) (t' _ ho1 (grownBy_setRow _ _ _) (by simp [World.setRow]))
  simp only [execOp, hf.ev hx, hf.ev hy, Instr.storeAt, Instr.sureAddr, storeVar, sizeOf, typeInfo, program]
  simp [Sem.run, hi, hz, hvs, hrun]
end
end Go.Proofs.YtnohojjjfconfaaDoor
