/-
  Walks of strings.Builder: copyCheck and WriteString.
  Conditions: the builder is one that the call made.
-/
import Derived.Test.YtnohojjjfconfaaDoorFmt
import Derived.Lib.Builder
import Derived.Lib.AppendStr
set_option linter.unusedSimpArgs false
set_option linter.unusedVariables false
namespace Go.Proofs.YtnohojjjfconfaaDoor
open Go Go.Proofs Go.RowKit Go.Lib

/-- A builder: its own address or none, and the slice of its bytes. -/
def Bld (w : World) (base b : Nat) (bs : List UInt8) : Prop :=
  base ≤ b ∧ ∃ p a m c, (p = .pointer none ∨ p = .pointer (some ⟨b, 0, none⟩)) ∧ Bk w b 72 [p, .slice a m c] ∧ w.ownsRow base 5 1 (.slice a m c) m (byteCells bs) ∧ ∀ g, ab a = some g → g ≠ b

section
variable {P : Program} {ro : Option Nat} {n : Nat} {ds : List Deferred} {Q : PT} {l l' : Fr} {w w' : World} {arr : Array Oper} {r : List Oper} {k : List It}
/-- Any operation that yields a value, its run being known. -/
theorem opv {o : Oper} {v : Value} (hd : ∀ c, o.op ≠ .defer c) (hg : gd arr l o.guard = some true) (hl : put1 n l o.dst v = some l') (hrun : ∀ a, Fit n ds l a → (execOp a.eval o).run P w = .ok (.value v) w)
    (t : T P ro n ds Q l' w (.ops arr r) k) : T P ro n ds Q l w (.ops arr (o :: r)) k := op1 hd hg hl hrun t
end

theorem copyCheck_calls (b : Nat) (p v : Value) (w : World) (hp : p = .pointer none ∨ p = .pointer (some ⟨b, 0, none⟩)) (hk : Bk w b 72 [p, v]) :
    Calls Tryd.prog 58 #[.pointer (some ⟨b, 0, none⟩)] w (Ret fun r w' => r = .tuple ⟨[]⟩ ∧ Bk w' b 72 [.pointer (some ⟨b, 0, none⟩), v] ∧ w.grownBy w' (some b)) := by
  obtain ⟨j, hj, hjs, _⟩ := inf72
  have hsh : w.shape? b = some (72, 2) := by unfold Bk at hk; simp [World.shape?, hk]
  have hjz : j.size ≠ 0 := by rw [hjs]; decide
  rcases hp with rfl | rfl
  · refine enter Tryd.func58 rfl Tryd.ntmps58 (Nat.le_of_ble_eq_true rfl) ?_
    refine dr U 600 rfl trivial ?_
    refine ld U rfl rfl rfl rfl ((hk).cell rfl) ?_
    refine opv (v := .bool true) (by intro c h; cases h) rfl rfl (fun a hf => ?_) ?_
    · have h1 := run_eql_pointer_nil (P := Tryd.prog) w 69 none (by rw [Program.pointee, Tryd.underlying69])
      have h2 := hf.ev (x := .tmp 5) (v := .pointer none) rfl
      simp only [Act.eval] at h2
      simp [execOp, Act.eval, h2, eqGuard, h1]
    refine dr U 600 rfl trivial ?_
    refine opv (v := .pointer (some ⟨b, 0, none⟩)) (by intro c h; cases h) rfl rfl (fun a hf => ?_) ?_
    · have h1 := Lib.run_to_unsafe (P := Tryd.prog) w ⟨b, 0, none⟩ Tryd.underlying69 Tryd.underlying96 hj hjz hsh (Nat.zero_lt_succ 1)
      have h2 := hf.ev (x := .tmp 8) (v := .pointer (some ⟨b, 0, none⟩)) rfl
      simp only [Act.eval] at h2
      simp [execOp, Act.eval, h2, h1]
    refine opv (v := .pointer (some ⟨b, 0, none⟩)) (by intro c h; cases h) rfl rfl (fun a hf => ?_) ?_
    · have h1 := fun args => run_callFunc_extern (P := Tryd.prog) Tryd.func75 (by kernel_rfl) (by kernel_rfl) (by kernel_rfl) (e := Extern.AbiNoEscape.same) (by kernel_rfl) args w
      have h2 := hf.ev (x := .tmp 9) (v := .pointer (some ⟨b, 0, none⟩)) rfl
      simp only [Act.eval] at h2
      simp [execOp, resolve, invoke, Deferred.ofValue, Act.eval, h2, h1, Lib.run_noEscape, Result.andThen]
    refine opv (v := .pointer (some ⟨b, 0, none⟩)) (by intro c h; cases h) rfl rfl (fun a hf => ?_) ?_
    · have h1 := Lib.run_from_unsafe (P := Tryd.prog) w ⟨b, 0, none⟩ Tryd.underlying96 Tryd.underlying69 hj hsh (by kernel_rfl)
      have h2 := hf.ev (x := .tmp 10) (v := .pointer (some ⟨b, 0, none⟩)) rfl
      simp only [Act.eval] at h2
      simp [execOp, Act.eval, h2, h1]
    refine dr U 600 rfl trivial ?_
    refine st U rfl rfl rfl rfl rfl rfl rfl rfl rfl rfl (hk) ?_
    intro w1 hk1 hg1 hs1
    refine dr U 600 rfl trivial ?_
    exact retN Tryd.results58 rfl ⟨_, rfl, rfl, hk1, hg1⟩
  · refine enter Tryd.func58 rfl Tryd.ntmps58 (Nat.le_of_ble_eq_true rfl) ?_
    refine dr U 600 rfl trivial ?_
    refine ld U rfl rfl rfl rfl ((hk).cell rfl) ?_
    refine opv (v := .bool false) (by intro c h; cases h) rfl rfl (fun a hf => ?_) ?_
    · have h1 := run_eql_pointer_nil (P := Tryd.prog) w 69 (some ⟨b, 0, none⟩) (by rw [Program.pointee, Tryd.underlying69])
      have h2 := hf.ev (x := .tmp 5) (v := .pointer (some ⟨b, 0, none⟩)) rfl
      simp only [Act.eval] at h2
      simp [execOp, Act.eval, h2, eqGuard, h1]
    refine dr U 600 rfl trivial ?_
    refine ld U rfl rfl rfl rfl ((hk).cell rfl) ?_
    refine dr U 600 rfl trivial ?_
    refine opv (v := .bool false) (by intro c h; cases h) rfl rfl (fun a hf => ?_) ?_
    · have h1 := Lib.run_neq_ptr_same (P := Tryd.prog) w ⟨b, 0, none⟩ Tryd.underlying69 hj
      have h2 := hf.ev (x := .tmp 17) (v := .pointer (some ⟨b, 0, none⟩)) rfl
      have h3 := hf.ev (x := .tmp 18) (v := .pointer (some ⟨b, 0, none⟩)) rfl
      simp only [Act.eval] at h2 h3
      simp [execOp, Act.eval, h2, h3, eqGuard, h1]
    refine dr U 600 rfl trivial ?_
    exact retN Tryd.results58 rfl ⟨_, rfl, rfl, hk, World.grownBy.refl _ _⟩

/-- Whatever is not the builder and no row of bytes stands as it stood. -/
def Kept (b : Nat) (w w' : World) : Prop := ∀ k o, w.heap[k]? = some o → k ≠ b → (∀ c x, o ≠ .cells c 5 x) → w'.heap[k]? = some o

theorem Kept.trans {b : Nat} {w w1 w2 : World} (h : Kept b w w1) (h' : Kept b w1 w2) : Kept b w w2 := fun k o hk hb hn => h' k o (h k o hk hb hn) hb hn
theorem Kept.grown {b : Nat} {w w' : World} {row : Option Nat} (hg : w.grownBy w' row) (hr : ∀ g, row = some g → g = b ∨ ∃ c x, w.heap[g]? = some (.cells c 5 x)) : Kept b w w' := fun k o hk hb hn => by
  rw [hg.block k (Array.getElem?_eq_some_iff.1 hk).1 (fun e => ?_)]
  · exact hk
  · rcases hr k e.symm with h | ⟨c, x, h⟩
    · exact hb h
    · rw [h] at hk; cases hk; exact hn c x rfl

theorem write_calls (base b : Nat) (bs s : List UInt8) (w : World) (h : Bld w base b bs) (hlen : bs.length + s.length ≤ 140737488355328) (hbase : base ≤ w.heap.size) :
    Calls Tryd.prog 49 #[.pointer (some ⟨b, 0, none⟩), .string ⟨⟨s⟩⟩] w
      (Ret fun v w' => v = .tuple ⟨[.int .i64 (s.length : Nat), .nilIface]⟩ ∧ Bld w' base b (bs ++ s) ∧ Below base w w' ∧ Kept b w w') := by
  obtain ⟨hb, p, a, m, c, hp, hk, ho, hne⟩ := h
  have hm : m = bs.length := by have := own_len ho; rw [byteCells_length] at this; exact this.symm
  subst hm
  refine enter Tryd.func49 rfl Tryd.ntmps49 (Nat.le_of_ble_eq_true rfl) ?_
  refine dr U 600 rfl trivial ?_
  refine call (f := 58) rfl rfl cb58 (copyCheck_calls b p _ w hp hk) ?_
  rintro v w1 ⟨rfl, hk1, hg1⟩
  refine ⟨_, rfl, ?_⟩
  have ho1 := own_keep ho hg1 (fun g hg e => by cases e; exact hne _ hg rfl)
  have hs1 := hg1.size
  refine dr U 600 rfl trivial ?_
  refine ld U rfl rfl rfl rfl ((hk1).cell rfl) ?_
  refine dr U 600 rfl trivial ?_
  obtain ⟨i, hi, hz1, hz2, hz3⟩ := inf5
  obtain ⟨v', w2, hrun, ho2, hg2, _⟩ := run_append_own_string (P := Tryd.prog) (w := w1) base 70 9 70 5 i Tryd.underlying70 Tryd.underlying9 hi hz3 hz1 hz2 (.slice a bs.length c) bs.length (byteCells bs) ho1 ⟨⟨s⟩⟩
    (by unfold maxLen; show bs.length + s.length ≤ _; omega) (by show bs.length + s.length ≤ _; omega) (by omega)
  have hss : (ByteArray.mk ⟨s⟩).size = s.length := rfl
  have hcells : byteCells bs ++ strCells ⟨⟨s⟩⟩ = byteCells (bs ++ s) := by simp [byteCells, strCells]
  rw [hss, hcells] at ho2
  rw [ownBlock_ab] at hg2
  obtain ⟨a2, m2, c2, rfl⟩ : ∃ a' m' c', v' = .slice a' m' c' := by
    rcases ho2.2 with ⟨h, _⟩ | ⟨g, cap, cur, h, _⟩
    · exact ⟨_, _, _, h⟩
    · exact ⟨_, _, _, h⟩
  have hm2 : m2 = bs.length + s.length := by
    rcases ho2.2 with ⟨h, h'⟩ | ⟨g, cap, cur, h, _⟩
    · simp at h; omega
    · simp at h; omega
  subst hm2
  refine op1 (w' := w2) (v := .slice a2 (bs.length + s.length) c2) (by intro c h; cases h) rfl rfl (fun act hf => ?_) ?_
  · have e1 := hf.ev (x := .tmp 12) (v := .slice a bs.length c) rfl
    have e2 := hf.ev (x := .tmp 13) (v := .string ⟨⟨s⟩⟩) rfl
    simp only [execOp, resolve, invoke, builtin]
    simp [e1, e2, hrun]
  have hk2 := hk1.keep hg2 (fun e => hne b e rfl)
  have hne2 : ∀ g, ab a2 = some g → g ≠ b := by
    rintro g hg rfl
    obtain ⟨cc, x, hh⟩ : ∃ cc x, w2.heap[g]? = some (.cells cc 5 x) := by
      rcases ho2.2 with ⟨h, _⟩ | ⟨g', cap, cur, h, _, h3, _⟩
      · simp at h; obtain ⟨rfl, _⟩ := h; cases hg
      · simp at h; obtain ⟨rfl, rfl⟩ := h
        simp [ab] at hg; subst hg
        exact ⟨_, _, h3⟩
    unfold Bk at hk2; rw [hk2] at hh; simp at hh
  refine dr U 600 rfl trivial ?_
  refine st U rfl rfl rfl rfl rfl rfl rfl rfl rfl rfl (hk2) ?_
  intro w3 hk3 hg3 hs3
  refine dr U 600 rfl trivial ?_
  have ho3 := own_keep ho2 hg3 (fun g hg e => by cases e; exact hne2 _ hg rfl)
  refine ret Tryd.results49 rfl ⟨_, rfl, rfl, ⟨hb, _, a2, _, c2, .inr rfl, hk3, ho3, hne2⟩, ?_, ?_⟩
  · exact (((Below.refl base w).grown hg1 hbase (fun k e => by cases e; exact hb)).grown hg2 (by omega) (fun k e => (own_block ho1 k e).1)).grown hg3 (by have := hg2.size; omega) (fun k e => by cases e; exact hb)
  · refine ((Kept.grown hg1 (fun g e => by cases e; exact .inl rfl)).trans (Kept.grown hg2 (fun g e => .inr ?_))).trans (Kept.grown hg3 (fun g e => by cases e; exact .inl rfl))
    rcases ho1.2 with ⟨h, _⟩ | ⟨g', cap, cur, h, _, h3, _⟩
    · simp at h; obtain ⟨rfl, _⟩ := h; cases e
    · simp at h; obtain ⟨rfl, rfl⟩ := h
      simp [ab] at e; subst e
      exact ⟨_, _, h3⟩
end Go.Proofs.YtnohojjjfconfaaDoor
