/-
  Walks of strings.Builder: copyCheck and WriteString.
  Conditions: the builder is one that the call made.

  Walk of package limbs: String, the decimal digits of a number.
  Conditions: fewer than 2^36 limbs; the library's table of powers of ten is laid.
-/
import Derived.Test.YtfdekppnilffeaaGreatDoorYFmt
import Derived.Test.YtfdekppnilffeaaGreatDoorYLmH
import Derived.Lib.Builder
import Derived.Lib.AppendStr
import Derived.Shelf.Strings.BuilderK
section
set_option linter.unusedSimpArgs false
set_option linter.unusedVariables false
namespace Go.Proofs.YtfdekppnilffeaaGreatDoor
open Go Go.Proofs Go.RowKit Go.Lib

/-- A builder: its own address or none, and the slice of its bytes. -/
def BldT (bt : Nat) (w : World) (base b : Nat) (bs : List UInt8) : Prop :=
  base ≤ b ∧ ∃ p a m c, (p = .pointer none ∨ p = .pointer (some ⟨b, 0, none⟩)) ∧ Bk w b bt [p, .slice a m c] ∧ w.ownsRow base 5 1 (.slice a m c) m (byteCells bs) ∧ ∀ g, ab a = some g → g ≠ b

abbrev Bld : World → Nat → Nat → List UInt8 → Prop := BldT 149
/-- A builder may lie in a block of this type. -/
def Lies (bt : Nat) : Prop := liesAt Tryz.prog Tryz.prog.depth bt (2 / Tryz.prog.cellsOf bt) 0 149 1 = true ∧ bt ≠ 5
theorem lies_bld : Lies 149 := ⟨by kernel_rfl, by decide⟩

section
variable {P : Program} {ro : Option Nat} {n : Nat} {ds : List Deferred} {Q : PT} {l l' : Fr} {w w' : World} {arr : Array Oper} {r : List Oper} {k : List It}
/-- Any operation that yields a value, its run being known. -/
theorem opv {o : Oper} {v : Value} (hd : ∀ c, o.op ≠ .defer c) (hg : gd arr l o.guard = some true) (hl : put1 n l o.dst v = some l') (hrun : ∀ a, Fit n ds l a → (execOp a.eval o).run P w = .ok (.value v) w)
    (t : T P ro n ds Q l' w (.ops arr r) k) : T P ro n ds Q l w (.ops arr (o :: r)) k := op1 hd hg hl hrun t
end

theorem copyCheckT (bt : Nat) (hbt : Lies bt) (b : Nat) (p v : Value) (w : World) (hp : p = .pointer none ∨ p = .pointer (some ⟨b, 0, none⟩)) (hk : Bk w b bt [p, v]) :
    Calls Tryz.prog 145 #[.pointer (some ⟨b, 0, none⟩)] w (Ret fun r w' => r = .tuple ⟨[]⟩ ∧ Bk w' b bt [.pointer (some ⟨b, 0, none⟩), v] ∧ w.grownBy w' (some b)) := by
  obtain ⟨j, hj, hjs, _⟩ := inf149
  have hsh : w.shape? b = some (bt, 2) := by unfold Bk at hk; simp [World.shape?, hk]
  have hjz : j.size ≠ 0 := by rw [hjs]; decide
  rcases hp with rfl | rfl
  · refine enter Tryz.func145 rfl Tryz.ntmps145 (Nat.le_of_ble_eq_true rfl) ?_
    refine dr U 600 rfl trivial ?_
    refine ld U rfl rfl rfl rfl ((hk).cell rfl) ?_
    refine opv (v := .bool true) (by intro c h; cases h) rfl rfl (fun a hf => ?_) ?_
    · have h1 := run_eql_pointer_nil (P := Tryz.prog) w 147 none (by rw [Program.pointee, Tryz.underlying147])
      have h2 := hf.ev (x := .tmp 5) (v := .pointer none) rfl
      simp only [Act.eval] at h2
      simp [execOp, Act.eval, h2, eqGuard, h1]
    refine dr U 600 rfl trivial ?_
    refine opv (v := .pointer (some ⟨b, 0, none⟩)) (by intro c h; cases h) rfl rfl (fun a hf => ?_) ?_
    · have h1 := Lib.run_to_unsafe (P := Tryz.prog) w ⟨b, 0, none⟩ Tryz.underlying147 Tryz.underlying191 hj hjz hsh (Nat.zero_lt_succ 1)
      have h2 := hf.ev (x := .tmp 8) (v := .pointer (some ⟨b, 0, none⟩)) rfl
      simp only [Act.eval] at h2
      simp [execOp, Act.eval, h2, h1]
    refine opv (v := .pointer (some ⟨b, 0, none⟩)) (by intro c h; cases h) rfl rfl (fun a hf => ?_) ?_
    · have h1 := fun args => run_callFunc_extern (P := Tryz.prog) Tryz.func166 (by kernel_rfl) (by kernel_rfl) (by kernel_rfl) (e := Extern.AbiNoEscape.same) (by kernel_rfl) args w
      have h2 := hf.ev (x := .tmp 9) (v := .pointer (some ⟨b, 0, none⟩)) rfl
      simp only [Act.eval] at h2
      simp [execOp, resolve, invoke, Deferred.ofValue, Act.eval, h2, h1, Lib.run_noEscape, Result.andThen]
    refine opv (v := .pointer (some ⟨b, 0, none⟩)) (by intro c h; cases h) rfl rfl (fun a hf => ?_) ?_
    · have h1 := Lib.run_from_unsafe (P := Tryz.prog) w ⟨b, 0, none⟩ Tryz.underlying191 Tryz.underlying147 hj hsh hbt.1
      have h2 := hf.ev (x := .tmp 10) (v := .pointer (some ⟨b, 0, none⟩)) rfl
      simp only [Act.eval] at h2
      simp [execOp, Act.eval, h2, h1]
    refine dr U 600 rfl trivial ?_
    refine st U rfl rfl rfl rfl rfl rfl rfl rfl rfl rfl (hk) ?_
    intro w1 hk1 hg1 hs1
    refine dr U 600 rfl trivial ?_
    exact retN Tryz.results145 rfl ⟨_, rfl, rfl, hk1, hg1⟩
  · refine enter Tryz.func145 rfl Tryz.ntmps145 (Nat.le_of_ble_eq_true rfl) ?_
    refine dr U 600 rfl trivial ?_
    refine ld U rfl rfl rfl rfl ((hk).cell rfl) ?_
    refine opv (v := .bool false) (by intro c h; cases h) rfl rfl (fun a hf => ?_) ?_
    · have h1 := run_eql_pointer_nil (P := Tryz.prog) w 147 (some ⟨b, 0, none⟩) (by rw [Program.pointee, Tryz.underlying147])
      have h2 := hf.ev (x := .tmp 5) (v := .pointer (some ⟨b, 0, none⟩)) rfl
      simp only [Act.eval] at h2
      simp [execOp, Act.eval, h2, eqGuard, h1]
    refine dr U 600 rfl trivial ?_
    refine ld U rfl rfl rfl rfl ((hk).cell rfl) ?_
    refine dr U 600 rfl trivial ?_
    refine opv (v := .bool false) (by intro c h; cases h) rfl rfl (fun a hf => ?_) ?_
    · have h1 := Lib.run_neq_ptr_same (P := Tryz.prog) w ⟨b, 0, none⟩ Tryz.underlying147 hj
      have h2 := hf.ev (x := .tmp 17) (v := .pointer (some ⟨b, 0, none⟩)) rfl
      have h3 := hf.ev (x := .tmp 18) (v := .pointer (some ⟨b, 0, none⟩)) rfl
      simp only [Act.eval] at h2 h3
      simp [execOp, Act.eval, h2, h3, eqGuard, h1]
    refine dr U 600 rfl trivial ?_
    exact retN Tryz.results145 rfl ⟨_, rfl, rfl, hk, World.grownBy.refl _ _⟩

/-- Whatever is not the builder and no row of bytes stands as it stood. -/
def Kept (b : Nat) (w w' : World) : Prop := ∀ k o, w.heap[k]? = some o → k ≠ b → (∀ c x, o ≠ .cells c 5 x) → w'.heap[k]? = some o

theorem Kept.trans {b : Nat} {w w1 w2 : World} (h : Kept b w w1) (h' : Kept b w1 w2) : Kept b w w2 := fun k o hk hb hn => h' k o (h k o hk hb hn) hb hn
theorem Kept.grown {b : Nat} {w w' : World} {row : Option Nat} (hg : w.grownBy w' row) (hr : ∀ g, row = some g → g = b ∨ ∃ c x, w.heap[g]? = some (.cells c 5 x)) : Kept b w w' := fun k o hk hb hn => by
  rw [hg.block k (Array.getElem?_eq_some_iff.1 hk).1 (fun e => ?_)]
  · exact hk
  · rcases hr k e.symm with h | ⟨c, x, h⟩
    · exact hb h
    · rw [h] at hk; cases hk; exact hn c x rfl

theorem writeT (bt : Nat) (hbt : Lies bt) (base b : Nat) (bs s : List UInt8) (w : World) (h : BldT bt w base b bs) (hlen : bs.length + s.length ≤ 140737488355328) (hbase : base ≤ w.heap.size) :
    Calls Tryz.prog 130 #[.pointer (some ⟨b, 0, none⟩), .string ⟨⟨s⟩⟩] w
      (Ret fun v w' => v = .tuple ⟨[.int .i64 (s.length : Nat), .nilIface]⟩ ∧ BldT bt w' base b (bs ++ s) ∧ Below base w w' ∧ Kept b w w') := by
  obtain ⟨hb, p, a, m, c, hp, hk, ho, hne⟩ := h
  have hm : m = bs.length := by have := own_len ho; rw [byteCells_length] at this; exact this.symm
  subst hm
  refine enter Tryz.func130 rfl Tryz.ntmps130 (Nat.le_of_ble_eq_true rfl) ?_
  refine dr U 600 rfl trivial ?_
  refine call (f := 145) rfl rfl cb145 (copyCheckT bt hbt b p _ w hp hk) ?_
  rintro v w1 ⟨rfl, hk1, hg1⟩
  refine ⟨_, rfl, ?_⟩
  have ho1 := own_keep ho hg1 (fun g hg e => by cases e; exact hne _ hg rfl)
  have hs1 := hg1.size
  refine dr U 600 rfl trivial ?_
  refine ld U rfl rfl rfl rfl ((hk1).cell rfl) ?_
  refine dr U 600 rfl trivial ?_
  obtain ⟨i, hi, hz1, hz2, hz3⟩ := inf5
  obtain ⟨v', w2, hrun, ho2, hg2, _⟩ := run_append_own_string (P := Tryz.prog) (w := w1) base 136 9 136 5 i Tryz.underlying136 Tryz.underlying9 hi hz3 hz1 hz2 (.slice a bs.length c) bs.length (byteCells bs) ho1 ⟨⟨s⟩⟩
    (by unfold maxLen; show bs.length + s.length ≤ _; omega) (by show bs.length + s.length ≤ _; omega) (by omega)
  have hss : (ByteArray.mk ⟨s⟩).size = s.length := rfl
  have hcells : byteCells bs ++ strCells ⟨⟨s⟩⟩ = byteCells (bs ++ s) := by simp [byteCells, strCells]
  rw [hss, hcells] at ho2
  rw [ownBlock_ab] at hg2
  obtain ⟨a2, m2, c2, rfl⟩ : ∃ a' m' c', v' = .slice a' m' c' := by
    rcases ho2.2 with ⟨h, _⟩ | ⟨g, cap, cur, h, _⟩
    · exact ⟨_, _, _, h⟩
    · exact ⟨_, _, _, h⟩
  have hm2 : m2 = bs.length + s.length := by
    rcases ho2.2 with ⟨h, h'⟩ | ⟨g, cap, cur, h, _⟩
    · simp at h; omega
    · simp at h; omega
  subst hm2
  refine op1 (w' := w2) (v := .slice a2 (bs.length + s.length) c2) (by intro c h; cases h) rfl rfl (fun act hf => ?_) ?_
  · have e1 := hf.ev (x := .tmp 12) (v := .slice a bs.length c) rfl
    have e2 := hf.ev (x := .tmp 13) (v := .string ⟨⟨s⟩⟩) rfl
    simp only [execOp, resolve, invoke, builtin]
    simp [e1, e2, hrun]
  have hk2 := hk1.keep hg2 (fun e => hne b e rfl)
  have hne2 : ∀ g, ab a2 = some g → g ≠ b := by
    rintro g hg rfl
    obtain ⟨cc, x, hh⟩ : ∃ cc x, w2.heap[g]? = some (.cells cc 5 x) := by
      rcases ho2.2 with ⟨h, _⟩ | ⟨g', cap, cur, h, _, h3, _⟩
      · simp at h; obtain ⟨rfl, _⟩ := h; cases hg
      · simp at h; obtain ⟨rfl, rfl⟩ := h
        simp [ab] at hg; subst hg
        exact ⟨_, _, h3⟩
    unfold Bk at hk2; rw [hk2] at hh; simp at hh; exact hbt.2 hh.2.1
  refine dr U 600 rfl trivial ?_
  refine st U rfl rfl rfl rfl rfl rfl rfl rfl rfl rfl (hk2) ?_
  intro w3 hk3 hg3 hs3
  refine dr U 600 rfl trivial ?_
  have ho3 := own_keep ho2 hg3 (fun g hg e => by cases e; exact hne2 _ hg rfl)
  refine ret Tryz.results130 rfl ⟨_, rfl, rfl, ⟨hb, _, a2, _, c2, .inr rfl, hk3, ho3, hne2⟩, ?_, ?_⟩
  · exact (((Below.refl base w).grown hg1 hbase (fun k e => by cases e; exact hb)).grown hg2 (by omega) (fun k e => (own_block ho1 k e).1)).grown hg3 (by have := hg2.size; omega) (fun k e => by cases e; exact hb)
  · refine ((Kept.grown hg1 (fun g e => by cases e; exact .inl rfl)).trans (Kept.grown hg2 (fun g e => .inr ?_))).trans (Kept.grown hg3 (fun g e => by cases e; exact .inl rfl))
    rcases ho1.2 with ⟨h, _⟩ | ⟨g', cap, cur, h, _, h3, _⟩
    · simp at h; obtain ⟨rfl, _⟩ := h; cases e
    · simp at h; obtain ⟨rfl, rfl⟩ := h
      simp [ab] at e; subst e
      exact ⟨_, _, h3⟩
theorem write_calls (base b : Nat) (bs s : List UInt8) (w : World) (h : Bld w base b bs) (hlen : bs.length + s.length ≤ 140737488355328) (hbase : base ≤ w.heap.size) :
    Calls Tryz.prog 130 #[.pointer (some ⟨b, 0, none⟩), .string ⟨⟨s⟩⟩] w
      (Ret fun v w' => v = .tuple ⟨[.int .i64 (s.length : Nat), .nilIface]⟩ ∧ Bld w' base b (bs ++ s) ∧ Below base w w' ∧ Kept b w w') := writeT _ lies_bld base b bs s w h hlen hbase
end Go.Proofs.YtfdekppnilffeaaGreatDoor
end
section
set_option linter.unusedSimpArgs false
set_option linter.unusedVariables false
set_option maxHeartbeats 1000000
namespace Go.Proofs.YtfdekppnilffeaaGreatDoor
open Go Go.Proofs Go.RowKit Go.Lib

theorem OwnB.tab (B : Nat) : OwnB B TabOk := fun W W' row h hg hr => h.keep hg (fun e => by
  obtain ⟨_, o, ho, hf⟩ := hr _ e
  obtain ⟨t, x, h⟩ := h
  exact cells_ne ho hf h rfl)
theorem OwnB.bld (B base b : Nat) (bs : List UInt8) : OwnB B (fun w => Bld w base b bs) :=
  (OwnB.pure _ _).and (OwnB.ex fun p => OwnB.ex fun a => OwnB.ex fun m => OwnB.ex fun c => (OwnB.pure _ _).and ((OwnB.bk _ _ _ _).and ((OwnB.own _ _ _ _ _ _ _ _).and (OwnB.pure _ _))))
theorem ko_kept {b : Nat} {W W' : World} {t : Nat} {cs : List Value} (hb : Bk W b t cs) (h : Kept b W W') (hs : W.heap.size ≤ W'.heap.size) : KeepsOthers W W' :=
  ⟨hs, fun k o hk ho => h k o hk (fun e => by subst e; unfold Bk at hb; rw [hb] at hk; cases hk; cases ho) (fun c x e => by subst e; cases ho)⟩
theorem Kept.bk {b : Nat} {W W' : World} {g : Nat} {cs : List Value} (h : Kept b W W') (hb : Bk W g 103 cs) (hne : g ≠ b) : Bk W' g 103 cs :=
  h g _ hb hne (fun c x e => by simp at e)
theorem Bld.below {w w' : World} {base b : Nat} {bs : List UInt8} (h : Bld w base b bs) (hb : Below w.heap.size w w') : Bld w' base b bs := by
  obtain ⟨h1, p, a, m, c, h2, h3, h4, h5⟩ := h
  refine ⟨h1, p, a, m, c, h2, h3.below hb h3.lt, ?_, h5⟩
  refine ⟨h4.1, ?_⟩
  rcases h4.2 with h | ⟨g, cap, cur, e1, e2, e3, e4⟩
  · exact .inl h
  · exact .inr ⟨g, cap, cur, e1, e2, by rw [hb.block g (Array.getElem?_eq_some_iff.1 e3).1]; exact e3, e4⟩

theorem string_calls (n : Nat) (a : Option Addr) (c : Nat) (w : World) (ha : Rd w a c (lim n)) (hl : (lim n).length ≤ 68719476736) (ht : TabOk w) :
    Calls Tryz.prog 107 #[.slice a (lim n).length c] w (Ret fun v w' => v = .string ⟨⟨decDigits n⟩⟩ ∧ Below w.heap.size w w') := by
  have hvn := val_lim n
  have hxl := lim_Lm n
  refine enterM Tryz.func107 rfl Tryz.ntmps107 (Nat.le_of_ble_eq_true rfl) ?_
  refine dr U 600 rfl trivial ?_
  refine cS rfl rfl rfl rfl (fun hq => ?_) (fun hq => ?_)
  · have h0 : n = 0 := lim_eq_nil.1 (List.length_eq_zero_iff.1 (by omega))
    refine dr U 600 rfl trivial ?_
    refine retM0 U Tryz.results107 (vs := [_]) ⟨rfl, trivial⟩ ⟨_, rfl, ?_, Below.refl _ _⟩
    rw [h0, decDigits_one (by omega)]; rfl
  · have h0 : n ≠ 0 := fun e => hq (by rw [e, lim_zero]; rfl)
    have htop := lim_top h0
    have hcap := ha.2.1
    generalize hxs : lim n = xs at *
    have hlen : 0 < xs.length := by omega
    have hx := hxl.getD (xs.length - 1)
    have hdrop : xs.drop (xs.length - 1) = [xs.getD (xs.length - 1) 0] := by
      rw [List.drop_eq_getElem_cons (by omega), List.drop_of_length_le (by omega)]; simp [List.getD, show xs.length - 1 < xs.length by omega]
    refine dr U 600 rfl trivial ?_
    refine al U rfl rfl rfl rfl ?_
    intro b w1 hb hs1 hk1 hg1
    have hB1 : Below w.heap.size w w1 := (Below.refl _ w).grown hg1 (Nat.le_refl _) (fun k e => by cases e)
    have hbld : Bld w1 w.heap.size b [] := ⟨by omega, _, _, _, _, .inl rfl, hk1, ⟨rfl, .inl ⟨rfl, rfl⟩⟩, fun g e => by cases e⟩
    refine dr U 600 rfl (by first | exact True.intro | (simp only [AllP, InR, List.nil_append, List.cons_append, and_true]; omega)) ?_
    refine il U rfl rfl rfl rfl rfl rfl rfl (fun _ => rfl) rfl (xs.length - 1) (by omega) (by omega) (ha.below hB1).1 (getU (by omega)) ?_
    refine call (f := 129) rfl rfl cb129 (fmt_calls _ hx w1 (ht.new hg1)) ?_
    rintro v w2 ⟨rfl, hB2⟩
    refine ⟨_, rfl, ?_⟩
    have hnd2 := nD_le 9 (xs.getD (xs.length - 1) 0) (by omega) hx
    have hdl := decDigits_length (xs.getD (xs.length - 1) 0)
    have hB2' := bl_tr hB1 hB2 hB1.size
    refine call (f := 130) rfl rfl cb130 (write_calls w.heap.size b [] _ w2 (hbld.below hB2) (by rw [hdl]; simp only [List.length_nil]; omega) hB2'.size) ?_
    rintro v w3 ⟨rfl, hbld3, hB3, hK3⟩
    refine ⟨_, rfl, ?_⟩
    have hB3' := hB2'.trans hB3
    have ht3 := ht.below hB3'
    refine dr U 600 rfl (by first | exact True.intro | (simp only [AllP, InR, List.nil_append, List.cons_append, and_true]; omega)) ?_
    refine call (f := 131) rfl rfl cb131 (back_calls _ _ _ w3) ?_
    rintro v w4 ⟨rfl, hs4, hk4, hg4⟩
    refine ⟨_, rfl, ?_⟩
    have hB4 := hB3'.grown hg4 hB3'.size (fun k e => by cases e)
    have hbld4 : Bld w4 w.heap.size b ([] ++ decDigits (xs.getD (xs.length - 1) 0)) := OwnB.bld 0 _ _ _ w3 w4 none hbld3 hg4 (fun r e => by cases e)
    have ht4 := ht.below hB4
    have hb3 : b < w3.heap.size := by obtain ⟨_, _, _, _, _, _, h, _⟩ := hbld3; exact h.lt
    have hm : ((xs.length : Int) - 1).toNat = xs.length - 1 := by omega
    rw [hm] at hk4
    rw [List.nil_append] at hbld4
    have hdl0 : decDigits (val (xs.drop (xs.length - 1))) = decDigits (xs.getD (xs.length - 1) 0) := by rw [hdrop]; simp [val]
    have ha4 : Sl w4 a ((xs.take (xs.length - 1)).map u64) := by
      have := (ha.below hB4).1.take (xs.length - 1); rwa [← List.map_take] at this
    have hab := ha.2.2
    refine dr U 600 rfl trivial ?_
    rw [hm]
    refine rng rfl cb146 rfl (back_seq a (xs.length - 1) c w3.heap.size (fun i v => i < xs.length - 1 → v = u64 (xs.getD i 0)) (fun w => Bk w w3.heap.size 103 [.slice a (xs.length - 1) c] ∧ Sl w a ((xs.take (xs.length - 1)).map u64)) (by omega) (fun w h => ⟨h.1, _, h.2, by simp, fun i v hv hi => by
          rw [List.map_take, List.getElem?_take, if_pos hi, getU (by omega)] at hv
          exact (Option.some.inj hv).symm⟩))
      (fun k vs h => by obtain ⟨v, rfl, _⟩ := h; rfl)
      (fun j W => j ≤ xs.length - 1 ∧ Bld W w.heap.size b (decDigits (val (xs.drop (xs.length - 1 - j)))) ∧ TabOk W ∧ Below w.heap.size w W)
      (fun cd W => False)
      (fun j => (OwnB.pure _ _).and ((OwnB.bld _ _ _ _).and ((OwnB.tab _).and (OwnB.below _ hB4.size (Nat.le_refl _)))))
      (fun cd => OwnB.pure _ _) ((OwnB.bk _ _ _ _).and (OwnB.sl _ _ _)) ⟨by omega, by rw [Nat.sub_zero, hdl0]; exact hbld4, ht4, hB4⟩ ⟨hk4, ha4⟩
      (fun vs => [(5, vs.getD 1 undef), (3, .pointer (some ⟨b, 0, none⟩))]) ?_ ?_ ?_ (fun _ _ _ _ h => h.elim)
    · rintro L j vs W ⟨v, rfl, _⟩
      refine dr U 600 rfl trivial ?_
      exact asg ⟨rfl, rfl, trivial⟩
    · rintro L j vs W hj ⟨v, rfl, hv⟩ ⟨hj2, hbW, htW, hBW⟩ ⟨hkW, hsW⟩ hsz
      have hji : xs.length - 1 - (j + 1) = xs.length - 1 - 1 - j := by omega
      have hi : xs.length - 1 - 1 - j < xs.length - 1 := by omega
      rw [hv hi]
      rw [show xs.length - 1 - j = xs.length - 1 - 1 - j + 1 by omega] at hbW
      rw [hji]
      generalize hii : xs.length - 1 - 1 - j = i at *
      have hxi := hxl.getD i
      have hdc : decDigits (val (xs.drop i)) = decDigits (val (xs.drop (i + 1))) ++ (List.replicate (9 - nDigits (xs.getD i 0)) 48 ++ decDigits (xs.getD i 0)) := by
        rw [List.drop_eq_getElem_cons (show i < xs.length by omega)]
        have : xs[i] = xs.getD i 0 := by simp [List.getD, show i < xs.length by omega]
        rw [this]
        refine dec_cons hxi ?_
        have h1 := val_take_drop (xs.drop (i + 1)) (xs.length - 1 - (i + 1)) (by simp; omega)
        rw [List.drop_drop, show i + 1 + (xs.length - 1 - (i + 1)) = xs.length - 1 by omega, hdrop] at h1
        have h2 : 0 < pw (xs.length - 1 - (i + 1)) * val [xs.getD (xs.length - 1) 0] := Nat.mul_pos (pw_pos _) (by simpa [val] using htop)
        omega
      have hbl : (decDigits (val (xs.drop (i + 1)))).length ≤ 9 * xs.length := by
        rw [decDigits_length]
        have h1 : Lm (xs.drop (i + 1)) := hxl.drop _
        have h2 := val_lt h1
        rw [pw10] at h2
        refine Nat.le_trans (nD_le _ _ ?_ h2) ?_
        · simp; omega
        · simp; omega
      generalize hxe : xs.getD i 0 = x at *
      have hnx := nD_le 9 x (by omega) hxi
      have hdx := decDigits_length x
      refine dr U 600 rfl trivial ?_
      refine call (f := 129) rfl rfl cb129 (fmt_calls x hxi W htW) ?_
      rintro v w6 ⟨rfl, hB6⟩
      refine ⟨_, rfl, ?_⟩
      have hBW6 := bl_tr hBW hB6 hBW.size
      have hrep : ([48, 48, 48, 48, 48, 48, 48, 48, 48] : List UInt8).drop (((decDigits x).length : Nat) : Int).toNat = List.replicate (9 - nDigits x) 48 := by
        rw [show ([48, 48, 48, 48, 48, 48, 48, 48, 48] : List UInt8) = List.replicate 9 48 from rfl, List.drop_replicate, Int.toNat_natCast, hdx]
      refine dr U 600 rfl (by simp only [AllP, InR, List.nil_append, List.cons_append, and_true, List.length_cons, List.length_nil]; omega) ?_
      refine call (f := 130) rfl rfl cb130 (write_calls w.heap.size b _ _ w6 (hbW.below hB6) (by rw [hrep, List.length_replicate]; omega) hBW6.size) ?_
      rintro v w7 ⟨rfl, hb7, hB7, hK7⟩
      rw [hrep] at hb7
      refine ⟨_, rfl, ?_⟩
      refine dr U 600 rfl trivial ?_
      refine call (f := 130) rfl rfl cb130 (write_calls w.heap.size b _ _ w7 hb7 (by rw [List.length_append, List.length_replicate]; omega) (hBW6.trans hB7).size) ?_
      rintro v w8 ⟨rfl, hb8, hB8, hK8⟩
      rw [List.append_assoc, ← hdc] at hb8
      refine ⟨_, rfl, ?_⟩
      refine dr U 600 rfl trivial ?_
      have hBW8 := (hBW6.trans hB7).trans hB8
      have hkW6 := hkW.below hB6 hkW.lt
      have hkb : ∃ t cs, Bk w6 b t cs := by obtain ⟨_, _, _, _, _, _, h, _⟩ := hbW.below hB6; exact ⟨_, _, h⟩
      have hKK := hK7.trans hK8
      have hKO : KeepsOthers W w8 := by
        obtain ⟨t, cs, hk⟩ := hkb
        exact (ko_below (KeepsOthers.refl W) hB6).trans (ko_kept hk hKK (Nat.le_trans hB7.size hB8.size))
      exact rnd ⟨hKO, ⟨by omega, hb8, ht.below hBW8, hBW8⟩, hKK.bk hkW6 (by omega), hsW.below ((hB6.mono hBW.size).trans (hB7.trans hB8)) (fun g e => (hab g e).lt)⟩
    · rintro D W hD ⟨hj2, hbW, htW, hBW⟩ hK
      rw [Nat.sub_self, List.drop_zero, hvn] at hbW
      have hne : decDigits n ≠ [] := fun e => by have := decDigits_length n; rw [e] at this; have := nDigits_pos n; simp at *; omega
      have hib : Lib.IsBuilder 149 5 w.heap.size b (byteCells (decDigits n)) W := by
        obtain ⟨h1, p, a2, m, c2, h2, h3, h4, h5⟩ := hbW
        have hm2 := own_len h4
        subst hm2
        rcases h2 with rfl | rfl
        · exact .inl ⟨h1, _, h3, h4, by rw [ownBlock_ab]; exact fun e => h5 b e rfl⟩
        · exact .inr ⟨h1, _, h3, h4, by rw [ownBlock_ab]; exact fun e => h5 b e rfl⟩
      refine dr U 600 rfl trivial ?_
      have hkb : ∃ t cs, Bk W b t cs := by obtain ⟨_, _, _, _, _, _, h, _⟩ := hbW; exact ⟨_, _, h⟩
      obtain ⟨tb, cb, hkb⟩ := hkb
      refine call (f := 132) rfl rfl cb132 (Post := fun v w' => v = .string ⟨⟨decDigits n⟩⟩ ∧ Below w.heap.size W w' ∧ ∀ k o, W.heap[k]? = some o → some k ≠ some b → (∀ c x, o ≠ .cells c 5 x) → w'.heap[k]? = some o)
        ((Any.Builder_String_k Tryz.lays169 Tryz.Builder_Extra_169 w.heap.size b (decDigits n) W (IsBuilderF.of hib) hne).mono (by rintro e w' ⟨rfl, _, h, hk⟩; exact ⟨_, rfl, rfl, h, hk⟩)) ?_
      rintro v w5 ⟨rfl, hB5, hk5⟩
      refine ⟨_, rfl, ?_⟩
      refine dr U 600 rfl trivial ?_
      have hK5 := hk5 D _ hK (by intro e; cases e; unfold Bk at hkb; rw [hkb] at hK; cases hK) (fun c x e => by cases e)
      have hgp := grownBy_putObj' w5 D (.deferred none)
      refine retM1 U Tryz.results107 (vs := [_]) hK5 ⟨rfl, trivial⟩ ⟨_, rfl, rfl, (hBW.trans hB5).grown hgp (hBW.trans hB5).size (fun k e => by cases e; have := hB4.size; omega)⟩
end Go.Proofs.YtfdekppnilffeaaGreatDoor
end
