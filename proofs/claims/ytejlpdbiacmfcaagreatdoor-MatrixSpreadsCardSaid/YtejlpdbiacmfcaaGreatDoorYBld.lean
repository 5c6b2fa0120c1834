/-
  Walks of strings.Builder: copyCheck and WriteString.
  Conditions: the builder is one that the call made.

  Walks of package limbs: Digits, Gcd.
  Conditions: fewer than 2^36 limbs; the library's table of powers of ten is laid.

  Walk of package limbs: Pow.
  Conditions: the number has at most as many digits as the limit, which is from 1 to 2^20; the library's table of powers of ten is laid.

  Rules of the engine for bits of unsigned numbers: the lowest bit, a shift to the right by a constant.
  No conditions: each theorem names its own premises.

  Walk of package limbs: Pow.
  Conditions: the number has at most sa many digits sa the limit, which is from 1 to 2^20; the library's table of powers of ten is laid.

  Walk of package limbs: String, the decimal digits of a number.
  Conditions: fewer than 2^36 limbs; the library's table of powers of ten is laid.

  Walks of package limbs: Parse and Form.
  Conditions: Parse is asked of a text of digits alone; texts take fewer than 2^40 bytes.

  Walk of package limbs: Form, which tells texts of numbers.
  Conditions: texts take fewer than 2^40 bytes.

  Walks of package nat: Check, first, result.
  Conditions: texts take fewer than 2^40 bytes; numbers fewer than 2^36 limbs; the library's table of powers of ten is laid.

  Walk of package nat: pair, which reads two texts and computes with their numbers.
  Conditions: texts take fewer than 2^40 bytes.

  Walks of package nat: Add, Mul, Gcd, Sub.
  Conditions: texts take fewer than 2^40 bytes; the library's table of powers of ten is laid.

  Walks of package nat: Cmp, Pow, Sub.
  Conditions: texts take fewer than 2^40 bytes; the library's table of powers of ten is laid.

  Walks of package nat: Sub, DivMod.
  Conditions: texts take fewer than 2^40 bytes; the library's table of powers of ten is laid.

  Walk of package nat: DivMod.
  Conditions: texts take fewer than 2^40 bytes; the library's table of powers of ten is laid.
-/
import Derived.Test.YtejlpdbiacmfcaaGreatDoorYRul
import Derived.Test.YtejlpdbiacmfcaaGreatDoorYLmG
import Derived.Test.YtejlpdbiacmfcaaGreatDoorYNumD
import Derived.Lib.Builder
import Derived.Lib.AppendStr
import Derived.Shelf.Strings.BuilderK
import Derived.Lib.AtoiErrMem
import Derived.Shelf.Strings.SlTrimAscii
section
set_option linter.unusedSimpArgs false
set_option linter.unusedVariables false
namespace Go.Proofs.YtejlpdbiacmfcaaGreatDoor
open Go Go.Proofs Go.RowKit Go.Lib

/-- A builder: its own address or none, and the slice of its bytes. -/
def BldT (bt : Nat) (w : World) (base b : Nat) (bs : List UInt8) : Prop :=
  base ≤ b ∧ ∃ p a m c, (p = .pointer none ∨ p = .pointer (some ⟨b, 0, none⟩)) ∧ Bk w b bt [p, .slice a m c] ∧ w.ownsRow base 5 1 (.slice a m c) m (byteCells bs) ∧ ∀ g, ab a = some g → g ≠ b

abbrev Bld : World → Nat → Nat → List UInt8 → Prop := BldT 160
/-- A builder may lie in a block of this type. -/
def Lies (bt : Nat) : Prop := liesAt Tryz.prog Tryz.prog.depth bt (2 / Tryz.prog.cellsOf bt) 0 160 1 = true ∧ bt ≠ 5
theorem lies_bld : Lies 160 := ⟨by kernel_rfl, by decide⟩

section
variable {P : Program} {ro : Option Nat} {n : Nat} {ds : List Deferred} {Q : PT} {l l' : Fr} {w w' : World} {arr : Array Oper} {r : List Oper} {k : List It}
/-- Any operation that yields a value, its run being known. -/
theorem opv {o : Oper} {v : Value} (hd : ∀ c, o.op ≠ .defer c) (hg : gd arr l o.guard = some true) (hl : put1 n l o.dst v = some l') (hrun : ∀ a, Fit n ds l a → (execOp a.eval o).run P w = .ok (.value v) w)
    (t : T P ro n ds Q l' w (.ops arr r) k) : T P ro n ds Q l w (.ops arr (o :: r)) k := op1 hd hg hl hrun t
end

theorem copyCheckT (bt : Nat) (hbt : Lies bt) (b : Nat) (p v : Value) (w : World) (hp : p = .pointer none ∨ p = .pointer (some ⟨b, 0, none⟩)) (hk : Bk w b bt [p, v]) :
    Calls Tryz.prog 165 #[.pointer (some ⟨b, 0, none⟩)] w (Ret fun r w' => r = .tuple ⟨[]⟩ ∧ Bk w' b bt [.pointer (some ⟨b, 0, none⟩), v] ∧ w.grownBy w' (some b)) := by
  obtain ⟨j, hj, hjs, _⟩ := inf160
  have hsh : w.shape? b = some (bt, 2) := by unfold Bk at hk; simp [World.shape?, hk]
  have hjz : j.size ≠ 0 := by rw [hjs]; decide
  rcases hp with rfl | rfl
  · refine enter Tryz.func165 rfl Tryz.ntmps165 (Nat.le_of_ble_eq_true rfl) ?_
    refine dr U 600 rfl trivial ?_
    refine ld U rfl rfl rfl rfl ((hk).cell rfl) ?_
    refine opv (v := .bool true) (by intro c h; cases h) rfl rfl (fun a hf => ?_) ?_
    · have h1 := run_eql_pointer_nil (P := Tryz.prog) w 158 none (by rw [Program.pointee, Tryz.underlying158])
      have h2 := hf.ev (x := .tmp 5) (v := .pointer none) rfl
      simp only [Act.eval] at h2
      simp [execOp, Act.eval, h2, eqGuard, h1]
    refine dr U 600 rfl trivial ?_
    refine opv (v := .pointer (some ⟨b, 0, none⟩)) (by intro c h; cases h) rfl rfl (fun a hf => ?_) ?_
    · have h1 := Lib.run_to_unsafe (P := Tryz.prog) w ⟨b, 0, none⟩ Tryz.underlying158 Tryz.underlying212 hj hjz hsh (Nat.zero_lt_succ 1)
      have h2 := hf.ev (x := .tmp 8) (v := .pointer (some ⟨b, 0, none⟩)) rfl
      simp only [Act.eval] at h2
      simp [execOp, Act.eval, h2, h1]
    refine opv (v := .pointer (some ⟨b, 0, none⟩)) (by intro c h; cases h) rfl rfl (fun a hf => ?_) ?_
    · have h1 := fun args => run_callFunc_extern (P := Tryz.prog) Tryz.func190 (by kernel_rfl) (by kernel_rfl) (by kernel_rfl) (e := Extern.AbiNoEscape.same) (by kernel_rfl) args w
      have h2 := hf.ev (x := .tmp 9) (v := .pointer (some ⟨b, 0, none⟩)) rfl
      simp only [Act.eval] at h2
      simp [execOp, resolve, invoke, Deferred.ofValue, Act.eval, h2, h1, Lib.run_noEscape, Result.andThen]
    refine opv (v := .pointer (some ⟨b, 0, none⟩)) (by intro c h; cases h) rfl rfl (fun a hf => ?_) ?_
    · have h1 := Lib.run_from_unsafe (P := Tryz.prog) w ⟨b, 0, none⟩ Tryz.underlying212 Tryz.underlying158 hj hsh hbt.1
      have h2 := hf.ev (x := .tmp 10) (v := .pointer (some ⟨b, 0, none⟩)) rfl
      simp only [Act.eval] at h2
      simp [execOp, Act.eval, h2, h1]
    refine dr U 600 rfl trivial ?_
    refine st U rfl rfl rfl rfl rfl rfl rfl rfl rfl rfl (hk) ?_
    intro w1 hk1 hg1 hs1
    refine dr U 600 rfl trivial ?_
    exact retN Tryz.results165 rfl ⟨_, rfl, rfl, hk1, hg1⟩
  · refine enter Tryz.func165 rfl Tryz.ntmps165 (Nat.le_of_ble_eq_true rfl) ?_
    refine dr U 600 rfl trivial ?_
    refine ld U rfl rfl rfl rfl ((hk).cell rfl) ?_
    refine opv (v := .bool false) (by intro c h; cases h) rfl rfl (fun a hf => ?_) ?_
    · have h1 := run_eql_pointer_nil (P := Tryz.prog) w 158 (some ⟨b, 0, none⟩) (by rw [Program.pointee, Tryz.underlying158])
      have h2 := hf.ev (x := .tmp 5) (v := .pointer (some ⟨b, 0, none⟩)) rfl
      simp only [Act.eval] at h2
      simp [execOp, Act.eval, h2, eqGuard, h1]
    refine dr U 600 rfl trivial ?_
    refine ld U rfl rfl rfl rfl ((hk).cell rfl) ?_
    refine dr U 600 rfl trivial ?_
    refine opv (v := .bool false) (by intro c h; cases h) rfl rfl (fun a hf => ?_) ?_
    · have h1 := Lib.run_neq_ptr_same (P := Tryz.prog) w ⟨b, 0, none⟩ Tryz.underlying158 hj
      have h2 := hf.ev (x := .tmp 17) (v := .pointer (some ⟨b, 0, none⟩)) rfl
      have h3 := hf.ev (x := .tmp 18) (v := .pointer (some ⟨b, 0, none⟩)) rfl
      simp only [Act.eval] at h2 h3
      simp [execOp, Act.eval, h2, h3, eqGuard, h1]
    refine dr U 600 rfl trivial ?_
    exact retN Tryz.results165 rfl ⟨_, rfl, rfl, hk, World.grownBy.refl _ _⟩

/-- Whatever is not the builder and no row of bytes stands as it stood. -/
def Kept (b : Nat) (w w' : World) : Prop := ∀ k o, w.heap[k]? = some o → k ≠ b → (∀ c x, o ≠ .cells c 5 x) → w'.heap[k]? = some o

theorem Kept.trans {b : Nat} {w w1 w2 : World} (h : Kept b w w1) (h' : Kept b w1 w2) : Kept b w w2 := fun k o hk hb hn => h' k o (h k o hk hb hn) hb hn
theorem Kept.grown {b : Nat} {w w' : World} {row : Option Nat} (hg : w.grownBy w' row) (hr : ∀ g, row = some g → g = b ∨ ∃ c x, w.heap[g]? = some (.cells c 5 x)) : Kept b w w' := fun k o hk hb hn => by
  rw [hg.block k (Array.getElem?_eq_some_iff.1 hk).1 (fun e => ?_)]
  · exact hk
  · rcases hr k e.symm with h | ⟨c, x, h⟩
    · exact hb h
    · rw [h] at hk; cases hk; exact hn c x rfl

theorem writeT (bt : Nat) (hbt : Lies bt) (base b : Nat) (bs s : List UInt8) (w : World) (h : BldT bt w base b bs) (hlen : bs.length + s.length ≤ 140737488355328) (hbase : base ≤ w.heap.size) :
    Calls Tryz.prog 134 #[.pointer (some ⟨b, 0, none⟩), .string ⟨⟨s⟩⟩] w
      (Ret fun v w' => v = .tuple ⟨[.int .i64 (s.length : Nat), .nilIface]⟩ ∧ BldT bt w' base b (bs ++ s) ∧ Below base w w' ∧ Kept b w w') := by
  obtain ⟨hb, p, a, m, c, hp, hk, ho, hne⟩ := h
  have hm : m = bs.length := by have := own_len ho; rw [byteCells_length] at this; exact this.symm
  subst hm
  refine enter Tryz.func134 rfl Tryz.ntmps134 (Nat.le_of_ble_eq_true rfl) ?_
  refine dr U 600 rfl trivial ?_
  refine call (f := 165) rfl rfl cb165 (copyCheckT bt hbt b p _ w hp hk) ?_
  rintro v w1 ⟨rfl, hk1, hg1⟩
  refine ⟨_, rfl, ?_⟩
  have ho1 := own_keep ho hg1 (fun g hg e => by cases e; exact hne _ hg rfl)
  have hs1 := hg1.size
  refine dr U 600 rfl trivial ?_
  refine ld U rfl rfl rfl rfl ((hk1).cell rfl) ?_
  refine dr U 600 rfl trivial ?_
  obtain ⟨i, hi, hz1, hz2, hz3⟩ := inf5
  obtain ⟨v', w2, hrun, ho2, hg2, _⟩ := run_append_own_string (P := Tryz.prog) (w := w1) base 131 9 131 5 i Tryz.underlying131 Tryz.underlying9 hi hz3 hz1 hz2 (.slice a bs.length c) bs.length (byteCells bs) ho1 ⟨⟨s⟩⟩
    (by unfold maxLen; show bs.length + s.length ≤ _; omega) (by show bs.length + s.length ≤ _; omega) (by omega)
  have hss : (ByteArray.mk ⟨s⟩).size = s.length := rfl
  have hcells : byteCells bs ++ strCells ⟨⟨s⟩⟩ = byteCells (bs ++ s) := by simp [byteCells, strCells]
  rw [hss, hcells] at ho2
  rw [ownBlock_ab] at hg2
  obtain ⟨a2, m2, c2, rfl⟩ : ∃ a' m' c', v' = .slice a' m' c' := by
    rcases ho2.2 with ⟨h, _⟩ | ⟨g, cap, cur, h, _⟩
    · exact ⟨_, _, _, h⟩
    · exact ⟨_, _, _, h⟩
  have hm2 : m2 = bs.length + s.length := by
    rcases ho2.2 with ⟨h, h'⟩ | ⟨g, cap, cur, h, _⟩
    · simp at h; omega
    · simp at h; omega
  subst hm2
  refine op1 (w' := w2) (v := .slice a2 (bs.length + s.length) c2) (by intro c h; cases h) rfl rfl (fun act hf => ?_) ?_
  · have e1 := hf.ev (x := .tmp 12) (v := .slice a bs.length c) rfl
    have e2 := hf.ev (x := .tmp 13) (v := .string ⟨⟨s⟩⟩) rfl
    simp only [execOp, resolve, invoke, builtin]
    simp [e1, e2, hrun]
  have hk2 := hk1.keep hg2 (fun e => hne b e rfl)
  have hne2 : ∀ g, ab a2 = some g → g ≠ b := by
    rintro g hg rfl
    obtain ⟨cc, x, hh⟩ : ∃ cc x, w2.heap[g]? = some (.cells cc 5 x) := by
      rcases ho2.2 with ⟨h, _⟩ | ⟨g', cap, cur, h, _, h3, _⟩
      · simp at h; obtain ⟨rfl, _⟩ := h; cases hg
      · simp at h; obtain ⟨rfl, rfl⟩ := h
        simp [ab] at hg; subst hg
        exact ⟨_, _, h3⟩
    unfold Bk at hk2; rw [hk2] at hh; simp at hh; exact hbt.2 hh.2.1
  refine dr U 600 rfl trivial ?_
  refine st U rfl rfl rfl rfl rfl rfl rfl rfl rfl rfl (hk2) ?_
  intro w3 hk3 hg3 hs3
  refine dr U 600 rfl trivial ?_
  have ho3 := own_keep ho2 hg3 (fun g hg e => by cases e; exact hne2 _ hg rfl)
  refine ret Tryz.results134 rfl ⟨_, rfl, rfl, ⟨hb, _, a2, _, c2, .inr rfl, hk3, ho3, hne2⟩, ?_, ?_⟩
  · exact (((Below.refl base w).grown hg1 hbase (fun k e => by cases e; exact hb)).grown hg2 (by omega) (fun k e => (own_block ho1 k e).1)).grown hg3 (by have := hg2.size; omega) (fun k e => by cases e; exact hb)
  · refine ((Kept.grown hg1 (fun g e => by cases e; exact .inl rfl)).trans (Kept.grown hg2 (fun g e => .inr ?_))).trans (Kept.grown hg3 (fun g e => by cases e; exact .inl rfl))
    rcases ho1.2 with ⟨h, _⟩ | ⟨g', cap, cur, h, _, h3, _⟩
    · simp at h; obtain ⟨rfl, _⟩ := h; cases e
    · simp at h; obtain ⟨rfl, rfl⟩ := h
      simp [ab] at e; subst e
      exact ⟨_, _, h3⟩
theorem write_calls (base b : Nat) (bs s : List UInt8) (w : World) (h : Bld w base b bs) (hlen : bs.length + s.length ≤ 140737488355328) (hbase : base ≤ w.heap.size) :
    Calls Tryz.prog 134 #[.pointer (some ⟨b, 0, none⟩), .string ⟨⟨s⟩⟩] w
      (Ret fun v w' => v = .tuple ⟨[.int .i64 (s.length : Nat), .nilIface]⟩ ∧ Bld w' base b (bs ++ s) ∧ Below base w w' ∧ Kept b w w') := writeT _ lies_bld base b bs s w h hlen hbase
end Go.Proofs.YtejlpdbiacmfcaaGreatDoor
end
section
set_option linter.unusedSimpArgs false
set_option linter.unusedVariables false
namespace Go.Proofs.YtejlpdbiacmfcaaGreatDoor
open Go Go.Proofs Go.RowKit Go.Lib

theorem digits_calls (n : Nat) (a : Option Addr) (c : Nat) (w : World) (ha : Rd w a c (lim n)) (hl : (lim n).length ≤ 68719476736) (ht : TabOk w) :
    Calls Tryz.prog 97 #[.slice a (lim n).length c] w (Ret fun v w' => v = .int .i64 (nDigits n) ∧ Below w.heap.size w w') := by
  refine enter Tryz.func97 rfl Tryz.ntmps97 (Nat.le_of_ble_eq_true rfl) ?_
  refine dr U 600 rfl trivial ?_
  refine cS rfl rfl rfl rfl (fun hq => ?_) (fun hq => ?_)
  · have h0 : n = 0 := lim_eq_nil.1 (List.length_eq_zero_iff.1 (by omega))
    refine dr U 600 rfl trivial ?_
    refine ret Tryz.results97 rfl ⟨_, rfl, ?_, Below.refl _ _⟩
    rw [h0, nD_zero]; rfl
  · have h0 : n ≠ 0 := fun e => hq (by rw [e, lim_zero]; rfl)
    have hx := (lim_Lm n).getD ((lim n).length - 1)
    have hnd := nD_lim h0
    refine dr U 600 rfl (by first | exact True.intro | (simp only [AllP, InR, List.nil_append, List.cons_append, and_true]; omega)) ?_
    refine il U rfl rfl rfl rfl rfl rfl rfl (fun _ => rfl) rfl ((lim n).length - 1) (by omega) (by omega) ha.1 (getU (by omega)) ?_
    refine call (f := 133) rfl rfl cb133 (fmt_calls _ hx w ht) ?_
    rintro v w1 ⟨rfl, hB⟩
    refine ⟨_, rfl, ?_⟩
    have hb := nDigits_pos ((lim n).getD ((lim n).length - 1) 0)
    have hb2 := nD_le 9 ((lim n).getD ((lim n).length - 1) 0) (by omega) hx
    have hdl := decDigits_length ((lim n).getD ((lim n).length - 1) 0)
    refine dr U 600 rfl (by first | exact True.intro | (simp only [AllP, InR, List.nil_append, List.cons_append, and_true]; omega)) ?_
    refine ret Tryz.results97 rfl ⟨_, rfl, ?_, hB⟩
    show Value.int _ _ = Value.int _ _
    congr 1
    omega

theorem gcd_calls (p q : Nat) (a b : Option Addr) (c d : Nat) (w : World) (ha : Rd w a c (lim p)) (hb : Rd w b d (lim q)) (hpl : (lim p).length ≤ 68719476736) (hql : (lim q).length ≤ 68719476736) :
    Calls Tryz.prog 127 #[.slice a (lim p).length c, .slice b (lim q).length d] w (Ret fun v w' => Red w' v (lim (Nat.gcd p q)) ∧ Below w.heap.size w w') := by
  refine enter Tryz.func127 rfl Tryz.ntmps127 (Nat.le_of_ble_eq_true rfl) ?_
  refine dr U 600 rfl trivial ?_
  refine loopR (fun l w' mu => ∃ m0 a0 c0 b0 d0, l = [(0, .slice a0 (lim m0).length c0), (1, .slice b0 (lim mu).length d0)] ∧ Rd w' a0 c0 (lim m0) ∧ Rd w' b0 d0 (lim mu) ∧ Nat.gcd m0 mu = Nat.gcd p q ∧ (lim m0).length ≤ 68719476736 ∧ (lim mu).length ≤ 68719476736 ∧ Below w.heap.size w w')
    (m0 := q) ⟨p, a, c, b, d, rfl, ha, hb, rfl, hpl, hql, Below.refl _ _⟩ ⟨rfl, rfl, trivial⟩ ?_
  rintro l w1 mu ⟨m0, a0, c0, b0, d0, rfl, ha, hb, hg, hl1, hl2, hB⟩
  refine dr U 600 rfl trivial ?_
  refine cS rfl rfl rfl rfl (fun hq => ?_) (fun hq => ?_)
  · have h0 : 0 < mu := by
      rcases Nat.eq_zero_or_pos mu with h | h
      · rw [h, lim_zero] at hq; simp at hq
      · exact h
    refine dr U 600 rfl trivial ?_
    refine call (f := 128) rfl rfl cb128 (divmod_calls m0 mu h0 a0 b0 c0 d0 w1 ha hb hl1 hl2) ?_
    rintro v w2 ⟨v1, v2, rfl, _, ⟨a2, c2, rfl, hr2⟩, hB2⟩
    refine ⟨_, rfl, ?_⟩
    refine dr U 600 rfl trivial ?_
    refine rend _ (m0 % mu) ⟨mu, b0, d0, a2, c2, rfl, hb.below hB2, hr2, ?_, hl2, Nat.le_trans (lim_len_mono (Nat.le_of_lt (Nat.mod_lt _ h0))) hl2, bl_tr hB hB2 hB.size⟩ (Nat.mod_lt _ h0) ⟨rfl, rfl, trivial⟩
    rw [← hg, Nat.gcd_comm m0 mu, Nat.gcd_rec mu m0]; exact Nat.gcd_comm _ _
  · have h0 : mu = 0 := lim_eq_nil.1 (List.length_eq_zero_iff.1 (by omega))
    subst h0
    rw [Nat.gcd_zero_right] at hg
    subst hg
    refine dr U 600 rfl trivial ?_
    exact ret Tryz.results127 rfl ⟨_, rfl, ⟨a0, c0, rfl, ha⟩, hB⟩
end Go.Proofs.YtejlpdbiacmfcaaGreatDoor
end
section
set_option linter.unusedSimpArgs false
set_option linter.unusedVariables false
set_option maxHeartbeats 1000000
namespace Go.Proofs.YtejlpdbiacmfcaaGreatDoor
open Go Go.Proofs Go.RowKit Go.Lib

/-- Only these blocks may have turned. -/
structure Oth (bs : List Nat) (w w' : World) : Prop where
  os : w'.os = w.os
  tape : w'.tape = w.tape
  output : w'.output = w.output
  size : w.heap.size ≤ w'.heap.size
  block : ∀ k, k < w.heap.size → k ∉ bs → w'.heap[k]? = w.heap[k]?

theorem Oth.refl (bs : List Nat) (w : World) : Oth bs w w := ⟨rfl, rfl, rfl, Nat.le_refl _, fun _ _ _ => rfl⟩
theorem Oth.trans {bs : List Nat} {w w1 w2 : World} (h : Oth bs w w1) (h' : Oth bs w1 w2) : Oth bs w w2 :=
  ⟨h'.os.trans h.os, h'.tape.trans h.tape, h'.output.trans h.output, Nat.le_trans h.size h'.size, fun k hk hn => (h'.block k (Nat.lt_of_lt_of_le hk h.size) hn).trans (h.block k hk hn)⟩
theorem Oth.below {bs : List Nat} {w w' : World} {B : Nat} (h : Oth bs w w') (hB : B ≤ w.heap.size) (hb : ∀ b ∈ bs, B ≤ b) : Below B w w' :=
  ⟨h.os, h.tape, h.output, h.size, fun k hk => h.block k (Nat.lt_of_lt_of_le hk hB) (fun hm => by have := hb k hm; omega)⟩
theorem Oth.bk {bs : List Nat} {w w' : World} {b t : Nat} {cs : List Value} (h : Oth bs w w') (hb : Bk w b t cs) (hn : b ∉ bs) : Bk w' b t cs := by
  have hlt := hb.lt
  unfold Bk at *; rw [h.block b hlt hn]; exact hb
theorem Oth.rd {bs : List Nat} {w w' : World} {a : Option Addr} {c : Nat} {xs : List Nat} (h : Oth bs w w') (hr : Rd w a c xs) (hn : ∀ g, ab a = some g → g ∉ bs) : Rd w' a c xs :=
  ⟨fun j v hv => by
    obtain ⟨g, off, rfl, hc⟩ := hr.1 j v hv
    refine ⟨g, off, rfl, ?_⟩
    have := h.block g (hr.2.2 g rfl).lt (hn g rfl)
    unfold World.cell? at *; rw [this]; exact hc, hr.2.1, fun g hg => by
    have hl := (hr.2.2 g hg).lt
    obtain ⟨c, z, e⟩ := hr.2.2 g hg
    exact ⟨c, z, by rw [h.block g hl (hn g hg)]; exact e⟩⟩

theorem TabOk.keep {w w' : World} {row : Option Nat} (h : TabOk w) (hg : w.grownBy w' row) (hr : row ≠ some 0) : TabOk w' := by
  obtain ⟨t, x, h⟩ := h
  exact ⟨t, x, by rw [hg.block _ (Array.getElem?_eq_some_iff.1 h).1 (fun e => hr e.symm)]; exact h⟩
theorem Oth.tab {bs : List Nat} {w w' : World} (h : Oth bs w w') (ht : TabOk w) (hn : 0 ∉ bs) : TabOk w' := by
  obtain ⟨t, x, ht⟩ := ht
  exact ⟨t, x, by rw [h.block _ (Array.getElem?_eq_some_iff.1 ht).1 hn]; exact ht⟩

end Go.Proofs.YtejlpdbiacmfcaaGreatDoor
end
section
set_option linter.unusedVariables false
set_option linter.unusedSimpArgs false
namespace Go.Proofs.YtejlpdbiacmfcaaGreatDoor
open Go.RowKit

section
variable {P : Program} {ro : Option Nat} {n : Nat} {ds : List Deferred} {Q : PT} {l l' : Fr} {w w' : World} {arr : Array Oper} {r : List Oper} {k : List It}

end
end Go.Proofs.YtejlpdbiacmfcaaGreatDoor
end
section
set_option linter.unusedSimpArgs false
set_option linter.unusedVariables false
set_option maxHeartbeats 1000000
namespace Go.Proofs.YtejlpdbiacmfcaaGreatDoor
open Go Go.Proofs Go.RowKit Go.Lib

end Go.Proofs.YtejlpdbiacmfcaaGreatDoor
end
section
set_option linter.unusedSimpArgs false
set_option linter.unusedVariables false
set_option maxHeartbeats 1000000
namespace Go.Proofs.YtejlpdbiacmfcaaGreatDoor
open Go Go.Proofs Go.RowKit Go.Lib

theorem OwnB.tab (B : Nat) : OwnB B TabOk := fun W W' row h hg hr => h.keep hg (fun e => by
  obtain ⟨_, o, ho, hf⟩ := hr _ e
  obtain ⟨t, x, h⟩ := h
  exact cells_ne ho hf h rfl)
theorem OwnB.bld (B base b : Nat) (bs : List UInt8) : OwnB B (fun w => Bld w base b bs) :=
  (OwnB.pure _ _).and (OwnB.ex fun p => OwnB.ex fun a => OwnB.ex fun m => OwnB.ex fun c => (OwnB.pure _ _).and ((OwnB.bk _ _ _ _).and ((OwnB.own _ _ _ _ _ _ _ _).and (OwnB.pure _ _))))
theorem ko_kept {b : Nat} {W W' : World} {t : Nat} {cs : List Value} (hb : Bk W b t cs) (h : Kept b W W') (hs : W.heap.size ≤ W'.heap.size) : KeepsOthers W W' :=
  ⟨hs, fun k o hk ho => h k o hk (fun e => by subst e; unfold Bk at hb; rw [hb] at hk; cases hk; cases ho) (fun c x e => by subst e; cases ho)⟩
theorem Kept.bk {b : Nat} {W W' : World} {g : Nat} {cs : List Value} (h : Kept b W W') (hb : Bk W g 74 cs) (hne : g ≠ b) : Bk W' g 74 cs :=
  h g _ hb hne (fun c x e => by simp at e)
theorem Bld.below {w w' : World} {base b : Nat} {bs : List UInt8} (h : Bld w base b bs) (hb : Below w.heap.size w w') : Bld w' base b bs := by
  obtain ⟨h1, p, a, m, c, h2, h3, h4, h5⟩ := h
  refine ⟨h1, p, a, m, c, h2, h3.below hb h3.lt, ?_, h5⟩
  refine ⟨h4.1, ?_⟩
  rcases h4.2 with h | ⟨g, cap, cur, e1, e2, e3, e4⟩
  · exact .inl h
  · exact .inr ⟨g, cap, cur, e1, e2, by rw [hb.block g (Array.getElem?_eq_some_iff.1 e3).1]; exact e3, e4⟩

theorem string_calls (n : Nat) (a : Option Addr) (c : Nat) (w : World) (ha : Rd w a c (lim n)) (hl : (lim n).length ≤ 68719476736) (ht : TabOk w) :
    Calls Tryz.prog 98 #[.slice a (lim n).length c] w (Ret fun v w' => v = .string ⟨⟨decDigits n⟩⟩ ∧ Below w.heap.size w w') := by
  have hvn := val_lim n
  have hxl := lim_Lm n
  refine enterM Tryz.func98 rfl Tryz.ntmps98 (Nat.le_of_ble_eq_true rfl) ?_
  refine dr U 600 rfl trivial ?_
  refine cS rfl rfl rfl rfl (fun hq => ?_) (fun hq => ?_)
  · have h0 : n = 0 := lim_eq_nil.1 (List.length_eq_zero_iff.1 (by omega))
    refine dr U 600 rfl trivial ?_
    refine retM0 U Tryz.results98 (vs := [_]) ⟨rfl, trivial⟩ ⟨_, rfl, ?_, Below.refl _ _⟩
    rw [h0, decDigits_one (by omega)]; rfl
  · have h0 : n ≠ 0 := fun e => hq (by rw [e, lim_zero]; rfl)
    have htop := lim_top h0
    have hcap := ha.2.1
    generalize hxs : lim n = xs at *
    have hlen : 0 < xs.length := by omega
    have hx := hxl.getD (xs.length - 1)
    have hdrop : xs.drop (xs.length - 1) = [xs.getD (xs.length - 1) 0] := by
      rw [List.drop_eq_getElem_cons (by omega), List.drop_of_length_le (by omega)]; simp [List.getD, show xs.length - 1 < xs.length by omega]
    refine dr U 600 rfl trivial ?_
    refine al U rfl rfl rfl rfl ?_
    intro b w1 hb hs1 hk1 hg1
    have hB1 : Below w.heap.size w w1 := (Below.refl _ w).grown hg1 (Nat.le_refl _) (fun k e => by cases e)
    have hbld : Bld w1 w.heap.size b [] := ⟨by omega, _, _, _, _, .inl rfl, hk1, ⟨rfl, .inl ⟨rfl, rfl⟩⟩, fun g e => by cases e⟩
    refine dr U 600 rfl (by first | exact True.intro | (simp only [AllP, InR, List.nil_append, List.cons_append, and_true]; omega)) ?_
    refine il U rfl rfl rfl rfl rfl rfl rfl (fun _ => rfl) rfl (xs.length - 1) (by omega) (by omega) (ha.below hB1).1 (getU (by omega)) ?_
    refine call (f := 133) rfl rfl cb133 (fmt_calls _ hx w1 (ht.new hg1)) ?_
    rintro v w2 ⟨rfl, hB2⟩
    refine ⟨_, rfl, ?_⟩
    have hnd2 := nD_le 9 (xs.getD (xs.length - 1) 0) (by omega) hx
    have hdl := decDigits_length (xs.getD (xs.length - 1) 0)
    have hB2' := bl_tr hB1 hB2 hB1.size
    refine call (f := 134) rfl rfl cb134 (write_calls w.heap.size b [] _ w2 (hbld.below hB2) (by rw [hdl]; simp only [List.length_nil]; omega) hB2'.size) ?_
    rintro v w3 ⟨rfl, hbld3, hB3, hK3⟩
    refine ⟨_, rfl, ?_⟩
    have hB3' := hB2'.trans hB3
    have ht3 := ht.below hB3'
    refine dr U 600 rfl (by first | exact True.intro | (simp only [AllP, InR, List.nil_append, List.cons_append, and_true]; omega)) ?_
    refine call (f := 123) rfl rfl cb123 (back_calls _ _ _ w3) ?_
    rintro v w4 ⟨rfl, hs4, hk4, hg4⟩
    refine ⟨_, rfl, ?_⟩
    have hB4 := hB3'.grown hg4 hB3'.size (fun k e => by cases e)
    have hbld4 : Bld w4 w.heap.size b ([] ++ decDigits (xs.getD (xs.length - 1) 0)) := OwnB.bld 0 _ _ _ w3 w4 none hbld3 hg4 (fun r e => by cases e)
    have ht4 := ht.below hB4
    have hb3 : b < w3.heap.size := by obtain ⟨_, _, _, _, _, _, h, _⟩ := hbld3; exact h.lt
    have hm : ((xs.length : Int) - 1).toNat = xs.length - 1 := by omega
    rw [hm] at hk4
    rw [List.nil_append] at hbld4
    have hdl0 : decDigits (val (xs.drop (xs.length - 1))) = decDigits (xs.getD (xs.length - 1) 0) := by rw [hdrop]; simp [val]
    have ha4 : Sl w4 a ((xs.take (xs.length - 1)).map u64) := by
      have := (ha.below hB4).1.take (xs.length - 1); rwa [← List.map_take] at this
    have hab := ha.2.2
    refine dr U 600 rfl trivial ?_
    rw [hm]
    refine rng rfl cb156 rfl (back_seq a (xs.length - 1) c w3.heap.size (fun i v => i < xs.length - 1 → v = u64 (xs.getD i 0)) (fun w => Bk w w3.heap.size 74 [.slice a (xs.length - 1) c] ∧ Sl w a ((xs.take (xs.length - 1)).map u64)) (by omega) (fun w h => ⟨h.1, _, h.2, by simp, fun i v hv hi => by
          rw [List.map_take, List.getElem?_take, if_pos hi, getU (by omega)] at hv
          exact (Option.some.inj hv).symm⟩))
      (fun k vs h => by obtain ⟨v, rfl, _⟩ := h; rfl)
      (fun j W => j ≤ xs.length - 1 ∧ Bld W w.heap.size b (decDigits (val (xs.drop (xs.length - 1 - j)))) ∧ TabOk W ∧ Below w.heap.size w W)
      (fun cd W => False)
      (fun j => (OwnB.pure _ _).and ((OwnB.bld _ _ _ _).and ((OwnB.tab _).and (OwnB.below _ hB4.size (Nat.le_refl _)))))
      (fun cd => OwnB.pure _ _) ((OwnB.bk _ _ _ _).and (OwnB.sl _ _ _)) ⟨by omega, by rw [Nat.sub_zero, hdl0]; exact hbld4, ht4, hB4⟩ ⟨hk4, ha4⟩
      (fun vs => [(5, vs.getD 1 undef), (3, .pointer (some ⟨b, 0, none⟩))]) ?_ ?_ ?_ (fun _ _ _ _ h => h.elim)
    · rintro L j vs W ⟨v, rfl, _⟩
      refine dr U 600 rfl trivial ?_
      exact asg ⟨rfl, rfl, trivial⟩
    · rintro L j vs W hj ⟨v, rfl, hv⟩ ⟨hj2, hbW, htW, hBW⟩ ⟨hkW, hsW⟩ hsz
      have hji : xs.length - 1 - (j + 1) = xs.length - 1 - 1 - j := by omega
      have hi : xs.length - 1 - 1 - j < xs.length - 1 := by omega
      rw [hv hi]
      rw [show xs.length - 1 - j = xs.length - 1 - 1 - j + 1 by omega] at hbW
      rw [hji]
      generalize hii : xs.length - 1 - 1 - j = i at *
      have hxi := hxl.getD i
      have hdc : decDigits (val (xs.drop i)) = decDigits (val (xs.drop (i + 1))) ++ (List.replicate (9 - nDigits (xs.getD i 0)) 48 ++ decDigits (xs.getD i 0)) := by
        rw [List.drop_eq_getElem_cons (show i < xs.length by omega)]
        have : xs[i] = xs.getD i 0 := by simp [List.getD, show i < xs.length by omega]
        rw [this]
        refine dec_cons hxi ?_
        have h1 := val_take_drop (xs.drop (i + 1)) (xs.length - 1 - (i + 1)) (by simp; omega)
        rw [List.drop_drop, show i + 1 + (xs.length - 1 - (i + 1)) = xs.length - 1 by omega, hdrop] at h1
        have h2 : 0 < pw (xs.length - 1 - (i + 1)) * val [xs.getD (xs.length - 1) 0] := Nat.mul_pos (pw_pos _) (by simpa [val] using htop)
        omega
      have hbl : (decDigits (val (xs.drop (i + 1)))).length ≤ 9 * xs.length := by
        rw [decDigits_length]
        have h1 : Lm (xs.drop (i + 1)) := hxl.drop _
        have h2 := val_lt h1
        rw [pw10] at h2
        refine Nat.le_trans (nD_le _ _ ?_ h2) ?_
        · simp; omega
        · simp; omega
      generalize hxe : xs.getD i 0 = x at *
      have hnx := nD_le 9 x (by omega) hxi
      have hdx := decDigits_length x
      refine dr U 600 rfl trivial ?_
      refine call (f := 133) rfl rfl cb133 (fmt_calls x hxi W htW) ?_
      rintro v w6 ⟨rfl, hB6⟩
      refine ⟨_, rfl, ?_⟩
      have hBW6 := bl_tr hBW hB6 hBW.size
      have hrep : ([48, 48, 48, 48, 48, 48, 48, 48, 48] : List UInt8).drop (((decDigits x).length : Nat) : Int).toNat = List.replicate (9 - nDigits x) 48 := by
        rw [show ([48, 48, 48, 48, 48, 48, 48, 48, 48] : List UInt8) = List.replicate 9 48 from rfl, List.drop_replicate, Int.toNat_natCast, hdx]
      refine dr U 600 rfl (by simp only [AllP, InR, List.nil_append, List.cons_append, and_true, List.length_cons, List.length_nil]; omega) ?_
      refine call (f := 134) rfl rfl cb134 (write_calls w.heap.size b _ _ w6 (hbW.below hB6) (by rw [hrep, List.length_replicate]; omega) hBW6.size) ?_
      rintro v w7 ⟨rfl, hb7, hB7, hK7⟩
      rw [hrep] at hb7
      refine ⟨_, rfl, ?_⟩
      refine dr U 600 rfl trivial ?_
      refine call (f := 134) rfl rfl cb134 (write_calls w.heap.size b _ _ w7 hb7 (by rw [List.length_append, List.length_replicate]; omega) (hBW6.trans hB7).size) ?_
      rintro v w8 ⟨rfl, hb8, hB8, hK8⟩
      rw [List.append_assoc, ← hdc] at hb8
      refine ⟨_, rfl, ?_⟩
      refine dr U 600 rfl trivial ?_
      have hBW8 := (hBW6.trans hB7).trans hB8
      have hkW6 := hkW.below hB6 hkW.lt
      have hkb : ∃ t cs, Bk w6 b t cs := by obtain ⟨_, _, _, _, _, _, h, _⟩ := hbW.below hB6; exact ⟨_, _, h⟩
      have hKK := hK7.trans hK8
      have hKO : KeepsOthers W w8 := by
        obtain ⟨t, cs, hk⟩ := hkb
        exact (ko_below (KeepsOthers.refl W) hB6).trans (ko_kept hk hKK (Nat.le_trans hB7.size hB8.size))
      exact rnd ⟨hKO, ⟨by omega, hb8, ht.below hBW8, hBW8⟩, hKK.bk hkW6 (by omega), hsW.below ((hB6.mono hBW.size).trans (hB7.trans hB8)) (fun g e => (hab g e).lt)⟩
    · rintro D W hD ⟨hj2, hbW, htW, hBW⟩ hK
      rw [Nat.sub_self, List.drop_zero, hvn] at hbW
      have hne : decDigits n ≠ [] := fun e => by have := decDigits_length n; rw [e] at this; have := nDigits_pos n; simp at *; omega
      have hib : Lib.IsBuilder 160 5 w.heap.size b (byteCells (decDigits n)) W := by
        obtain ⟨h1, p, a2, m, c2, h2, h3, h4, h5⟩ := hbW
        have hm2 := own_len h4
        subst hm2
        rcases h2 with rfl | rfl
        · exact .inl ⟨h1, _, h3, h4, by rw [ownBlock_ab]; exact fun e => h5 b e rfl⟩
        · exact .inr ⟨h1, _, h3, h4, by rw [ownBlock_ab]; exact fun e => h5 b e rfl⟩
      refine dr U 600 rfl trivial ?_
      have hkb : ∃ t cs, Bk W b t cs := by obtain ⟨_, _, _, _, _, _, h, _⟩ := hbW; exact ⟨_, _, h⟩
      obtain ⟨tb, cb, hkb⟩ := hkb
      refine call (f := 135) rfl rfl cb135 (Post := fun v w' => v = .string ⟨⟨decDigits n⟩⟩ ∧ Below w.heap.size W w' ∧ ∀ k o, W.heap[k]? = some o → some k ≠ some b → (∀ c x, o ≠ .cells c 5 x) → w'.heap[k]? = some o)
        ((Any.Builder_String_k Tryz.lays169 Tryz.Builder_Extra_169 w.heap.size b (decDigits n) W (IsBuilderF.of hib) hne).mono (by rintro e w' ⟨rfl, _, h, hk⟩; exact ⟨_, rfl, rfl, h, hk⟩)) ?_
      rintro v w5 ⟨rfl, hB5, hk5⟩
      refine ⟨_, rfl, ?_⟩
      refine dr U 600 rfl trivial ?_
      have hK5 := hk5 D _ hK (by intro e; cases e; unfold Bk at hkb; rw [hkb] at hK; cases hK) (fun c x e => by cases e)
      have hgp := grownBy_putObj' w5 D (.deferred none)
      refine retM1 U Tryz.results98 (vs := [_]) hK5 ⟨rfl, trivial⟩ ⟨_, rfl, rfl, (hBW.trans hB5).grown hgp (hBW.trans hB5).size (fun k e => by cases e; have := hB4.size; omega)⟩
end Go.Proofs.YtejlpdbiacmfcaaGreatDoor
end
section
set_option linter.unusedSimpArgs false
set_option linter.unusedVariables false
set_option maxHeartbeats 1000000
namespace Go.Proofs.YtejlpdbiacmfcaaGreatDoor
open Go Go.Proofs Go.RowKit Go.Lib

theorem parseUint_calls (l : List UInt8) (h : Dgs l) (hne : l ≠ []) (hl : l.length ≤ 9) (w : World) :
    Calls Tryz.prog 163 #[.string ⟨⟨l⟩⟩, .int .i64 10, .int .i64 64] w (Ret fun v w' => v = .tuple ⟨[u64 (dval l), .nilIface]⟩ ∧ Below w.heap.size w w') :=
  (Tryz.strconv_ParseUint_10_at64_ok ⟨⟨l⟩⟩ (show l.length ≤ _ by omega) (dval l) (parse_chunk h hne hl) w).mono (by
    rintro e w' ⟨rfl, rfl | rfl⟩
    · exact ⟨_, rfl, rfl, Below.refl _ _⟩
    · exact ⟨_, rfl, rfl, bytesWorld_below _ _ _⟩)

theorem parse_step {s : List UInt8} {zs : List Nat} {k e : Nat} (he : 0 < e) (hk : zs.length = k) (h : val zs + pw k * dval (s.take e) = dval s) (hel : e ≤ s.length) :
    val (zs ++ [dval ((s.take e).drop (e - 9))]) + pw (k + 1) * dval (s.take (e - 9)) = dval s := by
  rw [val_snoc, hk, pw_succ]
  have h1 : s.take e = s.take (e - 9) ++ (s.take e).drop (e - 9) := by
    have := (List.take_append_drop (e - 9) (s.take e)).symm
    rw [List.take_take, Nat.min_eq_left (by omega)] at this
    exact this
  have h2 : dval (s.take e) = dval (s.take (e - 9)) * 10 ^ ((s.take e).drop (e - 9)).length + dval ((s.take e).drop (e - 9)) := by
    conv => lhs; rw [h1]
    exact dval_append _ _
  rcases Nat.lt_or_ge e 9 with h9 | h9
  · have h3 : e - 9 = 0 := by omega
    rw [h3] at h2 ⊢
    simp only [List.take_zero, List.drop_zero] at h2 ⊢
    have : dval [] = 0 := rfl
    rw [this]; omega
  · have h3 : ((s.take e).drop (e - 9)).length = 9 := by simp; omega
    rw [h3] at h2
    rw [h2, Nat.mul_add] at h
    have h4 : 1000000000 * pw k * dval (s.take (e - 9)) = pw k * (dval (s.take (e - 9)) * 10 ^ 9) := by
      rw [Nat.mul_comm 1000000000, Nat.mul_assoc, Nat.mul_comm 1000000000]
    omega

theorem parse_calls (s : List UInt8) (h : Dgs s) (hl : s.length ≤ 1099511627776) (w : World) :
    Calls Tryz.prog 132 #[.string ⟨⟨s⟩⟩] w (Ret fun v w' => Own w w' v (lim (dval s))) := by
  refine enter Tryz.func132 rfl Tryz.ntmps132 (Nat.le_of_ble_eq_true rfl) ?_
  refine dr U 600 rfl trivial ?_
  refine loopR (fun l w' m => ∃ z : Int, ∃ zs a c, l = [(0, .string ⟨⟨s⟩⟩), (3, .slice a zs.length c), (4, .int .i64 z)] ∧ z ≤ s.length ∧ -9 ≤ z ∧ zs.length + z.toNat ≤ s.length ∧ Lm zs ∧ val zs + pw zs.length * dval (s.take z.toNat) = dval s ∧ w'.ownsRow w.heap.size 79 1 (.slice a zs.length c) zs.length (zs.map u64) ∧ Below w.heap.size w w' ∧ m = z.toNat)
    (l0 := [(0, .string ⟨⟨s⟩⟩), (3, .slice none 0 0), (4, .int .i64 (s.length : Nat))]) ⟨(s.length : Int), ([] : List Nat), none, 0, rfl, by omega, by omega, by simp, Lm.nil, by simp [val, pw_zero], ⟨rfl, .inl ⟨rfl, rfl⟩⟩, Below.refl _ _, rfl⟩ ⟨rfl, rfl, rfl, trivial⟩ ?_
  rintro l w1 m ⟨z, zs, a, c, rfl, hz, hz9, hzs, hzl, hv, ho, hB, rfl⟩
  refine dr U 600 rfl trivial ?_
  refine cS rfl rfl rfl rfl (fun hq => ?_) (fun hq => ?_)
  · obtain ⟨e, rfl⟩ : ∃ e : Nat, z = e := ⟨z.toNat, by omega⟩
    rw [Int.toNat_natCast] at hv hzs
    have hel : e ≤ s.length := by omega
    have hstep := parse_step (by omega) rfl hv hel
    have hch : Dgs ((s.take e).drop (e - 9)) := (h.take e).drop _
    have hcl : ((s.take e).drop (e - 9)).length ≤ 9 := by simp; omega
    have hcne : (s.take e).drop (e - 9) ≠ [] := fun e1 => by have := congrArg List.length e1; simp at this; omega
    have hclt : dval ((s.take e).drop (e - 9)) < 1000000000 := by
      have h1 := dval_lt hch
      have h2 := Nat.pow_le_pow_right (n := 10) (by omega) hcl
      omega
    refine dr U 600 rfl (by first | exact True.intro | (simp only [AllP, InR, List.nil_append, List.cons_append, and_true]; omega)) ?_
    rw [show (max 0 ((e : Int) - 9)).toNat = e - 9 by omega, Int.toNat_natCast]
    generalize hchk : (s.take e).drop (e - 9) = ch at *
    refine call (f := 163) rfl rfl cb163 (parseUint_calls ch hch hcne hcl w1) ?_
    rintro v w2 ⟨rfl, hB2⟩
    refine ⟨_, rfl, ?_⟩
    have ho2 : w2.ownsRow w.heap.size 79 1 (.slice a zs.length c) zs.length (zs.map u64) := by
      refine ⟨ho.1, ?_⟩
      rcases ho.2 with h | ⟨g, cap, cur, e1, e2, e3, e4⟩
      · exact .inl h
      · exact .inr ⟨g, cap, cur, e1, e2, by rw [hB2.block g (Array.getElem?_eq_some_iff.1 e3).1]; exact e3, e4⟩
    have hBW := bl_tr hB hB2 hB.size
    refine dr U 600 rfl trivial ?_
    refine ap U (v := (u64 (dval ch))) rfl rfl rfl rfl rfl rfl (fun _ => rfl) rfl (fun _ => rfl) rfl rfl rfl ho2 hBW.size (by omega) (by decide) ?_
    intro a1 c1 w3 ho3 hg3
    refine dr U 600 rfl (by first | exact True.intro | (simp only [AllP, InR, List.nil_append, List.cons_append, and_true]; omega)) ?_
    refine rend [(0, .string ⟨⟨s⟩⟩), (3, .slice a1 (zs.length + 1) c1), (4, .int .i64 ((e : Int) - 9))] _ ⟨(e : Int) - 9, zs ++ [dval ch], a1, c1, by simp, by omega, by omega, by simp; omega, hzl.snoc hclt, by rw [show ((e : Int) - 9).toNat = e - 9 by omega, List.length_append]; exact hstep, by simpa using ho3, hBW.grown hg3 hBW.size (fun g hg => (own_block ho2 g hg).1), rfl⟩ (by omega) ⟨rfl, rfl, rfl, trivial⟩
  · have hz0 : z.toNat = 0 := by omega
    rw [hz0, List.take_zero, show dval [] = 0 from rfl] at hv
    refine dr U 600 rfl trivial ?_
    refine call (f := 121) rfl rfl cb121 (trim_own zs a c w.heap.size w1 ho hzl (by omega)) ?_
    rintro v w2 ⟨rfl, rfl, ho2⟩
    refine ⟨_, rfl, ?_⟩
    refine dr U 600 rfl trivial ?_
    rw [show val zs = dval s by omega] at ho2 ⊢
    exact ret Tryz.results132 rfl ⟨_, rfl, a, c, rfl, ho2, hB⟩
end Go.Proofs.YtejlpdbiacmfcaaGreatDoor
end
section
set_option linter.unusedSimpArgs false
set_option linter.unusedVariables false
set_option maxHeartbeats 1000000
namespace Go.Proofs.YtejlpdbiacmfcaaGreatDoor
open Go Go.Proofs Go.RowKit Go.Lib

/-- A text of a number. -/
def Form (l : List UInt8) : Prop := l ≠ [] ∧ (l = [48] ∨ l.head? ≠ some 48) ∧ Dgs l

theorem form_iff {l : List UInt8} : Form l ↔ ∃ n, l = decDigits n :=
  ⟨fun ⟨h1, h2, h3⟩ => ⟨_, dec_of h3 h1 h2⟩, by
    rintro ⟨n, rfl⟩
    exact ⟨fun e => by have := decDigits_length n; rw [e] at this; have := nDigits_pos n; simp at *; omega, dec_head, (dec_dval n).1⟩⟩

theorem dropW_nil {p : UInt8 → Bool} : ∀ (l : List UInt8), l.dropWhile p = [] ↔ ∀ c ∈ l, p c = true
  | [] => by simp
  | c :: l => by
    rw [List.dropWhile_cons]
    split
    · rename_i h
      rw [dropW_nil l]; simp [h]
    · rename_i h
      simp only [List.cons_ne_nil, List.mem_cons, forall_eq_or_imp, false_iff]
      exact fun ⟨h1, _⟩ => h h1

theorem trim_nil (l cs : List UInt8) : trimS l cs = [] ↔ ∀ c ∈ l, cs.contains c = true := by
  unfold trimS trimLeftS trimRightS
  rw [dropW_nil]
  constructor
  · intro h
    have h1 : l.reverse.dropWhile (cs.contains ·) = [] := by
      cases hd : l.reverse.dropWhile (cs.contains ·) with
      | nil => rfl
      | cons x t =>
        exfalso
        have h2 := h x (by rw [hd]; simp)
        have h3 := List.head?_dropWhile_not (cs.contains ·) l.reverse
        rw [hd] at h3
        simp at h3
        simp at h2
        exact h3 h2
    rw [dropW_nil] at h1
    intro c hc
    exact h1 c (by simpa using hc)
  · intro h c hc
    have h1 : l.reverse.dropWhile (cs.contains ·) = [] := (dropW_nil _).2 (fun c hc => h c (by simpa using hc))
    rw [h1] at hc
    cases hc

theorem digs_cut (c : UInt8) : ([48, 49, 50, 51, 52, 53, 54, 55, 56, 57] : List UInt8).contains c = true ↔ isD c := by
  have key : ∀ n : Fin 256, ([48, 49, 50, 51, 52, 53, 54, 55, 56, 57] : List UInt8).contains (UInt8.ofNat n.val) = decide (48 ≤ n.val ∧ n.val ≤ 57) := by decide +kernel
  have h := key ⟨c.toNat, c.toNat_lt⟩
  simp only [UInt8.ofNat_toNat] at h
  rw [h]
  simp [isD]

theorem trimstr_calls (l : List UInt8) (hl : l.length ≤ 1099511627776) (w : World) :
    Calls Tryz.prog 162 #[.string ⟨⟨l⟩⟩, .string ⟨⟨[48, 49, 50, 51, 52, 53, 54, 55, 56, 57]⟩⟩] w (Ret fun v w' => (∃ t, v = .string ⟨⟨t⟩⟩ ∧ (t = [] ↔ Dgs l)) ∧ Below w.heap.size w w') :=
  (Any.strings_Trim_laid Tryz.lays160 (by kernel_rfl) ⟨⟨l⟩⟩ ⟨⟨[48, 49, 50, 51, 52, 53, 54, 55, 56, 57]⟩⟩ w (show l.length ≤ _ by omega) (by decide) (ascii_of_all (by decide))).mono (by
    rintro e w' ⟨rfl, hB⟩
    refine ⟨_, rfl, ⟨_, rfl, ?_⟩, hB⟩
    rw [trim_nil]
    exact ⟨fun h c hc => (digs_cut c).1 (h c hc), fun h c hc => (digs_cut c).2 (h c hc)⟩)


theorem form_calls (l : List UInt8) (hl : l.length ≤ 1099511627776) (w : World) :
    Calls Tryz.prog 131 #[.string ⟨⟨l⟩⟩] w (Ret fun v w' => (∃ b, v = .bool b ∧ (b = true ↔ Form l)) ∧ Below w.heap.size w w') := by
  refine enter Tryz.func131 rfl Tryz.ntmps131 (Nat.le_of_ble_eq_true rfl) ?_
  refine dr U 600 rfl trivial ?_
  refine cS rfl rfl rfl rfl (fun hq => ?_) (fun hq => ?_)
  · have hne : l ≠ [] := hq
    have hpos := List.length_pos_iff.2 hne
    refine dr U 600 rfl trivial ?_
    refine cS rfl rfl rfl rfl (fun hq => ?_) (fun hq => ?_)
    · have hhd : l = [48] ∨ l.head? ≠ some 48 := .inl hq
      refine dr U 600 rfl trivial ?_
      refine call (f := 162) rfl rfl cb162 (trimstr_calls l hl w) ?_
      rintro v w1 ⟨⟨t, rfl, ht⟩, hB⟩
      refine ⟨_, rfl, ?_⟩
      refine cS rfl rfl rfl rfl (fun hq => ?_) (fun hq => ?_)
      · refine dr U 600 rfl trivial ?_
        exact ret Tryz.results131 rfl ⟨_, rfl, ⟨true, rfl, fun _ => ⟨hne, hhd, ht.1 hq⟩, fun _ => rfl⟩, hB⟩
      · refine dr U 600 rfl trivial ?_
        exact ret Tryz.results131 rfl ⟨_, rfl, ⟨false, rfl, fun h => (by cases h), fun h => absurd (ht.2 h.2.2) hq⟩, hB⟩
    · have hn48 := hq
      refine dr U 600 rfl (by first | exact True.intro | (simp only [AllP, InR, List.nil_append, List.cons_append, and_true]; omega)) ?_
      refine cS rfl rfl rfl rfl (fun hq => ?_) (fun hq => ?_)
      · have hhd : l = [48] ∨ l.head? ≠ some 48 := .inr (fun e => by
          cases l with
          | nil => cases e
          | cons c r =>
            simp at e; subst e
            exact hq rfl)
        refine dr U 600 rfl trivial ?_
        refine call (f := 162) rfl rfl cb162 (trimstr_calls l hl w) ?_
        rintro v w1 ⟨⟨t, rfl, ht⟩, hB⟩
        refine ⟨_, rfl, ?_⟩
        refine cS rfl rfl rfl rfl (fun hq => ?_) (fun hq => ?_)
        · refine dr U 600 rfl trivial ?_
          exact ret Tryz.results131 rfl ⟨_, rfl, ⟨true, rfl, fun _ => ⟨hne, hhd, ht.1 hq⟩, fun _ => rfl⟩, hB⟩
        · refine dr U 600 rfl trivial ?_
          exact ret Tryz.results131 rfl ⟨_, rfl, ⟨false, rfl, fun h => (by cases h), fun h => absurd (ht.2 h.2.2) hq⟩, hB⟩
      · have hno : ¬ (l = [48] ∨ l.head? ≠ some 48) := by
          rintro (h | h)
          · exact hn48 h
          · cases l with
            | nil => exact hne rfl
            | cons c r =>
              refine h ?_
              have h8 : c.toNat = 48 := by
                have h9 := Classical.not_not.1 hq
                simp at h9; omega
              show some c = some 48
              rw [show c = 48 from UInt8.toNat_inj.1 h8]
        refine dr U 600 rfl trivial ?_
        exact ret Tryz.results131 rfl ⟨_, rfl, ⟨false, rfl, fun h => (by cases h), fun h => absurd h.2.1 hno⟩, Below.refl _ _⟩
  · have h0 : l = [] := Classical.not_not.1 hq
    refine dr U 600 rfl trivial ?_
    exact ret Tryz.results131 rfl ⟨_, rfl, ⟨false, rfl, fun h => (by cases h), fun h => absurd h0 h.1⟩, Below.refl _ _⟩
end Go.Proofs.YtejlpdbiacmfcaaGreatDoor
end
section
set_option linter.unusedSimpArgs false
set_option linter.unusedVariables false
set_option maxHeartbeats 1000000
namespace Go.Proofs.YtejlpdbiacmfcaaGreatDoor
open Go Go.Proofs Go.RowKit Go.Lib

/-- What Check says of a text. -/
def Chk (l : List UInt8) (e : Int) : Prop := (Form l ∧ l.length ≤ 4000 ∧ e = 0) ∨ (Form l ∧ 4000 < l.length ∧ e = 5) ∨ (¬ Form l ∧ e = 3)

end Go.Proofs.YtejlpdbiacmfcaaGreatDoor
end
section
set_option linter.unusedSimpArgs false
set_option linter.unusedVariables false
set_option maxHeartbeats 1000000
namespace Go.Proofs.YtejlpdbiacmfcaaGreatDoor
open Go Go.Proofs Go.RowKit Go.Lib

section
variable {P : Program} (U : Tys P) {ro : Option Nat} {n : Nat} {ds : List Deferred} {Q : PT} {l l' : Fr} {w w' : World} {arr : Array Oper} {r : List Oper} {k : List It}
end

end Go.Proofs.YtejlpdbiacmfcaaGreatDoor
end
section
set_option linter.unusedSimpArgs false
set_option linter.unusedVariables false
set_option maxHeartbeats 1000000
namespace Go.Proofs.YtejlpdbiacmfcaaGreatDoor
open Go Go.Proofs Go.RowKit Go.Lib

theorem form_len {x : List UInt8} (h : Form x ∧ x.length ≤ 4000) : nDigits (dval x) ≤ 4000 ∧ (lim (dval x)).length ≤ 4000 := by
  have h1 := dec_of h.1.2.2 h.1.1 h.1.2.1
  have h2 : nDigits (dval x) ≤ 4000 := by rw [← decDigits_length, ← h1]; exact h.2
  exact ⟨h2, Nat.le_trans (lim_le_nD _) h2⟩
end Go.Proofs.YtejlpdbiacmfcaaGreatDoor
end
section
set_option linter.unusedSimpArgs false
set_option linter.unusedVariables false
set_option maxHeartbeats 1000000
namespace Go.Proofs.YtejlpdbiacmfcaaGreatDoor
open Go Go.Proofs Go.RowKit Go.Lib

end Go.Proofs.YtejlpdbiacmfcaaGreatDoor
end
section
set_option linter.unusedSimpArgs false
set_option linter.unusedVariables false
set_option maxHeartbeats 1000000
namespace Go.Proofs.YtejlpdbiacmfcaaGreatDoor
open Go Go.Proofs Go.RowKit Go.Lib

end Go.Proofs.YtejlpdbiacmfcaaGreatDoor
end
section
set_option linter.unusedSimpArgs false
set_option linter.unusedVariables false
set_option maxHeartbeats 1000000
namespace Go.Proofs.YtejlpdbiacmfcaaGreatDoor
open Go Go.Proofs Go.RowKit Go.Lib

end Go.Proofs.YtejlpdbiacmfcaaGreatDoor
end
