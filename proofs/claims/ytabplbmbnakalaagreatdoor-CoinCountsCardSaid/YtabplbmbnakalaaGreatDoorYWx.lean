/-
  Walks of strings.Builder: WriteString and String, wherever the builder lies and whatever is written, empty texts too.
  Conditions: the builder is one that the call made.
-/
import Derived.Test.YtabplbmbnakalaaGreatDoorYWb
set_option linter.unusedSimpArgs false
set_option linter.unusedVariables false
namespace Go.Proofs.YtabplbmbnakalaaGreatDoor
open Go Go.Proofs Go.RowKit Go.Lib

/-- A builder; an empty one has no row yet. -/
def BldX (bt : Nat) (w : World) (base b : Nat) (bs : List UInt8) : Prop :=
  BldT bt w base b bs ∧ (bs = [] → ∃ p, (p = .pointer none ∨ p = .pointer (some ⟨b, 0, none⟩)) ∧ Bk w b bt [p, .slice none 0 0])
theorem BldX.new {bt : Nat} {w : World} {base b : Nat} (hb : base ≤ b) (hk : Bk w b bt [.pointer none, .slice none 0 0]) : BldX bt w base b [] :=
  ⟨⟨hb, _, _, _, _, .inl rfl, hk, ⟨rfl, .inl ⟨rfl, rfl⟩⟩, fun g e => by cases e⟩, fun _ => ⟨_, .inl rfl, hk⟩⟩
theorem BldX.of {bt : Nat} {w : World} {base b : Nat} {bs : List UInt8} (h : BldT bt w base b bs) (hne : bs ≠ []) : BldX bt w base b bs := ⟨h, fun e => absurd e hne⟩
theorem BldX.below {bt : Nat} {w w' : World} {base b : Nat} {bs : List UInt8} (h : BldX bt w base b bs) (hb : Below w.heap.size w w') : BldX bt w' base b bs := by
  obtain ⟨⟨h1, p, a, m, c, h2, h3, h4, h5⟩, hz⟩ := h
  refine ⟨⟨h1, p, a, m, c, h2, h3.below hb h3.lt, ?_, h5⟩, fun e => ?_⟩
  · refine ⟨h4.1, ?_⟩
    rcases h4.2 with h | ⟨g, cap, cur, e1, e2, e3, e4⟩
    · exact .inl h
    · exact .inr ⟨g, cap, cur, e1, e2, by rw [hb.block g (Array.getElem?_eq_some_iff.1 e3).1]; exact e3, e4⟩
  · obtain ⟨p, hp, hk⟩ := hz e
    exact ⟨p, hp, hk.below hb hk.lt⟩

theorem writeZ (bt : Nat) (hbt : Lies bt) (base b : Nat) (p : Value) (w : World) (hb : base ≤ b) (hp : p = .pointer none ∨ p = .pointer (some ⟨b, 0, none⟩)) (hk : Bk w b bt [p, .slice none 0 0]) (hbase : base ≤ w.heap.size) :
    Calls Tryz.prog 134 #[.pointer (some ⟨b, 0, none⟩), .string ⟨⟨[]⟩⟩] w
      (Ret fun v w' => v = .tuple ⟨[.int .i64 ((0 : Nat) : Int), .nilIface]⟩ ∧ BldX bt w' base b [] ∧ Below base w w' ∧ Kept b w w') := by
  have ho : w.ownsRow base 5 1 (.slice none 0 0) 0 [] := ⟨rfl, .inl ⟨rfl, rfl⟩⟩
  refine enter Tryz.func134 rfl Tryz.ntmps134 (Nat.le_of_ble_eq_true rfl) ?_
  refine dr U 600 rfl trivial ?_
  refine call (f := 150) rfl rfl cb150 (copyCheckT bt hbt b p _ w hp hk) ?_
  rintro v w1 ⟨rfl, hk1, hg1⟩
  refine ⟨_, rfl, ?_⟩
  have ho1 := own_keep ho hg1 (fun g hg e => by cases hg)
  have hs1 := hg1.size
  refine dr U 600 rfl trivial ?_
  refine ld U rfl rfl rfl rfl ((hk1).cell rfl) ?_
  refine dr U 600 rfl trivial ?_
  obtain ⟨i, hi, hz1, hz2, hz3⟩ := inf5
  obtain ⟨v', w2, hrun, ho2, hg2, hv⟩ := run_append_own_string (P := Tryz.prog) (w := w1) base 67 9 67 5 i Tryz.underlying67 Tryz.underlying9 hi hz3 hz1 hz2 (.slice none 0 0) 0 [] ho1 ⟨⟨[]⟩⟩
    (by unfold maxLen; show 0 + 0 ≤ _; omega) (by show 0 + 0 ≤ _; omega) (by omega)
  obtain rfl := hv.2 ⟨rfl, rfl⟩
  refine op1 (w' := w2) (v := .slice none 0 0) (by intro c h; cases h) rfl rfl (fun act hf => ?_) ?_
  · have e1 := hf.ev (x := .tmp 12) (v := .slice none 0 0) rfl
    have e2 := hf.ev (x := .tmp 13) (v := .string ⟨⟨[]⟩⟩) rfl
    simp only [execOp, resolve, invoke, builtin]
    simp [e1, e2, hrun]
  have hk2 := hk1.keep hg2 (fun e => by cases e)
  refine dr U 600 rfl trivial ?_
  refine st U rfl rfl rfl rfl rfl rfl rfl rfl rfl rfl (hk2) ?_
  intro w3 hk3 hg3 hs3
  refine dr U 600 rfl trivial ?_
  refine ret Tryz.results134 rfl ⟨_, rfl, rfl, ⟨⟨hb, _, none, 0, 0, .inr rfl, hk3, ⟨rfl, .inl ⟨rfl, rfl⟩⟩, fun g e => by cases e⟩, fun _ => ⟨_, .inr rfl, hk3⟩⟩, ?_, ?_⟩
  · exact (((Below.refl base w).grown hg1 hbase (fun k e => by cases e; exact hb)).grown hg2 (by omega) (fun k e => by cases e)).grown hg3 (by have := hg2.size; omega) (fun k e => by cases e; exact hb)
  · exact ((Kept.grown hg1 (fun g e => by cases e; exact .inl rfl)).trans (Kept.grown hg2 (fun g e => by cases e))).trans (Kept.grown hg3 (fun g e => by cases e; exact .inl rfl))

theorem writeX (bt : Nat) (hbt : Lies bt) (base b : Nat) (bs s : List UInt8) (w : World) (h : BldX bt w base b bs) (hlen : bs.length + s.length ≤ 140737488355328) (hbase : base ≤ w.heap.size) :
    Calls Tryz.prog 134 #[.pointer (some ⟨b, 0, none⟩), .string ⟨⟨s⟩⟩] w
      (Ret fun v w' => v = .tuple ⟨[.int .i64 (s.length : Nat), .nilIface]⟩ ∧ BldX bt w' base b (bs ++ s) ∧ Below base w w' ∧ Kept b w w') := by
  by_cases he : bs ++ s = []
  · obtain ⟨rfl, rfl⟩ := List.append_eq_nil_iff.1 he
    obtain ⟨p, hp, hk⟩ := h.2 rfl
    exact writeZ bt hbt base b p w h.1.1 hp hk hbase
  · refine (writeT bt hbt base b bs s w h.1 hlen hbase).mono ?_
    rintro e w' ⟨v, rfl, h1, h2, h3, h4⟩
    exact ⟨v, rfl, h1, .of h2 he, h3, h4⟩
theorem stringX (bt base b : Nat) (bs : List UInt8) (w : World) (h : BldX bt w base b bs) :
    Calls Tryz.prog 136 #[.pointer (some ⟨b, 0, none⟩)] w (Ret fun v w' => v = .string ⟨⟨bs⟩⟩ ∧ Below base w w') := by
  by_cases he : bs = []
  · subst he
    obtain ⟨p, _, hk⟩ := h.2 rfl
    exact string0T bt base b p w hk
  · exact stringT bt base b bs w h.1 he
end Go.Proofs.YtabplbmbnakalaaGreatDoor
