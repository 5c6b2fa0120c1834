/-
  Walk of package nat: DivMod.
  Conditions: texts take fewer than 2^40 bytes; the library's table of powers of ten is laid.
-/
import Derived.Test.YtnohojjjfconfaaDoorNatC
set_option linter.unusedSimpArgs false
set_option linter.unusedVariables false
set_option maxHeartbeats 1000000
namespace Go.Proofs.YtnohojjjfconfaaDoor
open Go Go.Proofs Go.RowKit Go.Lib

/-- What DivMod returns. -/
def OutD (x y : List UInt8) (v : Value) : Prop :=
  (∃ e, e ≠ 0 ∧ Chk2 x y e ∧ v = .tuple ⟨[.string ⟨⟨[]⟩⟩, .string ⟨⟨[]⟩⟩, .int .i64 e]⟩) ∨
  (Chk2 x y 0 ∧ dval y = 0 ∧ v = .tuple ⟨[.string ⟨⟨[]⟩⟩, .string ⟨⟨[]⟩⟩, .int .i64 6]⟩) ∨
  (Chk2 x y 0 ∧ dval y ≠ 0 ∧ v = .tuple ⟨[.string ⟨⟨decDigits (dval x / dval y)⟩⟩, .string ⟨⟨decDigits (dval x % dval y)⟩⟩, .int .i64 0]⟩)

/-- What its closure leaves. -/
def ResD (b5 m n : Nat) (w0 : World) (v : Value) (w' : World) : Prop :=
  Oth [b5] w0 w' ∧ ((n = 0 ∧ v = .tuple ⟨[.string ⟨⟨[]⟩⟩, .int .i64 6]⟩ ∧ Bk w' b5 22 [.string ⟨⟨[]⟩⟩]) ∨
    (n ≠ 0 ∧ v = .tuple ⟨[.string ⟨⟨decDigits (m / n)⟩⟩, .int .i64 0]⟩ ∧ Bk w' b5 22 [.string ⟨⟨decDigits (m % n)⟩⟩]))

theorem rd_keep {w w' : World} {a : Option Addr} {c : Nat} {xs : List Nat} {b t : Nat} {s : ByteArray} (h : Rd w a c xs) (hg : w.grownBy w' (some b)) (hb : Bk w b t [.string s]) : Rd w' a c xs := by
  refine ⟨fun j v hv => ?_, h.2.1, fun g hgg => Nat.lt_of_lt_of_le (h.2.2 g hgg) hg.size⟩
  obtain ⟨g, off, rfl, hc⟩ := h.1 j v hv
  refine ⟨g, off, rfl, hg.cell hc (fun e => ?_)⟩
  have e2 : g = b := Option.some.inj e
  subst e2
  have hc2 : ([Value.string s] : List Value)[off + j]? = some v := by
    unfold Bk at hb
    simpa [World.cell?, hb] using hc
  rw [List.getElem?_map] at hv
  cases hx : xs[j]? with
  | none => rw [hx] at hv; cases hv
  | some y =>
    rw [hx] at hv
    have hv2 : u64 y = v := Option.some.inj hv
    subst hv2
    cases ho : off + j with
    | zero => rw [ho] at hc2; cases hc2
    | succ q => rw [ho] at hc2; simp at hc2


theorem natDivMod_calls (x y : List UInt8) (hx : x.length ≤ 1099511627776) (hy : y.length ≤ 1099511627776) (w : World) (ht : TabOk w) :
    Calls Tryd.prog 13 #[.string ⟨⟨x⟩⟩, .string ⟨⟨y⟩⟩] w (Ret fun v w' => OutD x y v ∧ Below w.heap.size w w') := by
  refine enter Tryd.func13 rfl Tryd.ntmps13 (Nat.le_of_ble_eq_true rfl) ?_
  refine dr U 600 rfl trivial ?_
  refine al U rfl rfl rfl rfl ?_
  intro b5 w0 hb5 hs0 hk0 hg0
  have hB0 : Below w.heap.size w w0 := (Below.refl _ w).grown hg0 (Nat.le_refl _) (fun k e => by cases e)
  have ht0 := ht.new hg0
  have hn5 := tab_ne ht0 hk0
  have hlt5 := hk0.lt
  refine dr U 600 rfl trivial ?_
  refine call (f := 24) rfl rfl cb24 (pair_calls x y 27 [.pointer (some ⟨b5, 0, none⟩)] cb27 hx hy w0 (ResD b5 (dval x) (dval y) w0) (fun v w' h => by rcases h.2 with ⟨_, h, _⟩ | ⟨_, h, _⟩ <;> exact ⟨_, _, h⟩) ?_) ?_
  · intro w1 a c b d hox hoy hB ha hb
    have hlx := form_len hox
    have hly := form_len hoy
    have hk1 := hk0.below hB hlt5
    have ht1 := ht0.below hB
    refine enter Tryd.func27 rfl Tryd.ntmps27 (Nat.le_of_ble_eq_true rfl) ?_
    refine dr U 600 rfl trivial ?_
    have hz := zero_calls (lim (dval y)) b d w1
    by_cases h0 : dval y = 0
    · rw [h0, lim_zero] at hz hb ⊢
      refine call (f := 28) rfl rfl cb28 hz ?_
      rintro v w2 ⟨rfl, rfl⟩
      refine ⟨_, rfl, ?_⟩
      rw [decide_eq_true (show ([] : List Nat) = [] from rfl)]
      refine dr U 600 rfl trivial ?_
      exact ret Tryd.results27 rfl ⟨_, rfl, Oth.of_below hB, .inl ⟨rfl, rfl, hk1⟩⟩
    · refine call (f := 28) rfl rfl cb28 hz ?_
      rintro v w2 ⟨rfl, rfl⟩
      refine ⟨_, rfl, ?_⟩
      rw [decide_eq_false (fun e => h0 (lim_eq_nil.1 e))]
      refine dr U 600 rfl trivial ?_
      refine call (f := 29) rfl rfl cb29 (divmod_calls (dval x) (dval y) (Nat.pos_of_ne_zero h0) a b c d w1 ha hb (by omega) (by omega)) ?_
      rintro v w2 ⟨v1, v2, rfl, ⟨a2, c2, rfl, hr2⟩, ⟨a3, c3, rfl, hr3⟩, hB2⟩
      refine ⟨_, rfl, ?_⟩
      have hql : dval x / dval y ≤ dval x := Nat.div_le_self _ _
      have hrl : dval x % dval y ≤ dval x := Nat.mod_le _ _
      have hq4 := lim_len_mono hql
      have hr4 := lim_len_mono hrl
      have hqd := nD_mono hql
      have ht2 := ht1.below hB2
      have hk2 := hk1.below hB2 hk1.lt
      have hBW2 := bl_tr hB hB2 hB.size
      refine dr U 600 rfl trivial ?_
      refine call (f := 30) rfl rfl cb30 (string_calls (dval x % dval y) a3 c3 w2 hr3 (by omega) ht2) ?_
      rintro v w3 ⟨rfl, hB3⟩
      refine ⟨_, rfl, ?_⟩
      have hk3 := hk2.below hB3 hk2.lt
      have ht3 := ht2.below hB3
      have hBW3 := bl_tr hBW2 hB3 hBW2.size
      have hr23 := hr2.below hB3
      have hlt3 := hk2.lt
      refine st U rfl rfl rfl rfl rfl rfl rfl rfl rfl rfl (hk3) ?_
      intro w4 hk4 hg4 hs4
      have ht4 := ht3.keep hg4 (by simpa using hn5)
      have hO4 : Oth [b5] w0 w4 := (Oth.of_below hBW3).trans (Oth.of_grown hg4 (fun r e => by cases e; simp))
      have hr24 := rd_keep hr23 hg4 hk3
      refine dr U 600 rfl trivial ?_
      refine call (f := 23) rfl rfl cb23 (result_calls (dval x / dval y) a2 c2 w4 hr24 (by omega) ht4) ?_
      rintro v w5 ⟨hres, hB5⟩
      rcases hres with ⟨_, rfl⟩ | ⟨h, _⟩
      · refine ⟨_, rfl, ?_⟩
        refine dr U 600 rfl trivial ?_
        exact ret Tryd.results27 rfl ⟨_, rfl, hO4.trans (Oth.of_below hB5), .inr ⟨h0, rfl, hk4.below hB5 hk4.lt⟩⟩
      · omega
  · rintro v w1 h
    rcases h with ⟨e, h1, h2, rfl, h4⟩ | ⟨h1, hOX, ⟨h2, rfl, hkX⟩ | ⟨h2, rfl, hkX⟩⟩
    · have hkX := hk0.below h4 hlt5
      have hOX : Oth [b5] w0 w1 := Oth.of_below h4
      refine ⟨_, rfl, ?_⟩
      refine dr U 600 rfl trivial ?_
      have hq5 := hkX.cell (off := 0) rfl
      refine dwn 5 (fun w' => w'.cell? ⟨b5, 0, none⟩ = some (.string ⟨⟨[]⟩⟩)) hmo ?_
      intro w2 hh hg2
      have hC : w2.cell? ⟨b5, 0, none⟩ = some (.string ⟨⟨[]⟩⟩) := cell_heap hh hq5
      refine dq U [0,1,2,3] [(1, (.string ⟨⟨[]⟩⟩))] (by kernel_rfl) rfl rfl hC (by simp only [AllP, InR, List.nil_append, List.cons_append]; (repeat' apply And.intro); all_goals first | exact True.intro | omega | (intro w_ hw_; refine ldC U rfl hw_ ?_; first | assumption | (simp [add_plain]; assumption)) | (intro w_ hw_; refine run_load_cell U rfl ?_; first | exact hw_ | exact hw_.1 | exact hw_.2 | exact hw_.2.1 | exact hw_.2.2 | exact hw_.2.2.1 | exact hw_.2.2.2 | (simp [add_plain]; first | exact hw_.1 | exact hw_.2.1 | exact hw_.2.2))) ?_
      refine d1 rfl rfl (fun _ => hC) ?_
      have hk2 := heap_bk hh hkX
      refine st U rfl rfl rfl rfl rfl rfl rfl rfl rfl rfl (hk2) ?_
      intro w3 hk3 hg3 hs3
      refine d2 ?_
      refine d1 rfl rfl (fun _ => hk3.cell rfl) ?_
      refine dr U 600 rfl trivial ?_
      refine d3 ?_; refine dend rfl (fun h => by cases h) ?_
      refine dr U 600 rfl trivial ?_
      refine retC U Tryd.results13 (vs := [_, _, _]) ⟨rfl, ⟨_, rfl, rfl, hk3.cell rfl⟩, rfl, trivial⟩ ⟨_, rfl, (.inl ⟨e, h1, h2, rfl⟩), ?_⟩
      have hBX := bl_tr hB0 (hOX.below (Nat.le_refl w0.heap.size |> fun _ => hB0.size) (fun b hb => by simp at hb; omega)) (Nat.le_refl _)
      have hBX2 := hBX.grown hg2 hBX.size (fun k e => by cases e)
      exact hBX2.grown hg3 hBX2.size (fun k e => by cases e; omega)
    · refine ⟨_, rfl, ?_⟩
      refine dr U 600 rfl trivial ?_
      have hq5 := hkX.cell (off := 0) rfl
      refine dwn 5 (fun w' => w'.cell? ⟨b5, 0, none⟩ = some (.string ⟨⟨[]⟩⟩)) hmo ?_
      intro w2 hh hg2
      have hC : w2.cell? ⟨b5, 0, none⟩ = some (.string ⟨⟨[]⟩⟩) := cell_heap hh hq5
      refine dq U [0,1,2,3] [(1, (.string ⟨⟨[]⟩⟩))] (by kernel_rfl) rfl rfl hC (by simp only [AllP, InR, List.nil_append, List.cons_append]; (repeat' apply And.intro); all_goals first | exact True.intro | omega | (intro w_ hw_; refine ldC U rfl hw_ ?_; first | assumption | (simp [add_plain]; assumption)) | (intro w_ hw_; refine run_load_cell U rfl ?_; first | exact hw_ | exact hw_.1 | exact hw_.2 | exact hw_.2.1 | exact hw_.2.2 | exact hw_.2.2.1 | exact hw_.2.2.2 | (simp [add_plain]; first | exact hw_.1 | exact hw_.2.1 | exact hw_.2.2))) ?_
      refine d1 rfl rfl (fun _ => hC) ?_
      have hk2 := heap_bk hh hkX
      refine st U rfl rfl rfl rfl rfl rfl rfl rfl rfl rfl (hk2) ?_
      intro w3 hk3 hg3 hs3
      refine d2 ?_
      refine d1 rfl rfl (fun _ => hk3.cell rfl) ?_
      refine dr U 600 rfl trivial ?_
      refine d3 ?_; refine dend rfl (fun h => by cases h) ?_
      refine dr U 600 rfl trivial ?_
      refine retC U Tryd.results13 (vs := [_, _, _]) ⟨rfl, ⟨_, rfl, rfl, hk3.cell rfl⟩, rfl, trivial⟩ ⟨_, rfl, (.inr (.inl ⟨h1, h2, rfl⟩)), ?_⟩
      have hBX := bl_tr hB0 (hOX.below (Nat.le_refl w0.heap.size |> fun _ => hB0.size) (fun b hb => by simp at hb; omega)) (Nat.le_refl _)
      have hBX2 := hBX.grown hg2 hBX.size (fun k e => by cases e)
      exact hBX2.grown hg3 hBX2.size (fun k e => by cases e; omega)
    · refine ⟨_, rfl, ?_⟩
      refine dr U 600 rfl trivial ?_
      have hq5 := hkX.cell (off := 0) rfl
      refine dwn 5 (fun w' => w'.cell? ⟨b5, 0, none⟩ = some (.string ⟨⟨decDigits (dval x % dval y)⟩⟩)) hmo ?_
      intro w2 hh hg2
      have hC : w2.cell? ⟨b5, 0, none⟩ = some (.string ⟨⟨decDigits (dval x % dval y)⟩⟩) := cell_heap hh hq5
      refine dq U [0,1,2,3] [(1, (.string ⟨⟨decDigits (dval x % dval y)⟩⟩))] (by kernel_rfl) rfl rfl hC (by simp only [AllP, InR, List.nil_append, List.cons_append]; (repeat' apply And.intro); all_goals first | exact True.intro | omega | (intro w_ hw_; refine ldC U rfl hw_ ?_; first | assumption | (simp [add_plain]; assumption)) | (intro w_ hw_; refine run_load_cell U rfl ?_; first | exact hw_ | exact hw_.1 | exact hw_.2 | exact hw_.2.1 | exact hw_.2.2 | exact hw_.2.2.1 | exact hw_.2.2.2 | (simp [add_plain]; first | exact hw_.1 | exact hw_.2.1 | exact hw_.2.2))) ?_
      refine d1 rfl rfl (fun _ => hC) ?_
      have hk2 := heap_bk hh hkX
      refine st U rfl rfl rfl rfl rfl rfl rfl rfl rfl rfl (hk2) ?_
      intro w3 hk3 hg3 hs3
      refine d2 ?_
      refine d1 rfl rfl (fun _ => hk3.cell rfl) ?_
      refine dr U 600 rfl trivial ?_
      refine d3 ?_; refine dend rfl (fun h => by cases h) ?_
      refine dr U 600 rfl trivial ?_
      refine retC U Tryd.results13 (vs := [_, _, _]) ⟨rfl, ⟨_, rfl, rfl, hk3.cell rfl⟩, rfl, trivial⟩ ⟨_, rfl, (.inr (.inr ⟨h1, h2, rfl⟩)), ?_⟩
      have hBX := bl_tr hB0 (hOX.below (Nat.le_refl w0.heap.size |> fun _ => hB0.size) (fun b hb => by simp at hb; omega)) (Nat.le_refl _)
      have hBX2 := hBX.grown hg2 hBX.size (fun k e => by cases e)
      exact hBX2.grown hg3 hBX2.size (fun k e => by cases e; omega)
end Go.Proofs.YtnohojjjfconfaaDoor
