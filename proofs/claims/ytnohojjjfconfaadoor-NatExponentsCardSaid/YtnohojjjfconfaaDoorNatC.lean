/-
  Walks of package nat: Sub, DivMod.
  Conditions: texts take fewer than 2^40 bytes; the library's table of powers of ten is laid.
-/
import Derived.Test.YtnohojjjfconfaaDoorNatB
set_option linter.unusedSimpArgs false
set_option linter.unusedVariables false
set_option maxHeartbeats 1000000
namespace Go.Proofs.YtnohojjjfconfaaDoor
open Go Go.Proofs Go.RowKit Go.Lib

/-- What the difference of two numbers yields. -/
def ResS (m n : Nat) (v : Value) : Prop := (m < n ∧ v = .tuple ⟨[.string ⟨⟨[]⟩⟩, .int .i64 2]⟩) ∨ (n ≤ m ∧ Res (m - n) v)
def OutS (x y : List UInt8) (v : Value) : Prop := (∃ e, e ≠ 0 ∧ Chk2 x y e ∧ v = .tuple ⟨[.string ⟨⟨[]⟩⟩, .int .i64 e]⟩) ∨ (Chk2 x y 0 ∧ ResS (dval x) (dval y) v)
theorem ResS.tup {m n : Nat} {v : Value} (h : ResS m n v) : ∃ v1 v2, v = .tuple ⟨[v1, v2]⟩ := by
  rcases h with ⟨_, h⟩ | ⟨_, h⟩
  · exact ⟨_, _, h⟩
  · exact h.tup
theorem OutS.tup {x y : List UInt8} {v : Value} (h : OutS x y v) : ∃ v1 v2, v = .tuple ⟨[v1, v2]⟩ := by
  rcases h with ⟨_, _, _, h⟩ | ⟨_, h⟩
  · exact ⟨_, _, h⟩
  · exact h.tup

theorem natSub_calls (x y : List UInt8) (hx : x.length ≤ 1099511627776) (hy : y.length ≤ 1099511627776) (w : World) (ht : TabOk w) :
    Calls Tryd.prog 19 #[.string ⟨⟨x⟩⟩, .string ⟨⟨y⟩⟩] w (Ret fun v w' => OutS x y v ∧ Below w.heap.size w w') := by
  refine enter Tryd.func19 rfl Tryd.ntmps19 (Nat.le_of_ble_eq_true rfl) ?_
  refine dr U 600 rfl trivial ?_
  refine call (f := 24) rfl rfl cb24 (pair_calls x y 38 [] cb38 hx hy w (fun v w' => ResS (dval x) (dval y) v ∧ Below w.heap.size w w') (fun v w' h => h.1.tup) ?_) ?_
  · intro w1 a c b d hox hoy hB ha hb
    have hlx := (form_len hox).2
    have hly := (form_len hoy).2
    refine enter Tryd.func38 rfl Tryd.ntmps38 (Nat.le_of_ble_eq_true rfl) ?_
    refine dr U 600 rfl trivial ?_
    refine call (f := 32) rfl rfl cb32 (cmp_calls (dval x) (dval y) a b c d w1 ha hb (by omega) (by omega)) ?_
    rintro v w2 ⟨rfl, hB2⟩
    refine ⟨_, rfl, ?_⟩
    have hBW2 := bl_tr hB hB2 hB.size
    refine cS rfl rfl rfl rfl (fun hq => ?_) (fun hq => ?_)
    · refine dr U 600 rfl trivial ?_
      exact ret Tryd.results38 rfl ⟨_, rfl, .inl ⟨cmpN_neg.1 hq, rfl⟩, hBW2⟩
    · have hle : dval y ≤ dval x := by
        rcases Nat.lt_or_ge (dval x) (dval y) with h | h
        · exact absurd (cmpN_neg.2 h) hq
        · exact h
      clear hq
      refine dr U 600 rfl trivial ?_
      refine call (f := 39) rfl rfl cb39 (sub_calls (dval x) (dval y) hle a b c d w2 (ha.below hB2) (hb.below hB2) (by omega)) ?_
      rintro v w3 hown
      have hrd0 := hown.red
      obtain ⟨_, _, _, _, hB3⟩ := hown
      obtain ⟨a2, c2, rfl, hrd⟩ := hrd0
      refine ⟨_, rfl, ?_⟩
      have hBW := bl_tr hBW2 hB3 hBW2.size
      have hls := lim_len_mono (show dval x - dval y ≤ dval x by omega)
      refine call (f := 23) rfl rfl cb23 (result_calls (dval x - dval y) _ _ w3 hrd (by omega) (ht.below hBW)) ?_
      rintro v w4 ⟨hres, hB4⟩
      have hres' := hres
      obtain ⟨v1, v2, rfl⟩ := hres'.tup
      refine ⟨_, rfl, ?_⟩
      refine dr U 600 rfl trivial ?_
      exact ret Tryd.results38 rfl ⟨_, rfl, .inr ⟨hle, hres⟩, bl_tr hBW hB4 hBW.size⟩
  · rintro v w1 h
    have hO : OutS x y v ∧ Below w.heap.size w w1 := by
      rcases h with ⟨e, h1, h2, h3, h4⟩ | ⟨h1, h2, h3⟩
      · exact ⟨.inl ⟨e, h1, h2, h3⟩, h4⟩
      · exact ⟨.inr ⟨h1, h2⟩, h3⟩
    have hO' := hO.1
    obtain ⟨v1, v2, rfl⟩ := hO'.tup
    refine ⟨_, rfl, ?_⟩
    refine dr U 600 rfl trivial ?_
    exact ret Tryd.results19 rfl ⟨_, rfl, hO⟩
end Go.Proofs.YtnohojjjfconfaaDoor
