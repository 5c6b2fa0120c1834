/-
  Walk of the reference's sum of two texts.
  Conditions: texts take fewer than 2^40 bytes.
-/
import Derived.Test.YtcnbohfejgdcbaaGreatDoorYR5
import Derived.Test.YtcnbohfejgdcbaaGreatDoorYSz
set_option linter.unusedSimpArgs false
set_option linter.unusedVariables false
set_option maxHeartbeats 1000000
namespace Go.Proofs.YtcnbohfejgdcbaaGreatDoor
open Go Go.Proofs Go.RowKit Go.Lib

theorem QErr.ok {s : List UInt8} (h : QErr s 0) : QIs s ∧ (qn s).length ≤ 4000 ∧ (qd s).length ≤ 4000 ∧ Nat.gcd (dval (qn s)) (dval (qd s)) = 1 := by
  rcases h with ⟨_, h⟩ | ⟨_, _, h⟩ | ⟨_, _, _, _, h⟩ | ⟨h1, h2, h3, h4, _⟩
  · cases h
  · cases h
  · cases h
  · exact ⟨h1, h2, h3, h4⟩
theorem qd_form {s : List UInt8} (h : QIs s) : Form (qd s) := by
  by_cases hs : qslash s = true
  · exact (h.2.2 hs).2.1
  · unfold qd
    rw [if_neg hs]; exact ⟨by simp, .inr (by decide), fun c hc => by rw [List.mem_singleton.1 hc]; exact ⟨by decide, by decide⟩⟩
theorem QErr.small {s : List UInt8} (h : QErr s 0) : Small 4000 (qval s) := by
  obtain ⟨h1, h2, h3, h4⟩ := h.ok
  exact mkq_small (qd_pos h1) (form_len ⟨h1.1, h2⟩).1 (form_len ⟨qd_form h1, h3⟩).1
theorem Small.fits {K : Nat} {r : Rat} (h : Small K r) (hK : K ≤ 68719476736) : Fits r := ⟨Nat.le_trans h.lim.1 hK, Nat.le_trans h.lim.2 hK⟩

/-- What a function of two numbers answers. -/
def BinR (f : Rat → Rat → Rat) (s t : List UInt8) (v : Value) : Prop :=
  (∃ e, e ≠ 0 ∧ Two s t e ∧ v = .tuple ⟨[.string ⟨⟨[]⟩⟩, .int .i64 e]⟩) ∨ (Two s t 0 ∧ QRes (f (qval s) (qval t)) v)
theorem BinR.uniq {f : Rat → Rat → Rat} {s t : List UInt8} {v v' : Value} (h : BinR f s t v) (h' : BinR f s t v') : v = v' := by
  rcases h with ⟨e, h1, h2, rfl⟩ | ⟨h1, h2⟩ <;> rcases h' with ⟨e', g1, g2, rfl⟩ | ⟨g1, g2⟩
  · rw [h2.uniq g2]
  · exact absurd (h2.uniq g1) h1
  · exact absurd (g2.uniq h1) g1
  · exact h2.uniq g2
theorem BinR.text {f : Rat → Rat → Rat} {p q : Rat} {v : Value} (hp : Small 4000 p) (hq : Small 4000 q) (h : BinR f (qtext p) (qtext q) v) : QRes (f p q) v := by
  have h1 := q_text_ok p hp
  have h2 := q_text_ok q hq
  rcases h with ⟨e, g1, g2, rfl⟩ | ⟨_, g⟩
  · exact absurd (g2.uniq (.inr ⟨h1.1, h2.1⟩)) g1
  · rwa [h1.2, h2.2] at g


theorem radd_calls (s t : List UInt8) (hs : s.length ≤ 1099511627776) (ht : t.length ≤ 1099511627776) (w : World) :
    Calls Tryz.prog 13 #[.string ⟨⟨s⟩⟩, .string ⟨⟨t⟩⟩] w (Ret fun v w' => BinR (· + ·) s t v ∧ Below w.heap.size w w') := by
  refine enter Tryz.func13 rfl Tryz.ntmps13 (Nat.le_of_ble_eq_true rfl) ?_
  refine dr U 600 rfl trivial ?_
  refine call (f := 37) rfl rfl cb37 (rtwo_calls s t hs ht w) ?_
  rintro v w1 ⟨hr, hB1⟩
  obtain ⟨m, a1, n1, c1, a2, n2, c2, m', a1', n1', c1', a2', n2', c2', e, rfl, hte, hqr⟩ := hr
  refine ⟨_, rfl, ?_⟩
  refine dr U 600 rfl trivial ?_
  refine al U rfl rfl rfl rfl ?_
  intro b6 w2 hb6 hs2 hk6 hg2
  refine al U rfl rfl rfl rfl ?_
  intro b7 w3 hb7 hs3 hk7 hg3
  have hk6 := hk6.keep hg3 (by simp)
  have hBa : Below w1.heap.size w1 w3 := ((Below.refl _ _).grown hg2 (Nat.le_refl _) (fun k e => by cases e)).grown hg3 (by omega) (fun k e => by cases e)
  refine st U rfl rfl rfl rfl rfl rfl rfl rfl rfl rfl (hk6) ?_
  intro w4 hk6' hg4 hs4
  have hk7 := hk7.keep hg4 (by intro e; cases e; omega)
  have hB4 := (bl_tr hB1 hBa hB1.size).grown hg4 (by have := hB1.size; omega) (fun k e => by cases e; have := hB1.size; omega)
  refine st U rfl rfl rfl rfl rfl rfl rfl rfl rfl rfl (hk7) ?_
  intro w5 hk7' hg5 hs5
  have hk6' := hk6'.keep hg5 (by intro e; cases e; omega)
  have hB5 := hB4.grown hg5 hB4.size (fun k e => by cases e; have := hB1.size; omega)
  have hqq : e = 0 → QR w5 (.agg ⟨[.bool m, .slice a1 n1 c1, .slice a2 n2 c2]⟩) (qval s) ∧ QR w5 (.agg ⟨[.bool m', .slice a1' n1' c1', .slice a2' n2' c2']⟩) (qval t) := fun h =>
    ⟨(((hqr h).1.stay hBa).past hk6 ni0 hg4).past hk7 ni0 hg5, (((hqr h).2.stay hBa).past hk6 ni0 hg4).past hk7 ni0 hg5⟩
  refine dr U 600 rfl trivial ?_
  refine cS rfl rfl rfl rfl (fun hq => ?_) (fun hq => ?_)
  · refine dr U 600 rfl trivial ?_
    exact ret Tryz.results13 rfl ⟨_, rfl, .inl ⟨e, hq, hte, rfl⟩, hB5⟩
  · obtain rfl := Classical.not_not.1 hq
    obtain ⟨hx, hy⟩ := hqq rfl
    have hsx := hte.ok.1.small
    have hsy := hte.ok.2.small
    refine dr U 600 rfl trivial ?_
    refine lg rfl ag_q rfl rfl hk6' rfl ?_
    refine lg rfl ag_q rfl rfl hk7' rfl ?_
    refine call (f := 39) rfl rfl cb39 (rplus_calls _ _ 4000 (by omega) _ _ w5 hx hy hsx hsy) ?_
    rintro v w6 ⟨hv, hB6'⟩
    refine ⟨_, rfl, ?_⟩
    have hB6 := bl_tr hB5 hB6' hB5.size
    have hsz := small_add hsx hsy
    refine dr U 600 rfl trivial ?_
    refine call (f := 38) rfl rfl cb38 (rwriteq_calls _ v w6 hv (hsz.fits (by omega)) (Nat.le_trans hsz.1 (by omega)) (Nat.le_trans hsz.2 (by omega))) ?_
    rintro v w7 ⟨hr, hB7'⟩
    obtain ⟨x, e, rfl⟩ := hr.tup
    refine ⟨_, rfl, ?_⟩
    refine dr U 600 rfl trivial ?_
    exact ret Tryz.results13 rfl ⟨_, rfl, .inr ⟨hte, hr⟩, bl_tr hB6 hB7' hB6.size⟩
end Go.Proofs.YtcnbohfejgdcbaaGreatDoor
