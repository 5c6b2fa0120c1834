/-
  Walks: strings.Cut at a slash, frac.Parse, rat.Check, rat.Parts.
  Conditions: texts take fewer than 2^40 bytes; the library's table of powers of ten is laid.
-/
import Derived.Test.YtfdekppnilffeaaGreatDoorYStr
import Derived.Test.YtfdekppnilffeaaGreatDoorYR4
import Derived.Lib.IndexLaws
set_option linter.unusedSimpArgs false
set_option linter.unusedVariables false
set_option maxHeartbeats 1000000
namespace Go.Proofs.YtfdekppnilffeaaGreatDoor
open Go Go.Proofs Go.RowKit Go.Lib

theorem index_slash (s : List UInt8) : ((qpre s).length < s.length ∧ indexByte s 47 = ((qpre s).length : Nat)) ∨ (¬ (qpre s).length < s.length ∧ indexByte s 47 = -1 ∧ qpre s = s) := by
  have hno : indexByte s 47 = -1 ∨ ∃ o : Nat, indexByte s 47 = o := by
    have := indexByte_ge s 47
    rcases Classical.em (indexByte s 47 < 0) with h | h
    · exact .inl (by omega)
    · exact .inr ⟨(indexByte s 47).toNat, by omega⟩
  rcases hno with h | ⟨o, h⟩
  · have h1 := indexByte_none h
    have hall : ∀ c ∈ s, c ≠ 47 := fun c hc e => by
      obtain ⟨k, hk⟩ := List.getElem?_of_mem hc
      exact h1 k (by rw [hk, e])
    have hp : qpre s = s := by unfold qpre; exact takeW_all _ (fun c hc => by simpa using hall c hc)
    exact .inr ⟨by rw [hp]; omega, h, hp⟩
  · obtain ⟨h1, h2⟩ := indexByte_some h
    have hlt := (List.getElem?_eq_some_iff.1 h1).1
    have hl := qpre_len s o (fun c hc e => by
      obtain ⟨k, hk⟩ := List.getElem?_of_mem hc
      rw [List.getElem?_take] at hk
      split at hk
      · rename_i hko; exact h2 k hko (by rw [hk, e])
      · cases hk) (.inr h1) (by omega)
    exact .inl ⟨by omega, by rw [h, hl]⟩

theorem slcut_calls (s : List UInt8) (hs : s.length ≤ 1099511627776) (w : World) :
    Calls Tryz.prog 140 #[.string ⟨⟨s⟩⟩, .string ⟨⟨[47]⟩⟩] w (Ret fun v w' => v = .tuple ⟨[.string ⟨⟨qpre s⟩⟩, .string ⟨⟨if qslash s = true then qd s else []⟩⟩, .bool (qslash s)]⟩ ∧ Below w.heap.size w w') := by
  refine enter Tryz.func140 rfl Tryz.ntmps140 (Nat.le_of_ble_eq_true rfl) ?_
  refine dr U 600 rfl trivial ?_
  refine call (f := 151) rfl rfl cb151 ((Tryz.stringslite_Index_one ⟨⟨s⟩⟩ 47 w).mono (by rintro e w' ⟨rfl, rfl⟩; exact ⟨_, rfl, rfl, rfl⟩ : ∀ e w', _ → Ret (fun v w' => v = .int .i64 (indexByte s 47) ∧ w = w') e w')) ?_
  rintro v w1 ⟨rfl, rfl⟩
  refine ⟨_, rfl, ?_⟩
  rcases index_slash s with ⟨hlt, hi⟩ | ⟨hlt, hi, hp⟩
  · obtain ⟨hqd, hsl⟩ := qd_slash hlt
    rw [hi]
    refine dr U 600 rfl trivial ?_
    refine cT rfl rfl rfl ((by omega)) ?_; refine dr U 600 rfl trivial ?_
    refine dwn 11 (fun _ => True) hmo ?_
    intro w1 hh1 hg1
    have hB1 : Below w.heap.size w w1 := (Below.refl _ _).grown hg1 (Nat.le_refl _) (fun k e => by cases e)
    refine dq U [0,1,2,3,4,5,6,7,8,9,10] [] (by kernel_rfl) rfl rfl True.intro (by simp only [AllP, InR, List.nil_append, List.cons_append]; (repeat' apply And.intro); all_goals first | exact True.intro | omega | (simp only [List.length_cons, List.length_nil]; omega) | (intro w_ hw_; refine ldC U rfl hw_ ?_; first | assumption | (simp [add_plain]; assumption)) | (intro w_ hw_; refine run_load_cell U rfl ?_; first | exact hw_ | exact hw_.1 | exact hw_.2 | exact hw_.2.1 | exact hw_.2.2 | exact hw_.2.2.1 | exact hw_.2.2.2 | (simp [add_plain]; first | exact hw_.1 | exact hw_.2.1 | exact hw_.2.2))) ?_
    refine d1 rfl rfl (fun _ => True.intro) ?_
    refine dr U 600 rfl trivial ?_
    refine d3 ?_; refine dend rfl (fun h => by cases h) ?_
    refine dr U 600 rfl trivial ?_
    refine ret Tryz.results140 rfl ⟨_, rfl, ?_, hB1⟩
    simp only [pack, str, List.length_singleton, Int.toNat_natCast, qpre_take, hsl, if_true, show ((((qpre s).length : Nat) : Int) + ((1 : Nat) : Int)).toNat = (qpre s).length + 1 from by omega, hqd]
  · obtain ⟨hqd, hsl⟩ := qd_plain hlt
    rw [hi]
    refine dr U 600 rfl trivial ?_
    refine cF rfl rfl rfl ((by omega)) ?_; refine dr U 600 rfl trivial ?_
    refine ret Tryz.results140 rfl ⟨_, rfl, ?_, Below.refl _ _⟩
    rw [hsl, hp]; rfl
theorem scut_calls (s : List UInt8) (hs : s.length ≤ 1099511627776) (w : World) :
    Calls Tryz.prog 121 #[.string ⟨⟨s⟩⟩, .string ⟨⟨[47]⟩⟩] w (Ret fun v w' => v = .tuple ⟨[.string ⟨⟨qpre s⟩⟩, .string ⟨⟨if qslash s = true then qd s else []⟩⟩, .bool (qslash s)]⟩ ∧ Below w.heap.size w w') := by
  refine enter Tryz.func121 rfl Tryz.ntmps121 (Nat.le_of_ble_eq_true rfl) ?_
  refine dr U 600 rfl trivial ?_
  refine call (f := 140) rfl rfl cb140 (slcut_calls s hs w) ?_
  rintro v w1 ⟨rfl, hB⟩
  refine ⟨_, rfl, ?_⟩
  refine dr U 600 rfl trivial ?_
  exact ret Tryz.results121 rfl ⟨_, rfl, rfl, hB⟩

/-- What Parse answers. -/
def ParseR (s : List UInt8) (v : Value) (w : World) : Prop :=
  (∃ e, e ≠ 0 ∧ QErr s e ∧ v = .tuple ⟨[zq, .int .i64 e]⟩) ∨ (QErr s 0 ∧ ∃ u, v = .tuple ⟨[u, .int .i64 0]⟩ ∧ FQ w u (qval s))
theorem FQ.past {w w' : World} {v : Value} {r : Rat} {b t : Nat} {cs : List Value} (h : FQ w v r) (hk : Bk w b t cs) (hn : NoInt cs) (hg : w.grownBy w' (some b)) (ht : Nat.beq 142 t = false := by rfl) : FQ w' v r := by
  obtain ⟨an, cn, ad, cd, rfl, h1, h2⟩ := h
  exact ⟨an, cn, ad, cd, rfl, h1.past hk hn hg ht, h2.past hk hn hg ht⟩
theorem FQ.stay {w w' : World} {v : Value} {r : Rat} (h : FQ w v r) (hb : Below w.heap.size w w') : FQ w' v r := FV.below h hb
theorem ParseR.cases {s : List UInt8} {v : Value} {w : World} (h : ParseR s v w) : ∃ m a1 n1 c1 a2 n2 c2 e, v = .tuple ⟨[.agg ⟨[.bool m, .slice a1 n1 c1, .slice a2 n2 c2]⟩, .int .i64 e]⟩ ∧ QErr s e ∧ (e = 0 → FQ w (.agg ⟨[.bool m, .slice a1 n1 c1, .slice a2 n2 c2]⟩) (qval s)) := by
  rcases h with ⟨e, h1, h2, rfl⟩ | ⟨h1, u, rfl, h2⟩
  · exact ⟨_, _, _, _, _, _, _, e, rfl, h2, fun h => absurd h h1⟩
  · obtain ⟨an, cn, ad, cd, rfl, h3⟩ := h2
    exact ⟨_, _, _, _, _, _, _, 0, rfl, h1, fun _ => ⟨an, cn, ad, cd, rfl, h3⟩⟩


theorem frparse_calls (s : List UInt8) (hs : s.length ≤ 1099511627776) (w : World) :
    Calls Tryz.prog 92 #[.string ⟨⟨s⟩⟩] w (Ret fun v w' => ParseR s v w' ∧ Below w.heap.size w w') := by
  have hple := qpre_le s
  have hn0 : (qn s).length ≤ s.length := by
    have := irest_len (qpre s)
    rw [(ineg_q s).2] at this; omega
  refine enter Tryz.func92 rfl Tryz.ntmps92 (Nat.le_of_ble_eq_true rfl) ?_
  refine dr U 600 rfl trivial ?_
  refine al U rfl rfl rfl rfl ?_
  intro b wa hb0 hsa hka hga
  have hBa : Below w.heap.size w wa := (Below.refl _ _).grown hga (Nat.le_refl _) (fun k e => by cases e)
  refine dr U 600 rfl trivial ?_
  refine call (f := 121) rfl rfl cb121 (scut_calls s hs wa) ?_
  rintro v wb ⟨rfl, hBb⟩
  refine ⟨_, rfl, ?_⟩
  have hB1 := bl_tr hBa hBb hBa.size
  have hk1 := hka.below hBb hka.lt
  refine dr U 600 rfl trivial ?_
  refine call (f := 122) rfl rfl cb122 (integer_calls (qpre s) (by omega) wb) ?_
  rintro v w0 ⟨⟨bi, rfl, hbi⟩, hB0'⟩
  refine ⟨_, rfl, ?_⟩
  have hB0 := bl_tr hB1 hB0' hB1.size
  have hk0 := hk1.below hB0' hk1.lt
  have hbw : b < w0.heap.size := hk0.lt
  rw [qneg_iok] at hbi
  simp only [(ineg_q s).1, (ineg_q s).2]
  by_cases hlt : (qpre s).length < s.length
  · obtain ⟨hqd, hsl⟩ := qd_slash hlt
    have hqdl : (qd s).length ≤ s.length := by rw [← hqd]; simp
    simp only [hsl, if_true]
    cases bi with
    | false =>
      have hno : ¬ QIs s := fun h => by have := hbi.2 ⟨h.1, h.2.1⟩; cases this
      refine dr U 600 rfl trivial ?_
      refine dr U 600 rfl trivial ?_
      refine st U rfl rfl rfl rfl rfl rfl rfl rfl rfl rfl (hk0) ?_
      intro w9 hkW hgW hsW
      refine dr U 600 rfl trivial ?_
      refine retS Tryz.results92 (vs := [_, _]) ⟨⟨_, rfl, run_load_agg ag_frac hkW rfl⟩, rfl, trivial⟩ ⟨_, rfl, .inl ⟨3, by decide, (.inl ⟨hno, rfl⟩), rfl⟩, hB0.grown hgW hB0.size (fun k e => by cases e; omega)⟩
    | true =>
      have hn1 := hbi.1 rfl
      refine dr U 600 rfl trivial ?_
      refine cS rfl rfl rfl rfl (fun hq1 => ?_) (fun hq1 => ?_)
      · refine dr U 600 rfl trivial ?_
        refine call (f := 123) rfl rfl cb123 (form_calls (qd s) (by omega) w0) ?_
        rintro v w1 ⟨⟨bd, rfl, hbd⟩, hBf⟩
        refine ⟨_, rfl, ?_⟩
        have hB0 := bl_tr hB0 hBf hB0.size
        have hk0 := hk0.below hBf hk0.lt
        have hbw : b < w1.heap.size := hk0.lt
        cases bd with
        | false =>
          have hno : ¬ QIs s := fun h => by have := hbd.2 (h.2.2 hsl).2.1; cases this
          refine dr U 600 rfl trivial ?_
          refine st U rfl rfl rfl rfl rfl rfl rfl rfl rfl rfl (hk0) ?_
          intro w9 hkW hgW hsW
          refine dr U 600 rfl trivial ?_
          refine retS Tryz.results92 (vs := [_, _]) ⟨⟨_, rfl, run_load_agg ag_frac hkW rfl⟩, rfl, trivial⟩ ⟨_, rfl, .inl ⟨3, by decide, (.inl ⟨hno, rfl⟩), rfl⟩, hB0.grown hgW hB0.size (fun k e => by cases e; omega)⟩
        | true =>
          have hfd := hbd.1 rfl
          refine dr U 600 rfl trivial ?_
          refine cS rfl rfl rfl rfl (fun hq2 => ?_) (fun hq2 => ?_)
          · refine dr U 600 rfl trivial ?_
            refine cS rfl rfl rfl rfl (fun hq3 => ?_) (fun hq3 => ?_)
            · have hQ : QIs s := ⟨hn1.1, hn1.2, fun _ => ⟨hq1, hfd, hq2, hq3⟩⟩
              have hd0 := qd_pos hQ
              have hlq := hqdl
              refine dr U 600 rfl trivial ?_
              refine cS rfl rfl rfl rfl (fun hq => ?_) (fun hq => ?_)
              · refine dr U 600 rfl trivial ?_
                refine st U rfl rfl rfl rfl rfl rfl rfl rfl rfl rfl (hk0) ?_
                intro w9 hkW hgW hsW
                refine dr U 600 rfl trivial ?_
                refine retS Tryz.results92 (vs := [_, _]) ⟨⟨_, rfl, run_load_agg ag_frac hkW rfl⟩, rfl, trivial⟩ ⟨_, rfl, .inl ⟨5, by decide, (.inr (.inl ⟨hQ, .inl (by omega), rfl⟩)), rfl⟩, hB0.grown hgW hB0.size (fun k e => by cases e; omega)⟩
              · refine dr U 600 rfl trivial ?_
                refine cS rfl rfl rfl rfl (fun hq => ?_) (fun hq => ?_)
                · refine dr U 600 rfl trivial ?_
                  refine st U rfl rfl rfl rfl rfl rfl rfl rfl rfl rfl (hk0) ?_
                  intro w9 hkW hgW hsW
                  refine dr U 600 rfl trivial ?_
                  refine retS Tryz.results92 (vs := [_, _]) ⟨⟨_, rfl, run_load_agg ag_frac hkW rfl⟩, rfl, trivial⟩ ⟨_, rfl, .inl ⟨5, by decide, (.inr (.inl ⟨hQ, .inr (by omega), rfl⟩)), rfl⟩, hB0.grown hgW hB0.size (fun k e => by cases e; omega)⟩
                · have hnl : (qn s).length ≤ 4000 := by omega
                  have hdl : (qd s).length ≤ 4000 := by omega
                  have hfd : Form (qd s) := hfd
                  have hlx := form_len ⟨hQ.1, hnl⟩
                  have hly := form_len ⟨hfd, hdl⟩
                  refine dr U 600 rfl trivial ?_
                  refine call (f := 124) rfl rfl cb124 (parse_calls (qn s) hQ.1.2.2 (by omega) w1) ?_
                  rintro v w3 ⟨a3, c3, rfl, ho3, hB3'⟩
                  refine ⟨_, rfl, ?_⟩
                  have hB3 := bl_tr hB0 hB3' hB0.size
                  have hk3 := hk0.below hB3' hk0.lt
                  refine dr U 600 rfl trivial ?_
                  refine call (f := 124) rfl rfl cb124 (parse_calls (qd s) hfd.2.2 (by omega) w3) ?_
                  rintro v w4 ⟨a4, c4, rfl, ho4, hB4'⟩
                  refine ⟨_, rfl, ?_⟩
                  have hB4 := bl_tr hB3 hB4' hB3.size
                  have hk4 := hk3.below hB4' hk3.lt
                  have hr3 := (own_rd ho3).below hB4'
                  have hr4 := own_rd ho4
                  refine dr U 600 rfl trivial ?_
                  refine al U rfl rfl rfl rfl ?_
                  intro bq w5 hbq hs5 hkq hg5
                  have hB5' : Below w4.heap.size w4 w5 := (Below.refl _ _).grown hg5 (Nat.le_refl _) (fun k e => by cases e)
                  have hB5 := bl_tr hB4 hB5' hB4.size
                  have hk5 := hk4.below hB5' hk4.lt
                  have hr3 := hr3.below hB5'
                  have hr4 := hr4.below hB5'
                  refine dr U 600 rfl trivial ?_
                  refine st U rfl rfl rfl rfl rfl rfl rfl rfl rfl rfl (hkq) ?_
                  intro w6 hkq6 hg6 hs6
                  have hB6 := hB5.grown hg6 hB5.size (fun k e => by cases e; have := hB4.size; omega)
                  have hk6 := hk5.keep hg6 (by intro e; cases e; have := hk4.lt; omega)
                  have hr3 := hr3.past hkq ni0 hg6
                  have hr4 := hr4.past hkq ni0 hg6
                  refine dr U 600 rfl trivial ?_
                  refine ld U rfl rfl rfl rfl ((hkq6).cell rfl) ?_
                  refine dr U 600 rfl trivial ?_
                  refine ld U rfl rfl rfl rfl ((hkq6).cell rfl) ?_
                  refine dr U 600 rfl trivial ?_
                  refine call (f := 125) rfl rfl cb125 (gcd_calls _ _ a3 a4 c3 c4 w6 hr3 hr4 (by omega) (by omega)) ?_
                  rintro v w7 ⟨⟨ag, cg, rfl, hg⟩, hB7'⟩
                  refine ⟨_, rfl, ?_⟩
                  have hB7 := bl_tr hB6 hB7' hB6.size
                  refine call (f := 108) rfl rfl cb108 (one_calls _ ag cg w7 hg) ?_
                  rintro v w8 ⟨rfl, rfl⟩
                  refine ⟨_, rfl, ?_⟩
                  have hk7 := hk6.below hB7' hk6.lt
                  have hkq7 := hkq6.below hB7' hkq6.lt
                  have hr3 := hr3.below hB7'
                  have hr4 := hr4.below hB7'
                  by_cases hgcd : Nat.gcd (dval (qn s)) (dval (qd s)) = 1
                  · rw [decide_eq_true hgcd]
                    refine dr U 600 rfl trivial ?_
                    refine lg rfl ag_frac rfl rfl hkq7 rfl ?_
                    refine dr U 600 rfl trivial ?_
                    refine st U rfl rfl rfl rfl rfl rfl rfl rfl rfl rfl (hk7) ?_
                    intro w10 hkW hgW hsW
                    refine dr U 600 rfl trivial ?_
                    refine retS Tryz.results92 (vs := [_, _]) ⟨⟨_, rfl, run_load_agg ag_frac hkW rfl⟩, rfl, trivial⟩ ⟨_, rfl, .inr ⟨.inr (.inr (.inr ⟨hQ, hnl, hdl, hgcd, rfl⟩)), _, rfl, ?_⟩, hB7.grown hgW hB7.size (fun k e => by cases e; omega)⟩
                    have hz : (qneg s && decide (dval (qn s) ≠ 0)) = qneg s := by
                      cases hns : qneg s with
                      | false => rfl
                      | true =>
                        have : dval (qn s) ≠ 0 := fun h => hQ.2.1 ⟨hns, (dval_zero_iff hQ.1).2 h⟩
                        simp [this]
                    refine fv_fq hd0 ?_
                    rw [hgcd, Nat.div_one, Nat.div_one, hz]
                    exact ⟨a3, c3, a4, c4, rfl, hr3.past hk7 ni0 hgW, hr4.past hk7 ni0 hgW⟩
                  · rw [decide_eq_false hgcd]
                    refine dr U 600 rfl trivial ?_
                    refine st U rfl rfl rfl rfl rfl rfl rfl rfl rfl rfl (hk7) ?_
                    intro w10 hkW hgW hsW
                    refine dr U 600 rfl trivial ?_
                    refine retS Tryz.results92 (vs := [_, _]) ⟨⟨_, rfl, run_load_agg ag_frac hkW rfl⟩, rfl, trivial⟩ ⟨_, rfl, .inl ⟨3, by decide, (.inr (.inr (.inl ⟨hQ, hnl, hdl, hgcd, rfl⟩))), rfl⟩, hB7.grown hgW hB7.size (fun k e => by cases e; omega)⟩
            · have hno : ¬ QIs s := fun h => hq3 (h.2.2 hsl).2.2.2
              refine dr U 600 rfl trivial ?_
              refine st U rfl rfl rfl rfl rfl rfl rfl rfl rfl rfl (hk0) ?_
              intro w9 hkW hgW hsW
              refine dr U 600 rfl trivial ?_
              refine retS Tryz.results92 (vs := [_, _]) ⟨⟨_, rfl, run_load_agg ag_frac hkW rfl⟩, rfl, trivial⟩ ⟨_, rfl, .inl ⟨3, by decide, (.inl ⟨hno, rfl⟩), rfl⟩, hB0.grown hgW hB0.size (fun k e => by cases e; omega)⟩
          · have hno : ¬ QIs s := fun h => hq2 (h.2.2 hsl).2.2.1
            refine dr U 600 rfl trivial ?_
            refine st U rfl rfl rfl rfl rfl rfl rfl rfl rfl rfl (hk0) ?_
            intro w9 hkW hgW hsW
            refine dr U 600 rfl trivial ?_
            refine retS Tryz.results92 (vs := [_, _]) ⟨⟨_, rfl, run_load_agg ag_frac hkW rfl⟩, rfl, trivial⟩ ⟨_, rfl, .inl ⟨3, by decide, (.inl ⟨hno, rfl⟩), rfl⟩, hB0.grown hgW hB0.size (fun k e => by cases e; omega)⟩
      · have hno : ¬ QIs s := fun h => hq1 (h.2.2 hsl).1
        refine dr U 600 rfl trivial ?_
        refine st U rfl rfl rfl rfl rfl rfl rfl rfl rfl rfl (hk0) ?_
        intro w9 hkW hgW hsW
        refine dr U 600 rfl trivial ?_
        refine retS Tryz.results92 (vs := [_, _]) ⟨⟨_, rfl, run_load_agg ag_frac hkW rfl⟩, rfl, trivial⟩ ⟨_, rfl, .inl ⟨3, by decide, (.inl ⟨hno, rfl⟩), rfl⟩, hB0.grown hgW hB0.size (fun k e => by cases e; omega)⟩
  · obtain ⟨hqd, hsl⟩ := qd_plain hlt
    have hqdl : (qd s).length ≤ 1 := by rw [← hqd]; simp
    simp only [hsl]
    cases bi with
    | false =>
      have hno : ¬ QIs s := fun h => by have := hbi.2 ⟨h.1, h.2.1⟩; cases this
      refine dr U 600 rfl trivial ?_
      refine dr U 600 rfl trivial ?_
      refine st U rfl rfl rfl rfl rfl rfl rfl rfl rfl rfl (hk0) ?_
      intro w9 hkW hgW hsW
      refine dr U 600 rfl trivial ?_
      refine retS Tryz.results92 (vs := [_, _]) ⟨⟨_, rfl, run_load_agg ag_frac hkW rfl⟩, rfl, trivial⟩ ⟨_, rfl, .inl ⟨3, by decide, (.inl ⟨hno, rfl⟩), rfl⟩, hB0.grown hgW hB0.size (fun k e => by cases e; omega)⟩
    | true =>
      have hn1 := hbi.1 rfl
      have hQ : QIs s := ⟨hn1.1, hn1.2, fun h => by rw [hsl] at h; cases h⟩
      have hd0 := qd_pos hQ
      have hf1 := qd_form hQ
      refine dr U 600 rfl trivial ?_
      rw [show (⟨#[49]⟩ : ByteArray) = ⟨⟨qd s⟩⟩ from by rw [← hqd]]
      have hlq := hqdl
      refine dr U 600 rfl trivial ?_
      refine cS rfl rfl rfl rfl (fun hq => ?_) (fun hq => ?_)
      · refine dr U 600 rfl trivial ?_
        refine st U rfl rfl rfl rfl rfl rfl rfl rfl rfl rfl (hk0) ?_
        intro w9 hkW hgW hsW
        refine dr U 600 rfl trivial ?_
        refine retS Tryz.results92 (vs := [_, _]) ⟨⟨_, rfl, run_load_agg ag_frac hkW rfl⟩, rfl, trivial⟩ ⟨_, rfl, .inl ⟨5, by decide, (.inr (.inl ⟨hQ, .inl (by omega), rfl⟩)), rfl⟩, hB0.grown hgW hB0.size (fun k e => by cases e; omega)⟩
      · refine dr U 600 rfl trivial ?_
        refine cS rfl rfl rfl rfl (fun hq => ?_) (fun hq => ?_)
        · refine dr U 600 rfl trivial ?_
          refine st U rfl rfl rfl rfl rfl rfl rfl rfl rfl rfl (hk0) ?_
          intro w9 hkW hgW hsW
          refine dr U 600 rfl trivial ?_
          refine retS Tryz.results92 (vs := [_, _]) ⟨⟨_, rfl, run_load_agg ag_frac hkW rfl⟩, rfl, trivial⟩ ⟨_, rfl, .inl ⟨5, by decide, (.inr (.inl ⟨hQ, .inr (by omega), rfl⟩)), rfl⟩, hB0.grown hgW hB0.size (fun k e => by cases e; omega)⟩
        · have hnl : (qn s).length ≤ 4000 := by omega
          have hdl : (qd s).length ≤ 4000 := by omega
          have hfd : Form (qd s) := hf1
          have hlx := form_len ⟨hQ.1, hnl⟩
          have hly := form_len ⟨hfd, hdl⟩
          refine dr U 600 rfl trivial ?_
          refine call (f := 124) rfl rfl cb124 (parse_calls (qn s) hQ.1.2.2 (by omega) w0) ?_
          rintro v w3 ⟨a3, c3, rfl, ho3, hB3'⟩
          refine ⟨_, rfl, ?_⟩
          have hB3 := bl_tr hB0 hB3' hB0.size
          have hk3 := hk0.below hB3' hk0.lt
          refine dr U 600 rfl trivial ?_
          refine call (f := 124) rfl rfl cb124 (parse_calls (qd s) hfd.2.2 (by omega) w3) ?_
          rintro v w4 ⟨a4, c4, rfl, ho4, hB4'⟩
          refine ⟨_, rfl, ?_⟩
          have hB4 := bl_tr hB3 hB4' hB3.size
          have hk4 := hk3.below hB4' hk3.lt
          have hr3 := (own_rd ho3).below hB4'
          have hr4 := own_rd ho4
          refine dr U 600 rfl trivial ?_
          refine al U rfl rfl rfl rfl ?_
          intro bq w5 hbq hs5 hkq hg5
          have hB5' : Below w4.heap.size w4 w5 := (Below.refl _ _).grown hg5 (Nat.le_refl _) (fun k e => by cases e)
          have hB5 := bl_tr hB4 hB5' hB4.size
          have hk5 := hk4.below hB5' hk4.lt
          have hr3 := hr3.below hB5'
          have hr4 := hr4.below hB5'
          refine dr U 600 rfl trivial ?_
          refine st U rfl rfl rfl rfl rfl rfl rfl rfl rfl rfl (hkq) ?_
          intro w6 hkq6 hg6 hs6
          have hB6 := hB5.grown hg6 hB5.size (fun k e => by cases e; have := hB4.size; omega)
          have hk6 := hk5.keep hg6 (by intro e; cases e; have := hk4.lt; omega)
          have hr3 := hr3.past hkq ni0 hg6
          have hr4 := hr4.past hkq ni0 hg6
          have hgcd : Nat.gcd (dval (qn s)) (dval (qd s)) = 1 := by rw [← hqd]; exact Nat.gcd_one_right _
          refine dr U 600 rfl trivial ?_
          refine lg rfl ag_frac rfl rfl hkq6 rfl ?_
          refine dr U 600 rfl trivial ?_
          refine st U rfl rfl rfl rfl rfl rfl rfl rfl rfl rfl (hk6) ?_
          intro w10 hkW hgW hsW
          refine dr U 600 rfl trivial ?_
          refine retS Tryz.results92 (vs := [_, _]) ⟨⟨_, rfl, run_load_agg ag_frac hkW rfl⟩, rfl, trivial⟩ ⟨_, rfl, .inr ⟨.inr (.inr (.inr ⟨hQ, hnl, hdl, hgcd, rfl⟩)), _, rfl, ?_⟩, hB6.grown hgW hB6.size (fun k e => by cases e; omega)⟩
          have hz : (qneg s && decide (dval (qn s) ≠ 0)) = qneg s := by
            cases hns : qneg s with
            | false => rfl
            | true =>
              have : dval (qn s) ≠ 0 := fun h => hQ.2.1 ⟨hns, (dval_zero_iff hQ.1).2 h⟩
              simp [this]
          refine fv_fq hd0 ?_
          rw [hgcd, Nat.div_one, Nat.div_one, hz]
          exact ⟨a3, c3, a4, c4, rfl, hr3.past hk6 ni0 hgW, hr4.past hk6 ni0 hgW⟩

end Go.Proofs.YtfdekppnilffeaaGreatDoor
