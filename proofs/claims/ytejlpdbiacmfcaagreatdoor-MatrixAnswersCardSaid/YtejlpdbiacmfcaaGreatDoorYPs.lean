/-
  Walks: strings.Cut at a slash, frac.Parse, rat.Check, rat.Parts.
  Conditions: texts take fewer than 2^40 bytes; the library's table of powers of ten is laid.
  Walks of strings.Builder: WriteString and String, wherever the builder lies and whatever is written, empty texts too.
  Conditions: the builder is one that the call made.
  Walks of package bits: Join, FromBytes.
  Conditions: texts take fewer than 2^40 bytes.
  Vectors of fractions as slices of structs: el (an element's cells), VecF; the walk of linear.vector.
  Conditions: texts take fewer than 2^40 bytes; a vector has at most 64 numbers.
-/
import Derived.Test.YtejlpdbiacmfcaaGreatDoorYPar
import Derived.Test.YtejlpdbiacmfcaaGreatDoorYFr
import Derived.Test.YtejlpdbiacmfcaaGreatDoorYRF
import Derived.Test.YtejlpdbiacmfcaaGreatDoorYR5
import Derived.Test.YtejlpdbiacmfcaaGreatDoorYSs
import Derived.Test.YtejlpdbiacmfcaaGreatDoorYFa
import Derived.Lib.IndexLaws
set_option linter.unusedSimpArgs false
set_option linter.unusedVariables false
namespace Go.Proofs.YtejlpdbiacmfcaaGreatDoor
section
set_option maxHeartbeats 1000000
open Go Go.Proofs Go.RowKit Go.Lib

theorem index_slash (s : List UInt8) : ((qpre s).length < s.length ∧ indexByte s 47 = ((qpre s).length : Nat)) ∨ (¬ (qpre s).length < s.length ∧ indexByte s 47 = -1 ∧ qpre s = s) := by
 have hno : indexByte s 47 = -1 ∨ ∃ o : Nat, indexByte s 47 = o := by
  have := indexByte_ge s 47
  rcases Classical.em (indexByte s 47 < 0) with h | h
  ·exact .inl (by omega)
  ·exact .inr ⟨(indexByte s 47).toNat, by omega⟩
 rcases hno with h | ⟨o, h⟩
 ·have h1 := indexByte_none h
  have hall : ∀ c ∈ s, c ≠ 47 := fun c hc e => by
   obtain ⟨k, hk⟩ := List.getElem?_of_mem hc
   exact h1 k (by rw [hk, e])
  have hp : qpre s = s := by unfold qpre; exact takeW_all _ (fun c hc => by simpa using hall c hc)
  exact .inr ⟨by rw [hp]; omega, h, hp⟩
 ·obtain ⟨h1, h2⟩ := indexByte_some h
  have hlt := (List.getElem?_eq_some_iff.1 h1).1
  have hl := qpre_len s o (fun c hc e => by
   obtain ⟨k, hk⟩ := List.getElem?_of_mem hc
   rw [List.getElem?_take] at hk
   split at hk
   ·rename_i hko; exact h2 k hko (by rw [hk, e])
   ·cases hk) (.inr h1) (by omega)
  exact .inl ⟨by omega, by rw [h, hl]⟩

theorem slcut_calls (s : List UInt8) (hs : s.length ≤ 1099511627776) (w : World) :
  Calls Tryz.prog 160 #[.string ⟨⟨s⟩⟩, .string ⟨⟨[47]⟩⟩] w (Ret fun v w' => v = .tuple ⟨[.string ⟨⟨qpre s⟩⟩, .string ⟨⟨if qslash s = true then qd s else []⟩⟩, .bool (qslash s)]⟩ ∧ Below w.heap.size w w') := by
 refine enter Tryz.func160 rfl Tryz.ntmps160 (Nat.le_of_ble_eq_true rfl) ?_
 refine dT rfl ?_
 refine call (f := 179) rfl rfl cb179 ((Tryz.stringslite_Index_one ⟨⟨s⟩⟩ 47 w).mono (by rintro e w' ⟨rfl, rfl⟩; exact ⟨_, rfl, rfl, rfl⟩ : ∀ e w', _ → Ret (fun v w' => v = .int .i64 (indexByte s 47) ∧ w = w') e w')) ?_
 rintro v w1 ⟨rfl, rfl⟩
 refine ⟨_, rfl, ?_⟩
 rcases index_slash s with ⟨hlt, hi⟩ | ⟨hlt, hi, hp⟩
 ·obtain ⟨hqd, hsl⟩ := qd_slash hlt
  rw [hi]
  refine dT rfl ?_
  refine cT rfl rfl rfl ((by omega)) ?_; refine dT rfl ?_
  refine dwn 11 (fun _ => True) hmo ?_
  intro w1 hh1 hg1
  have hB1 : Below w.heap.size w w1 := (Below.refl _ _).grown hg1 (Nat.le_refl _) (fun k e => by cases e)
  refine dqS [0,1,2,3,4,5,6,7,8,9,10] [] rfl rfl True.intro ?_
  refine d1 rfl rfl (fun _ => True.intro) ?_
  refine dT rfl ?_
  refine d3 ?_; refine dend rfl (fun h => by cases h) ?_
  refine dT rfl ?_
  refine ret Tryz.results160 rfl ⟨_, rfl, ?_, hB1⟩
  simp only [pack, str, List.length_singleton, Int.toNat_natCast, qpre_take, hsl, if_true, show ((((qpre s).length : Nat) : Int) + ((1 : Nat) : Int)).toNat = (qpre s).length + 1 from by omega, hqd]
 ·obtain ⟨hqd, hsl⟩ := qd_plain hlt
  rw [hi]
  refine dT rfl ?_
  refine cF rfl rfl rfl ((by omega)) ?_; refine dT rfl ?_
  refine ret Tryz.results160 rfl ⟨_, rfl, ?_, Below.refl _ _⟩
  rw [hsl, hp]; rfl
theorem scut_calls (s : List UInt8) (hs : s.length ≤ 1099511627776) (w : World) :
  Calls Tryz.prog 129 #[.string ⟨⟨s⟩⟩, .string ⟨⟨[47]⟩⟩] w (Ret fun v w' => v = .tuple ⟨[.string ⟨⟨qpre s⟩⟩, .string ⟨⟨if qslash s = true then qd s else []⟩⟩, .bool (qslash s)]⟩ ∧ Below w.heap.size w w') := by
 refine enter Tryz.func129 rfl Tryz.ntmps129 (Nat.le_of_ble_eq_true rfl) ?_
 refine dT rfl ?_
 refine call (f := 160) rfl rfl cb160 (slcut_calls s hs w) ?_
 rintro v w1 ⟨rfl, hB⟩
 refine ⟨_, rfl, ?_⟩
 refine dT rfl ?_
 exact ret Tryz.results129 rfl ⟨_, rfl, rfl, hB⟩

def ParseR (s : List UInt8) (v : Value) (w : World) : Prop :=
 (∃ e, e ≠ 0 ∧ QErr s e ∧ v = .tuple ⟨[zq, .int .i64 e]⟩) ∨ (QErr s 0 ∧ ∃ u, v = .tuple ⟨[u, .int .i64 0]⟩ ∧ FQ w u (qval s))
theorem FQ.past {w w' : World} {v : Value} {r : Rat} {b t : Nat} {cs : List Value} (h : FQ w v r) (hk : Bk w b t cs) (hn : NoInt cs) (hg : w.grownBy w' (some b)) (ht : Nat.beq 79 t = false := by rfl) : FQ w' v r := by
 obtain ⟨an, cn, ad, cd, rfl, h1, h2⟩ := h
 exact ⟨an, cn, ad, cd, rfl, h1.past hk hn hg ht, h2.past hk hn hg ht⟩
theorem FQ.stay {w w' : World} {v : Value} {r : Rat} (h : FQ w v r) (hb : Below w.heap.size w w') : FQ w' v r := FV.below h hb
theorem ParseR.cases {s : List UInt8} {v : Value} {w : World} (h : ParseR s v w) : ∃ m a1 n1 c1 a2 n2 c2 e, v = .tuple ⟨[.agg ⟨[.bool m, .slice a1 n1 c1, .slice a2 n2 c2]⟩, .int .i64 e]⟩ ∧ QErr s e ∧ (e = 0 → FQ w (.agg ⟨[.bool m, .slice a1 n1 c1, .slice a2 n2 c2]⟩) (qval s)) := by
 rcases h with ⟨e, h1, h2, rfl⟩ | ⟨h1, u, rfl, h2⟩
 ·exact ⟨_, _, _, _, _, _, _, e, rfl, h2, fun h => absurd h h1⟩
 ·obtain ⟨an, cn, ad, cd, rfl, h3⟩ := h2
  exact ⟨_, _, _, _, _, _, _, 0, rfl, h1, fun _ => ⟨an, cn, ad, cd, rfl, h3⟩⟩


theorem frparse_calls (s : List UInt8) (hs : s.length ≤ 1099511627776) (w : World) :
  Calls Tryz.prog 96 #[.string ⟨⟨s⟩⟩] w (Ret fun v w' => ParseR s v w' ∧ Below w.heap.size w w') := by
 have hple := qpre_le s
 have hn0 : (qn s).length ≤ s.length := by
  have := irest_len (qpre s)
  rw [(ineg_q s).2] at this; omega
 refine enter Tryz.func96 rfl Tryz.ntmps96 (Nat.le_of_ble_eq_true rfl) ?_
 refine dT rfl ?_
 refine al U rfl rfl rfl rfl ?_
 intro b wa hb0 hsa hka hga
 have hBa : Below w.heap.size w wa := (Below.refl _ _).grown hga (Nat.le_refl _) (fun k e => by cases e)
 refine dT rfl ?_
 refine call (f := 129) rfl rfl cb129 (scut_calls s hs wa) ?_
 rintro v wb ⟨rfl, hBb⟩
 refine ⟨_, rfl, ?_⟩
 have hB1 := bl_tr hBa hBb hBa.size
 have hk1 := hka.below hBb hka.lt
 refine dT rfl ?_
 refine call (f := 130) rfl rfl cb130 (integer_calls (qpre s) (by omega) wb) ?_
 rintro v w0 ⟨⟨bi, rfl, hbi⟩, hB0'⟩
 refine ⟨_, rfl, ?_⟩
 have hB0 := bl_tr hB1 hB0' hB1.size
 have hk0 := hk1.below hB0' hk1.lt
 have hbw : b < w0.heap.size := hk0.lt
 rw [qneg_iok] at hbi
 simp only [(ineg_q s).1, (ineg_q s).2]
 by_cases hlt : (qpre s).length < s.length
 ·obtain ⟨hqd, hsl⟩ := qd_slash hlt
  have hqdl : (qd s).length ≤ s.length := by rw [← hqd]; simp
  simp only [hsl, if_true]
  cases bi with
  | false =>
   have hno : ¬ QIs s := fun h => by have := hbi.2 ⟨h.1, h.2.1⟩; cases this
   refine dT rfl ?_
   refine dT rfl ?_
   refine st U rfl rfl rfl rfl rfl rfl rfl rfl rfl rfl (hk0) ?_
   intro w9 hkW hgW hsW
   refine dT rfl ?_
   refine retS Tryz.results96 (vs := [_, _]) ⟨⟨_, rfl, run_load_agg ag_frac hkW rfl⟩, rfl, trivial⟩ ⟨_, rfl, .inl ⟨3, by decide, (.inl ⟨hno, rfl⟩), rfl⟩, hB0.grown hgW hB0.size (fun k e => by cases e; omega)⟩
  | true =>
   have hn1 := hbi.1 rfl
   refine dT rfl ?_
   refine cS rfl rfl rfl rfl (fun hq1 => ?_) (fun hq1 => ?_)
   ·refine dT rfl ?_
    refine call (f := 131) rfl rfl cb131 (form_calls (qd s) (by omega) w0) ?_
    rintro v w1 ⟨⟨bd, rfl, hbd⟩, hBf⟩
    refine ⟨_, rfl, ?_⟩
    have hB0 := bl_tr hB0 hBf hB0.size
    have hk0 := hk0.below hBf hk0.lt
    have hbw : b < w1.heap.size := hk0.lt
    cases bd with
    | false =>
     have hno : ¬ QIs s := fun h => by have := hbd.2 (h.2.2 hsl).2.1; cases this
     refine dT rfl ?_
     refine st U rfl rfl rfl rfl rfl rfl rfl rfl rfl rfl (hk0) ?_
     intro w9 hkW hgW hsW
     refine dT rfl ?_
     refine retS Tryz.results96 (vs := [_, _]) ⟨⟨_, rfl, run_load_agg ag_frac hkW rfl⟩, rfl, trivial⟩ ⟨_, rfl, .inl ⟨3, by decide, (.inl ⟨hno, rfl⟩), rfl⟩, hB0.grown hgW hB0.size (fun k e => by cases e; omega)⟩
    | true =>
     have hfd := hbd.1 rfl
     refine dT rfl ?_
     refine cS rfl rfl rfl rfl (fun hq2 => ?_) (fun hq2 => ?_)
     ·refine dT rfl ?_
      refine cS rfl rfl rfl rfl (fun hq3 => ?_) (fun hq3 => ?_)
      ·have hQ : QIs s := ⟨hn1.1, hn1.2, fun _ => ⟨hq1, hfd, hq2, hq3⟩⟩
       have hd0 := qd_pos hQ
       have hlq := hqdl
       refine dT rfl ?_
       refine cS rfl rfl rfl rfl (fun hq => ?_) (fun hq => ?_)
       ·refine dT rfl ?_
        refine st U rfl rfl rfl rfl rfl rfl rfl rfl rfl rfl (hk0) ?_
        intro w9 hkW hgW hsW
        refine dT rfl ?_
        refine retS Tryz.results96 (vs := [_, _]) ⟨⟨_, rfl, run_load_agg ag_frac hkW rfl⟩, rfl, trivial⟩ ⟨_, rfl, .inl ⟨5, by decide, (.inr (.inl ⟨hQ, .inl (by omega), rfl⟩)), rfl⟩, hB0.grown hgW hB0.size (fun k e => by cases e; omega)⟩
       ·refine dT rfl ?_
        refine cS rfl rfl rfl rfl (fun hq => ?_) (fun hq => ?_)
        ·refine dT rfl ?_
         refine st U rfl rfl rfl rfl rfl rfl rfl rfl rfl rfl (hk0) ?_
         intro w9 hkW hgW hsW
         refine dT rfl ?_
         refine retS Tryz.results96 (vs := [_, _]) ⟨⟨_, rfl, run_load_agg ag_frac hkW rfl⟩, rfl, trivial⟩ ⟨_, rfl, .inl ⟨5, by decide, (.inr (.inl ⟨hQ, .inr (by omega), rfl⟩)), rfl⟩, hB0.grown hgW hB0.size (fun k e => by cases e; omega)⟩
        ·have hnl : (qn s).length ≤ 4000 := by omega
         have hdl : (qd s).length ≤ 4000 := by omega
         have hfd : Form (qd s) := hfd
         have hlx := form_len ⟨hQ.1, hnl⟩
         have hly := form_len ⟨hfd, hdl⟩
         refine dT rfl ?_
         refine call (f := 132) rfl rfl cb132 (parse_calls (qn s) hQ.1.2.2 (by omega) w1) ?_
         rintro v w3 ⟨a3, c3, rfl, ho3, hB3'⟩
         refine ⟨_, rfl, ?_⟩
         have hB3 := bl_tr hB0 hB3' hB0.size
         have hk3 := hk0.below hB3' hk0.lt
         refine dT rfl ?_
         refine call (f := 132) rfl rfl cb132 (parse_calls (qd s) hfd.2.2 (by omega) w3) ?_
         rintro v w4 ⟨a4, c4, rfl, ho4, hB4'⟩
         refine ⟨_, rfl, ?_⟩
         have hB4 := bl_tr hB3 hB4' hB3.size
         have hk4 := hk3.below hB4' hk3.lt
         have hr3 := (own_rd ho3).below hB4'
         have hr4 := own_rd ho4
         refine dT rfl ?_
         refine al U rfl rfl rfl rfl ?_
         intro bq w5 hbq hs5 hkq hg5
         have hB5' : Below w4.heap.size w4 w5 := (Below.refl _ _).grown hg5 (Nat.le_refl _) (fun k e => by cases e)
         have hB5 := bl_tr hB4 hB5' hB4.size
         have hk5 := hk4.below hB5' hk4.lt
         have hr3 := hr3.below hB5'
         have hr4 := hr4.below hB5'
         refine dT rfl ?_
         refine st U rfl rfl rfl rfl rfl rfl rfl rfl rfl rfl (hkq) ?_
         intro w6 hkq6 hg6 hs6
         have hB6 := hB5.grown hg6 hB5.size (fun k e => by cases e; have := hB4.size; omega)
         have hk6 := hk5.keep hg6 (by intro e; cases e; have := hk4.lt; omega)
         have hr3 := hr3.past hkq ni0 hg6
         have hr4 := hr4.past hkq ni0 hg6
         refine dT rfl ?_
         refine ld U rfl rfl rfl rfl ((hkq6).cell rfl) ?_
         refine dT rfl ?_
         refine ld U rfl rfl rfl rfl ((hkq6).cell rfl) ?_
         refine dT rfl ?_
         refine call (f := 127) rfl rfl cb127 (gcd_calls _ _ a3 a4 c3 c4 w6 hr3 hr4 (by omega) (by omega)) ?_
         rintro v w7 ⟨⟨ag, cg, rfl, hg⟩, hB7'⟩
         refine ⟨_, rfl, ?_⟩
         have hB7 := bl_tr hB6 hB7' hB6.size
         refine call (f := 99) rfl rfl cb99 (one_calls _ ag cg w7 hg) ?_
         rintro v w8 ⟨rfl, rfl⟩
         refine ⟨_, rfl, ?_⟩
         have hk7 := hk6.below hB7' hk6.lt
         have hkq7 := hkq6.below hB7' hkq6.lt
         have hr3 := hr3.below hB7'
         have hr4 := hr4.below hB7'
         by_cases hgcd : Nat.gcd (dval (qn s)) (dval (qd s)) = 1
         ·rw [decide_eq_true hgcd]
          refine dT rfl ?_
          refine lg rfl ag_frac rfl rfl hkq7 rfl ?_
          refine dT rfl ?_
          refine st U rfl rfl rfl rfl rfl rfl rfl rfl rfl rfl (hk7) ?_
          intro w10 hkW hgW hsW
          refine dT rfl ?_
          refine retS Tryz.results96 (vs := [_, _]) ⟨⟨_, rfl, run_load_agg ag_frac hkW rfl⟩, rfl, trivial⟩ ⟨_, rfl, .inr ⟨.inr (.inr (.inr ⟨hQ, hnl, hdl, hgcd, rfl⟩)), _, rfl, ?_⟩, hB7.grown hgW hB7.size (fun k e => by cases e; omega)⟩
          have hz : (qneg s && decide (dval (qn s) ≠ 0)) = qneg s := by
           cases hns : qneg s with
           | false => rfl
           | true =>
            have : dval (qn s) ≠ 0 := fun h => hQ.2.1 ⟨hns, (dval_zero_iff hQ.1).2 h⟩
            simp [this]
          refine fv_fq hd0 ?_
          rw [hgcd, Nat.div_one, Nat.div_one, hz]
          exact ⟨a3, c3, a4, c4, rfl, hr3.past hk7 ni0 hgW, hr4.past hk7 ni0 hgW⟩
         ·rw [decide_eq_false hgcd]
          refine dT rfl ?_
          refine st U rfl rfl rfl rfl rfl rfl rfl rfl rfl rfl (hk7) ?_
          intro w10 hkW hgW hsW
          refine dT rfl ?_
          refine retS Tryz.results96 (vs := [_, _]) ⟨⟨_, rfl, run_load_agg ag_frac hkW rfl⟩, rfl, trivial⟩ ⟨_, rfl, .inl ⟨3, by decide, (.inr (.inr (.inl ⟨hQ, hnl, hdl, hgcd, rfl⟩))), rfl⟩, hB7.grown hgW hB7.size (fun k e => by cases e; omega)⟩
      ·have hno : ¬ QIs s := fun h => hq3 (h.2.2 hsl).2.2.2
       refine dT rfl ?_
       refine st U rfl rfl rfl rfl rfl rfl rfl rfl rfl rfl (hk0) ?_
       intro w9 hkW hgW hsW
       refine dT rfl ?_
       refine retS Tryz.results96 (vs := [_, _]) ⟨⟨_, rfl, run_load_agg ag_frac hkW rfl⟩, rfl, trivial⟩ ⟨_, rfl, .inl ⟨3, by decide, (.inl ⟨hno, rfl⟩), rfl⟩, hB0.grown hgW hB0.size (fun k e => by cases e; omega)⟩
     ·have hno : ¬ QIs s := fun h => hq2 (h.2.2 hsl).2.2.1
      refine dT rfl ?_
      refine st U rfl rfl rfl rfl rfl rfl rfl rfl rfl rfl (hk0) ?_
      intro w9 hkW hgW hsW
      refine dT rfl ?_
      refine retS Tryz.results96 (vs := [_, _]) ⟨⟨_, rfl, run_load_agg ag_frac hkW rfl⟩, rfl, trivial⟩ ⟨_, rfl, .inl ⟨3, by decide, (.inl ⟨hno, rfl⟩), rfl⟩, hB0.grown hgW hB0.size (fun k e => by cases e; omega)⟩
   ·have hno : ¬ QIs s := fun h => hq1 (h.2.2 hsl).1
    refine dT rfl ?_
    refine st U rfl rfl rfl rfl rfl rfl rfl rfl rfl rfl (hk0) ?_
    intro w9 hkW hgW hsW
    refine dT rfl ?_
    refine retS Tryz.results96 (vs := [_, _]) ⟨⟨_, rfl, run_load_agg ag_frac hkW rfl⟩, rfl, trivial⟩ ⟨_, rfl, .inl ⟨3, by decide, (.inl ⟨hno, rfl⟩), rfl⟩, hB0.grown hgW hB0.size (fun k e => by cases e; omega)⟩
 ·obtain ⟨hqd, hsl⟩ := qd_plain hlt
  have hqdl : (qd s).length ≤ 1 := by rw [← hqd]; simp
  simp only [hsl]
  cases bi with
  | false =>
   have hno : ¬ QIs s := fun h => by have := hbi.2 ⟨h.1, h.2.1⟩; cases this
   refine dT rfl ?_
   refine dT rfl ?_
   refine st U rfl rfl rfl rfl rfl rfl rfl rfl rfl rfl (hk0) ?_
   intro w9 hkW hgW hsW
   refine dT rfl ?_
   refine retS Tryz.results96 (vs := [_, _]) ⟨⟨_, rfl, run_load_agg ag_frac hkW rfl⟩, rfl, trivial⟩ ⟨_, rfl, .inl ⟨3, by decide, (.inl ⟨hno, rfl⟩), rfl⟩, hB0.grown hgW hB0.size (fun k e => by cases e; omega)⟩
  | true =>
   have hn1 := hbi.1 rfl
   have hQ : QIs s := ⟨hn1.1, hn1.2, fun h => by rw [hsl] at h; cases h⟩
   have hd0 := qd_pos hQ
   have hf1 := qd_form hQ
   refine dT rfl ?_
   rw [show (⟨#[49]⟩ : ByteArray) = ⟨⟨qd s⟩⟩ from by rw [← hqd]]
   have hlq := hqdl
   refine dT rfl ?_
   refine cS rfl rfl rfl rfl (fun hq => ?_) (fun hq => ?_)
   ·refine dT rfl ?_
    refine st U rfl rfl rfl rfl rfl rfl rfl rfl rfl rfl (hk0) ?_
    intro w9 hkW hgW hsW
    refine dT rfl ?_
    refine retS Tryz.results96 (vs := [_, _]) ⟨⟨_, rfl, run_load_agg ag_frac hkW rfl⟩, rfl, trivial⟩ ⟨_, rfl, .inl ⟨5, by decide, (.inr (.inl ⟨hQ, .inl (by omega), rfl⟩)), rfl⟩, hB0.grown hgW hB0.size (fun k e => by cases e; omega)⟩
   ·refine dT rfl ?_
    refine cS rfl rfl rfl rfl (fun hq => ?_) (fun hq => ?_)
    ·refine dT rfl ?_
     refine st U rfl rfl rfl rfl rfl rfl rfl rfl rfl rfl (hk0) ?_
     intro w9 hkW hgW hsW
     refine dT rfl ?_
     refine retS Tryz.results96 (vs := [_, _]) ⟨⟨_, rfl, run_load_agg ag_frac hkW rfl⟩, rfl, trivial⟩ ⟨_, rfl, .inl ⟨5, by decide, (.inr (.inl ⟨hQ, .inr (by omega), rfl⟩)), rfl⟩, hB0.grown hgW hB0.size (fun k e => by cases e; omega)⟩
    ·have hnl : (qn s).length ≤ 4000 := by omega
     have hdl : (qd s).length ≤ 4000 := by omega
     have hfd : Form (qd s) := hf1
     have hlx := form_len ⟨hQ.1, hnl⟩
     have hly := form_len ⟨hfd, hdl⟩
     refine dT rfl ?_
     refine call (f := 132) rfl rfl cb132 (parse_calls (qn s) hQ.1.2.2 (by omega) w0) ?_
     rintro v w3 ⟨a3, c3, rfl, ho3, hB3'⟩
     refine ⟨_, rfl, ?_⟩
     have hB3 := bl_tr hB0 hB3' hB0.size
     have hk3 := hk0.below hB3' hk0.lt
     refine dT rfl ?_
     refine call (f := 132) rfl rfl cb132 (parse_calls (qd s) hfd.2.2 (by omega) w3) ?_
     rintro v w4 ⟨a4, c4, rfl, ho4, hB4'⟩
     refine ⟨_, rfl, ?_⟩
     have hB4 := bl_tr hB3 hB4' hB3.size
     have hk4 := hk3.below hB4' hk3.lt
     have hr3 := (own_rd ho3).below hB4'
     have hr4 := own_rd ho4
     refine dT rfl ?_
     refine al U rfl rfl rfl rfl ?_
     intro bq w5 hbq hs5 hkq hg5
     have hB5' : Below w4.heap.size w4 w5 := (Below.refl _ _).grown hg5 (Nat.le_refl _) (fun k e => by cases e)
     have hB5 := bl_tr hB4 hB5' hB4.size
     have hk5 := hk4.below hB5' hk4.lt
     have hr3 := hr3.below hB5'
     have hr4 := hr4.below hB5'
     refine dT rfl ?_
     refine st U rfl rfl rfl rfl rfl rfl rfl rfl rfl rfl (hkq) ?_
     intro w6 hkq6 hg6 hs6
     have hB6 := hB5.grown hg6 hB5.size (fun k e => by cases e; have := hB4.size; omega)
     have hk6 := hk5.keep hg6 (by intro e; cases e; have := hk4.lt; omega)
     have hr3 := hr3.past hkq ni0 hg6
     have hr4 := hr4.past hkq ni0 hg6
     have hgcd : Nat.gcd (dval (qn s)) (dval (qd s)) = 1 := by rw [← hqd]; exact Nat.gcd_one_right _
     refine dT rfl ?_
     refine lg rfl ag_frac rfl rfl hkq6 rfl ?_
     refine dT rfl ?_
     refine st U rfl rfl rfl rfl rfl rfl rfl rfl rfl rfl (hk6) ?_
     intro w10 hkW hgW hsW
     refine dT rfl ?_
     refine retS Tryz.results96 (vs := [_, _]) ⟨⟨_, rfl, run_load_agg ag_frac hkW rfl⟩, rfl, trivial⟩ ⟨_, rfl, .inr ⟨.inr (.inr (.inr ⟨hQ, hnl, hdl, hgcd, rfl⟩)), _, rfl, ?_⟩, hB6.grown hgW hB6.size (fun k e => by cases e; omega)⟩
     have hz : (qneg s && decide (dval (qn s) ≠ 0)) = qneg s := by
      cases hns : qneg s with
      | false => rfl
      | true =>
       have : dval (qn s) ≠ 0 := fun h => hQ.2.1 ⟨hns, (dval_zero_iff hQ.1).2 h⟩
       simp [this]
     refine fv_fq hd0 ?_
     rw [hgcd, Nat.div_one, Nat.div_one, hz]
     exact ⟨a3, c3, a4, c4, rfl, hr3.past hk6 ni0 hgW, hr4.past hk6 ni0 hgW⟩
end
section
open Go Go.Proofs Go.RowKit Go.Lib

def BldX (bt : Nat) (w : World) (base b : Nat) (bs : List UInt8) : Prop :=
 BldT bt w base b bs ∧ (bs = [] → ∃ p, (p = .pointer none ∨ p = .pointer (some ⟨b, 0, none⟩)) ∧ Bk w b bt [p, .slice none 0 0])
theorem BldX.new {bt : Nat} {w : World} {base b : Nat} (hb : base ≤ b) (hk : Bk w b bt [.pointer none, .slice none 0 0]) : BldX bt w base b [] :=
 ⟨⟨hb, _, _, _, _, .inl rfl, hk, ⟨rfl, .inl ⟨rfl, rfl⟩⟩, fun g e => by cases e⟩, fun _ => ⟨_, .inl rfl, hk⟩⟩
theorem BldX.of {bt : Nat} {w : World} {base b : Nat} {bs : List UInt8} (h : BldT bt w base b bs) (hne : bs ≠ []) : BldX bt w base b bs := ⟨h, fun e => absurd e hne⟩
theorem BldX.below {bt : Nat} {w w' : World} {base b : Nat} {bs : List UInt8} (h : BldX bt w base b bs) (hb : Below w.heap.size w w') : BldX bt w' base b bs := by
 obtain ⟨⟨h1, p, a, m, c, h2, h3, h4, h5⟩, hz⟩ := h
 refine ⟨⟨h1, p, a, m, c, h2, h3.below hb h3.lt, ?_, h5⟩, fun e => ?_⟩
 ·refine ⟨h4.1, ?_⟩
  rcases h4.2 with h | ⟨g, cap, cur, e1, e2, e3, e4⟩
  ·exact .inl h
  ·exact .inr ⟨g, cap, cur, e1, e2, by rw [hb.block g (Array.getElem?_eq_some_iff.1 e3).1]; exact e3, e4⟩
 ·obtain ⟨p, hp, hk⟩ := hz e
  exact ⟨p, hp, hk.below hb hk.lt⟩
end
section
set_option maxHeartbeats 1000000
open Go Go.Proofs Go.RowKit Go.Lib

theorem Sl.stay {w w' : World} {a : Option Addr} {vs : List Value} (h : Sl w a vs) (hb : Below w.heap.size w w') : Sl w' a vs := by
 by_cases he : vs = []
 ·subst he; exact Sl.nil _ _
 ·exact h.below hb (h.lt he)
def JoinR (ls : List (List UInt8)) (v : Value) : Prop :=
 ((∃ s ∈ ls, ¬ Bin s) ∧ v = .tuple ⟨[.string ⟨⟨[]⟩⟩, .int .i64 3]⟩) ∨ ((∀ s ∈ ls, Bin s) ∧ v = .tuple ⟨[.string ⟨⟨ls.flatten⟩⟩, .int .i64 0]⟩)
theorem JoinR.uniq {ls : List (List UInt8)} {v v' : Value} (h : JoinR ls v) (h' : JoinR ls v') : v = v' := by
 rcases h with ⟨⟨s, h1, h2⟩, rfl⟩ | ⟨h1, rfl⟩ <;> rcases h' with ⟨⟨t, h3, h4⟩, rfl⟩ | ⟨h3, rfl⟩
 ·rfl
 ·exact absurd (h3 s h1) h2
 ·exact absurd (h1 t h3) h4
 ·rfl

def fbit (bs : List UInt8) (i : Nat) : Bool := decide ((bs.getD (i / 8) 0).toNat / 2 ^ (7 - i % 8) % 2 = 1)
def fbits (bs : List UInt8) (n : Nat) : List UInt8 := (List.range n).map fun i => bitc (fbit bs i)
def FbR (bs : List UInt8) (n : Int) (v : Value) : Prop :=
 ((n < 0 ∨ 256 < n) ∧ v = .tuple ⟨[.string ⟨⟨[]⟩⟩, .int .i64 2]⟩) ∨
 (0 ≤ n ∧ n ≤ 256 ∧ 8 * (bs.length : Int) < n ∧ v = .tuple ⟨[.string ⟨⟨[]⟩⟩, .int .i64 16]⟩) ∨
 (0 ≤ n ∧ n ≤ 256 ∧ n ≤ 8 * (bs.length : Int) ∧ v = .tuple ⟨[.string ⟨⟨fbits bs n.toNat⟩⟩, .int .i64 0]⟩)
theorem FbR.uniq {bs : List UInt8} {n : Int} {v v' : Value} (h : FbR bs n v) (h' : FbR bs n v') : v = v' := by
 rcases h with ⟨h1, rfl⟩ | ⟨h1, h2, h3, rfl⟩ | ⟨h1, h2, h3, rfl⟩ <;> rcases h' with ⟨g1, rfl⟩ | ⟨g1, g2, g3, rfl⟩ | ⟨g1, g2, g3, rfl⟩ <;> first | rfl | (exfalso; omega)

section
variable {P : Program} {ro : Option Nat} {n : Nat} {ds : List Deferred} {Q : PT} {l l' : Fr} {w w' : World} {arr : Array Oper} {r : List Oper} {k : List It}
end
end
section
set_option maxHeartbeats 1000000
open Go Go.Proofs Go.RowKit Go.Lib

def el (cs : List Value) (i : Nat) : List Value := (cs.drop (i * 3)).take 3
theorem el_get {cs : List Value} {i j : Nat} {v : Value} (h : (el cs i)[j]? = some v) : cs[i * 3 + j]? = some v := by
 unfold el at h
 rw [List.getElem?_take] at h
 split at h
 ·rwa [List.getElem?_drop] at h
 ·cases h
theorem el_length {cs : List Value} {i : Nat} (h : i * 3 + 3 ≤ cs.length) : (el cs i).length = 3 := by
 unfold el; rw [List.length_take, List.length_drop]; omega
theorem el_app {cs t : List Value} {i : Nat} (h : i * 3 + 3 ≤ cs.length) : el (cs ++ t) i = el cs i := by
 unfold el
 rw [List.drop_append_of_le_length (by omega), List.take_append_of_le_length (by rw [List.length_drop]; omega)]
theorem el_last {cs t : List Value} {i : Nat} (h : cs.length = i * 3) (ht : t.length = 3) : el (cs ++ t) i = t := by
 unfold el
 rw [← h, List.drop_left, List.take_of_length_le (by omega)]
theorem Rd.push {w w' : World} {a : Option Addr} {c : Nat} {xs : List Nat} {row : Option Nat} (h : Rd w a c xs) {t : Nat} (hg : w.grownBy w' row) (hr : ∀ g, row = some g → Tg w t g) (ht : Nat.beq 79 t = false := by rfl) : Rd w' a c xs := by
 have hne : ∀ g, ab a = some g → row ≠ some g := fun g hga e => (h.2.2 g hga).ne (hr g e) ht rfl
 exact ⟨h.1.keep hg hne, h.2.1, fun g hga => (h.2.2 g hga).grown hg (hne g hga)⟩
theorem FQ.push {w w' : World} {v : Value} {r : Rat} {row : Option Nat} (h : FQ w v r) {t : Nat} (hg : w.grownBy w' row) (hr : ∀ g, row = some g → Tg w t g) (ht : Nat.beq 79 t = false := by rfl) : FQ w' v r := by
 obtain ⟨an, cn, ad, cd, rfl, h1, h2⟩ := h
 exact ⟨an, cn, ad, cd, rfl, h1.push hg hr ht, h2.push hg hr ht⟩
theorem FQ.shape {w : World} {v : Value} {r : Rat} (h : FQ w v r) : ∃ m a1 n1 c1 a2 n2 c2, v = .agg ⟨[.bool m, .slice a1 n1 c1, .slice a2 n2 c2]⟩ := by
 obtain ⟨an, cn, ad, cd, rfl, h1, h2⟩ := h
 exact ⟨_, _, _, _, _, _, _, rfl⟩
def Els (w : World) (cs : List Value) (n : Nat) (f : Nat → Rat) : Prop := cs.length = n * 3 ∧ ∀ i, i < n → FQ w (.agg ⟨el cs i⟩) (f i)
theorem Els.stay {w w' : World} {cs : List Value} {n : Nat} {f : Nat → Rat} (h : Els w cs n f) (hb : Below w.heap.size w w') : Els w' cs n f := ⟨h.1, fun i hi => (h.2 i hi).stay hb⟩
theorem Els.push {w w' : World} {cs : List Value} {n : Nat} {f : Nat → Rat} {row : Option Nat} (h : Els w cs n f) {t : Nat} (hg : w.grownBy w' row) (hr : ∀ g, row = some g → Tg w t g) (ht : Nat.beq 79 t = false := by rfl) : Els w' cs n f := ⟨h.1, fun i hi => (h.2 i hi).push hg hr ht⟩
theorem Els.snoc {w : World} {cs t : List Value} {n : Nat} {f : Nat → Rat} (h : Els w cs n f) (ht : FQ w (.agg ⟨t⟩) (f n)) : Els w (cs ++ t) (n + 1) f := by
 obtain ⟨m, a1, n1, c1, a2, n2, c2, e⟩ := ht.shape
 have hl : t.length = 3 := by simp only [Value.agg.injEq, Array.mk.injEq] at e; rw [e]; rfl
 refine ⟨by rw [List.length_append, h.1, hl]; omega, fun i hi => ?_⟩
 by_cases hn : i < n
 ·rw [el_app (by rw [h.1]; omega)]; exact h.2 i hn
 ·obtain rfl : i = n := by omega
  rw [el_last h.1 hl]; exact ht
theorem Els.nil (w : World) (f : Nat → Rat) : Els w [] 0 f := ⟨rfl, fun i hi => absurd hi (by omega)⟩
def VecF (w : World) (a : Option Addr) (n : Nat) (f : Nat → Rat) : Prop := ∃ cs, Els w cs n f ∧ Sl w a cs ∧ ∀ g, ab a = some g → Tg w 76 g
theorem VecF.stay {w w' : World} {a : Option Addr} {n : Nat} {f : Nat → Rat} (h : VecF w a n f) (hb : Below w.heap.size w w') : VecF w' a n f := by
 obtain ⟨cs, h1, h2, h3⟩ := h
 exact ⟨cs, h1.stay hb, h2.below hb (fun g hg => (h3 g hg).lt), fun g hg => (h3 g hg).below hb⟩
theorem own_sl3 {w : World} {base e : Nat} {a : Option Addr} {m c : Nat} {cs : List Value} (h : w.ownsRow base e 3 (.slice a m c) m cs) : Sl w a cs := by
 intro j v hv
 rcases h.2 with ⟨h1, h2⟩ | ⟨g, cap, cur, h1, _, hg, _⟩
 ·have h3 := h.1
  rw [h2, Nat.zero_mul] at h3
  rw [List.eq_nil_of_length_eq_zero h3] at hv; simp at hv
 ·simp at h1; obtain ⟨rfl, rfl⟩ := h1
  have := h.cells (g := g) rfl j v hv
  rw [add_plain] at this
  exact ⟨g, 0, rfl, this⟩
theorem own_cap3 {w : World} {base e s : Nat} {a : Option Addr} {m c : Nat} {cs : List Value} (h : w.ownsRow base e s (.slice a m c) m cs) : m ≤ c := by
 rcases h.2 with ⟨h1, h2⟩ | ⟨g, cap, cur, h1, _, _, h4, _⟩
 ·omega
 ·simp at h1; omega
theorem own_vec {w : World} {base : Nat} {a : Option Addr} {m c : Nat} {cs : List Value} {f : Nat → Rat} (h : w.ownsRow base 76 3 (.slice a m c) m cs) (he : Els w cs m f) : VecF w a m f :=
 ⟨cs, he, own_sl3 h, own_tag h⟩

def VErr (xs : List (List UInt8)) (e : Int) : Prop :=
 (xs.length = 0 ∧ e = 3) ∨ (64 < xs.length ∧ e = 4) ∨
 (0 < xs.length ∧ xs.length ≤ 64 ∧ ∃ i, i < xs.length ∧ (∀ j, j < i → QErr (xs.getD j []) 0) ∧ QErr (xs.getD i []) e ∧ e ≠ 0) ∨
 (0 < xs.length ∧ xs.length ≤ 64 ∧ (∀ j, j < xs.length → QErr (xs.getD j []) 0) ∧ e = 0)
theorem VErr.uniq {xs : List (List UInt8)} {e f : Int} (h : VErr xs e) (h' : VErr xs f) : e = f := by
 rcases h with ⟨h1, rfl⟩ | ⟨h1, rfl⟩ | ⟨h1, h2, i, h3, h4, h5, h6⟩ | ⟨h1, h2, h3, rfl⟩ <;>
  rcases h' with ⟨g1, rfl⟩ | ⟨g1, rfl⟩ | ⟨g1, g2, j, g3, g4, g5, g6⟩ | ⟨g1, g2, g3, rfl⟩ <;> first
  | rfl
  | (exfalso; omega)
  | (rcases Nat.lt_trichotomy i j with h | rfl | h
     · exact absurd (h5.uniq (g4 i h)) h6
     · exact h5.uniq g5
     · exact absurd (g5.uniq (h4 j h)) g6)
  | exact absurd (h5.uniq (g3 i h3)) h6
  | exact absurd (g5.uniq (h3 j g3)) g6
theorem VErr.ok {xs : List (List UInt8)} (h : VErr xs 0) : 0 < xs.length ∧ xs.length ≤ 64 ∧ ∀ j, j < xs.length → QErr (xs.getD j []) 0 := by
 rcases h with ⟨_, h⟩ | ⟨_, h⟩ | ⟨_, _, i, _, _, _, h⟩ | ⟨h1, h2, h3, _⟩
 ·cases h
 ·cases h
 ·exact absurd rfl h
 ·exact ⟨h1, h2, h3⟩
def VecR (B : Nat) (xs : List (List UInt8)) (v : Value) (w : World) : Prop :=
 (∃ e, e ≠ 0 ∧ VErr xs e ∧ v = .tuple ⟨[.slice none 0 0, .int .i64 e]⟩) ∨ (VErr xs 0 ∧ ∃ a c cs, v = .tuple ⟨[.slice a xs.length c, .int .i64 0]⟩ ∧ w.ownsRow B 76 3 (.slice a xs.length c) xs.length cs ∧ Els w cs xs.length (fun i => qval (xs.getD i [])))

theorem lvector_calls (xs : List (List UInt8)) (a : Option Addr) (c : Nat) (w : World) (hs : Sl w a (strs xs)) (hl : xs.length ≤ 1099511627776) (hx : ∀ j, j < xs.length → (xs.getD j []).length ≤ 1099511627776) :
  Calls Tryz.prog 83 #[.slice a xs.length c] w (Ret fun v w' => VecR w.heap.size xs v w' ∧ Below w.heap.size w w') := by
 refine enter Tryz.func83 rfl Tryz.ntmps83 (Nat.le_of_ble_eq_true rfl) ?_
 refine dT rfl ?_
 refine cS rfl rfl rfl rfl (fun hq => ?_) (fun hq => ?_)
 ·refine dT rfl ?_
  exact ret Tryz.results83 rfl ⟨_, rfl, .inl ⟨3, by decide, .inl ⟨by omega, rfl⟩, rfl⟩, Below.refl _ _⟩
 have h0 : 0 < xs.length := by omega
 refine dT rfl ?_
 refine cS rfl rfl rfl rfl (fun hq2 => ?_) (fun hq2 => ?_)
 ·refine dT rfl ?_
  exact ret Tryz.results83 rfl ⟨_, rfl, .inl ⟨4, by decide, .inr (.inl ⟨by omega, rfl⟩), rfl⟩, Below.refl _ _⟩
 have h64 : xs.length ≤ 64 := by omega
 refine dT rfl ?_
 refine loopR (fun fr w' m => ∃ (i : Nat) (a2 : Option Addr) (c2 : Nat) (cs : List Value), fr = [(4, .slice a2 i c2), (17, .slice a xs.length c), (18, .int .i64 (xs.length : Nat)), (19, .int .i64 (i : Nat))] ∧ i ≤ xs.length ∧
   w'.ownsRow w.heap.size 76 3 (.slice a2 i c2) i cs ∧ Els w' cs i (fun i => qval (xs.getD i [])) ∧ (∀ j, j < i → QErr (xs.getD j []) 0) ∧ Below w.heap.size w w' ∧ m = xs.length - i)
  ⟨0, none, 0, [], rfl, by omega, ⟨rfl, .inl ⟨rfl, rfl⟩⟩, Els.nil _ _, fun j hj => absurd hj (by omega), Below.refl _ _, rfl⟩ ⟨rfl, rfl, rfl, rfl, trivial⟩ ?_
 rintro fr w1 m ⟨i, a2, c2, cs, rfl, hi, ho, hE, hok, hB, rfl⟩
 refine dT rfl ?_
 refine cS rfl rfl rfl rfl (fun hq => ?_) (fun hq => ?_)
 ·have hil : i < xs.length := by omega
  refine dT rfl ?_
  refine il U rfl rfl rfl rfl rfl rfl rfl (fun _ => rfl) rfl i rfl hil (hs.stay hB) (getS hil) ?_
  refine dT rfl ?_
  refine call (f := 96) rfl rfl cb96 (frparse_calls (xs.getD i []) (hx i hil) w1) ?_
  rintro v w2 ⟨hr, hB2⟩
  obtain ⟨m, b1, n1, c1, b2, n2, cc2, e, rfl, hqe, hfq⟩ := hr.cases
  refine ⟨_, rfl, ?_⟩
  have hB2' := bl_tr hB hB2 hB.size
  have ho2 := own_bw ho hB2
  have hE2 := hE.stay hB2
  have hbz := hB2'.size
  refine dT rfl ?_
  refine al U rfl rfl rfl rfl ?_
  intro b7 w3 hb7 hs3 hk7 hg3
  have hB3 := hB2'.grown hg3 hB2'.size (fun k e => by cases e)
  have ho3 := own_keep ho2 hg3 (by intro g e h; cases h)
  have hb7a : ∀ g, ab a2 = some g → g < b7 := fun g e => by have := (own_block ho2 g e).2; omega
  refine dT rfl ?_
  refine st U rfl rfl rfl rfl rfl rfl rfl rfl rfl rfl (hk7) ?_
  intro w4 hk7 hg4 hs4
  have hB4 := hB3.grown hg4 hB3.size (fun k e => by cases e; omega)
  have ho4 := own_keep ho3 hg4 (by intro g e h; cases h; have := hb7a _ e; omega)
  have hB24 : Below w2.heap.size w2 w4 := ((Below.refl _ _).grown hg3 (Nat.le_refl _) (fun k e => by cases e)).grown hg4 (by omega) (fun k e => by cases e; omega)
  have hE4 := hE2.stay hB24
  refine dT rfl ?_
  refine cS rfl rfl rfl rfl (fun hq3 => ?_) (fun hq3 => ?_)
  ·refine dT rfl ?_
   exact ret Tryz.results83 rfl ⟨_, rfl, .inl ⟨e, hq3, .inr (.inr (.inl ⟨h0, h64, i, hil, hok, hqe, hq3⟩)), rfl⟩, hB4⟩
  ·obtain rfl := Classical.not_not.1 hq3
   have hf4 := (hfq rfl).stay hB24
   refine dT rfl ?_
   refine lg rfl ag_frac rfl rfl hk7 rfl ?_
   refine aps U rfl rfl rfl rfl rfl rfl rfl rfl (fun _ => rfl) rfl (fun _ => rfl) rfl rfl rfl ho4 hB4.size (by omega) rfl ?_
   intro a5 c5 w5 ho5 hg5
   have hB5 := hB4.grown hg5 hB4.size (fun g e => (own_block ho4 g e).1)
   have hE5 := (hE4.push hg5 (fun g e => own_tag ho4 g e)).snoc (hf4.push hg5 (fun g e => own_tag ho4 g e))
   refine dS rfl ?_
   refine rend _ _ ⟨i + 1, a5, c5, _, rfl, by omega, ho5, hE5, fun j hj => ?_, hB5, rfl⟩ (by omega) ⟨rfl, rfl, rfl, iv (by omega), trivial⟩
   rcases Nat.lt_succ_iff_lt_or_eq.1 hj with h | rfl
   ·exact hok j h
   ·exact hqe
 ·obtain rfl : i = xs.length := by omega
  refine dT rfl ?_
  refine ret Tryz.results83 rfl ⟨_, rfl, .inr ⟨.inr (.inr (.inr ⟨h0, h64, hok, rfl⟩)), a2, c2, cs, rfl, ho, hE⟩, hB⟩
end
end Go.Proofs.YtejlpdbiacmfcaaGreatDoor
