/-
  Walk of package limbs: DivMod.
  Conditions: fewer than 2^36 limbs; the divisor is not 0.
  Walk of strconv.FormatUint at base 10 for numbers below the base of limbs: it returns the decimal digits, and leaves all older memory alone.
  Conditions: the number is below 1000000000; the library's table of powers of ten lies as its initialiser laid it.
  What the rows of this seat share: the listed table of powers of ten is laid, and a law that returns true and leaves older memory alone meets its row.
  No conditions: each theorem names its own premises.
-/
import Derived.Test.YtejlpdbiacmfcaaGreatDoorYShelf
import Derived.Test.YtejlpdbiacmfcaaGreatDoorYLmF
import Derived.Test.YtejlpdbiacmfcaaGreatDoorTie
import Derived.Test.YtejlpdbiacmfcaaGreatDoorCards
import Derived.ProofKit
import Derived.OpenShut
import Derived.LaidMore
import Derived.Lay
import Derived.SevenTiedAt
import Derived.Stop.Joined
import Derived.Lib.LaidTab
import Derived.Carry
set_option linter.unusedSimpArgs false
set_option linter.unusedVariables false
namespace Go.Proofs.YtejlpdbiacmfcaaGreatDoor
section
set_option maxHeartbeats 1000000
open Go Go.Proofs Go.RowKit

def Red (w : World) (v : Value) (zs : List Nat) : Prop := ∃ a c, v = .slice a zs.length c ∧ Rd w a c zs
theorem Own.red {w w' : World} {v : Value} {zs : List Nat} (h : Own w w' v zs) : Red w' v zs := by
 obtain ⟨a, c, rfl, ho, _⟩ := h
 exact ⟨a, c, rfl, own_rd ho⟩
theorem Red.below {w w' : World} {v : Value} {zs : List Nat} (h : Red w v zs) (hb : Below w.heap.size w w') : Red w' v zs := by
 obtain ⟨a, c, rfl, hr⟩ := h
 exact ⟨a, c, rfl, hr.below hb⟩
theorem Rd.nil (w : World) : Rd w none 0 [] := ⟨Sl.nil _ _, Nat.le_refl _, fun g h => by cases h⟩
theorem Bk.below {w w' : World} {B b t : Nat} {cs : List Value} (h : Bk w b t cs) (hb : Below B w w') (hlt : b < B) : Bk w' b t cs := by
 unfold Bk at *; rw [hb.block b hlt]; exact h
theorem bl_tr {B B' : Nat} {w w1 w2 : World} (h : Below B w w1) (h' : Below B' w1 w2) (hle : B ≤ B') : Below B w w2 :=
 h.trans (h'.mono hle)

theorem cmpN_neg {p q : Nat} : cmpN p q < 0 ↔ p < q := by
 unfold cmpN
 split
 ·omega
 ·split <;> omega

theorem divmod_calls (p q : Nat) (hq0 : 0 < q) (a b : Option Addr) (c d : Nat) (w : World) (ha : Rd w a c (lim p)) (hb : Rd w b d (lim q)) (hpl : (lim p).length ≤ 68719476736) (hql : (lim q).length ≤ 68719476736) :
  Calls Tryz.prog 128 #[.slice a (lim p).length c, .slice b (lim q).length d] w (Ret fun v w' => ∃ v1 v2, v = .tuple ⟨[v1, v2]⟩ ∧ Red w' v1 (lim (p / q)) ∧ Red w' v2 (lim (p % q)) ∧ Below w.heap.size w w') := by
 refine enterM Tryz.func128 rfl Tryz.ntmps128 (Nat.le_of_ble_eq_true rfl) ?_
 refine dT rfl ?_
 refine call (f := 92) rfl rfl cb92 (cmp_calls p q a b c d w ha hb (by omega) (by omega)) ?_
 rintro v w1 ⟨rfl, hB1⟩
 refine ⟨_, rfl, ?_⟩
 have ha1 := ha.below hB1
 have hb1 := hb.below hB1
 refine dT rfl ?_
 refine cS rfl rfl rfl rfl (fun hq => ?_) (fun hq => ?_)
 ·have hlt := cmpN_neg.1 hq
  refine dT rfl ?_
  refine retM0 U Tryz.results128 (vs := [_, _]) ⟨rfl, rfl, trivial⟩ ⟨_, rfl, _, _, rfl, ?_, ?_, hB1⟩
  ·rw [Nat.div_eq_of_lt hlt, lim_zero]; exact ⟨none, 0, rfl, Rd.nil _⟩
  ·rw [Nat.mod_eq_of_lt hlt]; exact ⟨a, c, rfl, ha1⟩
 ·have hqp : q ≤ p := by
   rcases Nat.lt_or_ge p q with h | h
   ·exact absurd (cmpN_neg.2 h) hq
   ·exact h
  have hqn : lim q ≠ [] := fun e => by rw [lim_eq_nil] at e; omega
  have hqlen := List.length_pos_iff.2 hqn
  clear hq
  refine dT rfl ?_
  refine cS rfl rfl rfl rfl (fun hq => ?_) (fun hq => ?_)
  ·have hl1 : (lim q).length = 1 := by omega
   have hqB : q < 1000000000 := by have := lim_len_lt q; rw [hl1] at this; exact this
   have hq1 := lim_small (by omega) hqB
   refine dS rfl ?_
   refine il U rfl rfl rfl rfl rfl rfl rfl (fun _ => rfl) rfl 0 (by omega) (by omega) hb1.1 (show _ = some (u64 q) by rw [hq1]; rfl) ?_
   refine dT rfl ?_
   refine call (f := 158) rfl rfl cb158 (small_calls p q hq0 hqB a c w1 ha1 (by omega)) ?_
   rintro v w2 ⟨v1, rfl, hown⟩
   have hr := hown.red
   obtain ⟨_, _, _, _, hB2⟩ := hown
   refine ⟨_, rfl, ?_⟩
   refine dT rfl ?_
   refine call (f := 52) rfl rfl cb52 (of_calls (p % q) (by have := Nat.mod_lt p hq0; omega) w2) ?_
   rintro v w3 hown3
   have hr3 := hown3.red
   obtain ⟨_, _, _, _, hB3⟩ := hown3
   refine ⟨_, rfl, ?_⟩
   refine dT rfl ?_
   exact retM0 U Tryz.results128 (vs := [_, _]) ⟨rfl, rfl, trivial⟩ ⟨_, rfl, _, _, rfl, hr.below hB3, hr3, bl_tr (bl_tr hB1 hB2 hB1.size) hB3 (by have := hB1.size; have := hB2.size; omega)⟩
  ·have hl2 : 2 ≤ (lim q).length := by omega
   have hbt := lim_top (n := q) (by omega)
   have hbl := (lim_Lm q).getD ((lim q).length - 1)
   have hsp := scale_pos hbl
   refine dS rfl ?_
   refine il U rfl rfl rfl rfl rfl rfl rfl (fun _ => rfl) rfl ((lim q).length - 1) (by omega) (by omega) hb1.1 (getU (by omega)) ?_
   generalize hbe : (lim q).getD ((lim q).length - 1) 0 = bt at *
   have hQ : (1000000000 : Int) / ((bt : Int) + 1) = ((1000000000 / (bt + 1) : Nat) : Int) := by
    rw [show ((bt : Int) + 1) = ((bt + 1 : Nat) : Int) by omega]; rfl
   have hslt := hsp.2 hbt
   have hspos := hsp.1
   generalize hse : 1000000000 / (bt + 1) = s at *
   refine dS rfl ?_
   refine bs1 U (v := u64 s) (iv hQ) rfl rfl rfl rfl rfl rfl ?_
   intro w2 hks hs2 hg2
   have hls : lim s = [s] := lim_small (by omega) hslt
   have hB2 := hB1.grown hg2 hB1.size (fun k e => by cases e)
   have hrs : Rd w2 (some ⟨w1.heap.size, 0, none⟩) 1 (lim s) := by
    rw [hls]
    exact ⟨by have := hks.sl 0; simpa [u64] using this, by simp, fun g hg => by simp [ab] at hg; subst hg; exact hks.tg⟩
   refine dT rfl ?_
   have hm1 := mul_calls p s a (some ⟨w1.heap.size, 0, none⟩) c 1 w2 (ha.below hB2) hrs (by omega) (by rw [hls]; simp)
   rw [show (lim s).length = 1 by rw [hls]; rfl] at hm1
   refine call (f := 91) rfl rfl cb91 hm1 ?_
   rintro v w3 ⟨au0, cu0, rfl, hou, hB3⟩
   refine ⟨_, rfl, ?_⟩
   have hLl := lim_len_mul p s
   rw [show (lim s).length = 1 by rw [hls]; rfl] at hLl
   refine ap U (v := (u64 0)) rfl rfl rfl rfl rfl rfl (fun _ => rfl) rfl (fun _ => rfl) rfl rfl rfl hou hB3.size (by omega) (by decide) ?_
   intro au cu w4 hou4 hg4
   have hB3' := bl_tr hB2 hB3 hB2.size
   have hB4 := hB3'.grown hg4 hB3'.size (fun k e => by have := (own_block hou k e).1; have := hB2.size; omega)
   have hks3 := hks.below hB3 (by omega)
   have hks4 := hks3.keep hg4 (fun e => by have := (own_block hou _ e).1; omega)
   have hrs4 : Rd w4 (some ⟨w1.heap.size, 0, none⟩) 1 (lim s) := by
    rw [hls]
    exact ⟨by have := hks4.sl 0; simpa [u64] using this, by simp, fun g hg => by simp [ab] at hg; subst hg; exact hks4.tg⟩
   refine dT rfl ?_
   have hm2 := mul_calls q s b (some ⟨w1.heap.size, 0, none⟩) d 1 w4 (hb.below hB4) hrs4 (by omega) (by rw [hls]; simp)
   rw [show (lim s).length = 1 by rw [hls]; rfl] at hm2
   refine call (f := 91) rfl rfl cb91 hm2 ?_
   rintro v w5 ⟨av, cv, rfl, hov, hB5⟩
   refine ⟨_, rfl, ?_⟩
   have hB5' := bl_tr hB4 hB5 hB4.size
   have hks5 := hks4.below hB5 (by have := hks4.lt; omega)
   have hLv := lim_len_mul q s
   rw [show (lim s).length = 1 by rw [hls]; rfl] at hLv
   -- the numbers
   have hps : q * s ≤ p * s := Nat.mul_le_mul_right _ hqp
   have hnL := lim_len_mono hps
   have hqs : q ≤ q * s := Nat.le_mul_of_pos_right _ hspos
   have hn2 := lim_len_mono hqs
   have hLp : (lim p).length ≤ (lim (p * s)).length := lim_len_mono (Nat.le_mul_of_pos_right _ hspos)
   have hvt := lim_top (n := q * s) (by omega)
   have hvm := lim_Lm (q * s)
   have hvv := val_lim (q * s)
   have hvb := lim_len_lt (q * s)
   have hvb2 := fun k => @lim_len_ge (q * s) k
   have hum0 : Lm (lim (p * s) ++ [0]) := (lim_Lm (p * s)).snoc (by omega)
   have huv0 : val (lim (p * s) ++ [0]) = p * s := by rw [val_snoc, val_lim]; omega
   have hul0 : (lim (p * s) ++ [0]).length = (lim (p * s)).length + 1 := by simp
   have hou4' : w4.ownsRow w2.heap.size 79 1 (.slice au ((lim (p * s)).length + 1) cu) ((lim (p * s)).length + 1) ((lim (p * s) ++ [0]).map u64) := by simpa using hou4
   have hu0top : ∀ k, (lim (q * s)).length = k + 1 → k + 1 ≤ (lim (p * s)).length → val ((lim (p * s) ++ [0]).drop ((lim (p * s)).length - k)) < pw k := fun k h1 h2 => by
    rw [List.drop_append_of_le_length (by omega), val_snoc]
    have := val_lt ((lim_Lm (p * s)).drop ((lim (p * s)).length - k))
    simp only [List.length_drop] at this
    rw [show (lim (p * s)).length - ((lim (p * s)).length - k) = k by omega] at this
    omega
   generalize hn : (lim (q * s)).length = n at *
   generalize hLL : (lim (p * s)).length = L0 at *
   generalize hvse : lim (q * s) = vs at *
   generalize hu0e : lim (p * s) ++ [0] = u0 at *
   obtain ⟨m, rfl⟩ : ∃ m, n = m + 2 := ⟨n - 2, by omega⟩
   obtain ⟨gu, cur, rfl, hgub, hgk, hcur, hcl, hcle⟩ := own_bk hou4' (by omega)
   have hgu4 := hgk.lt
   have hgk5 := hgk.below hB5 hgu4
   have hSv := own_sl hov
   have hvlo := own_block hov
   refine al U rfl rfl rfl rfl ?_
   intro b9 w6 hb9 hs6 hk9 hg6
   refine al U rfl rfl rfl rfl ?_
   intro b10 w7 hb10 hs7 hk10 hg7
   have hk9 := hk9.keep hg7 (by simp)
   refine st U rfl rfl rfl rfl rfl rfl rfl rfl rfl rfl (hk9) ?_
   intro w8 hk9 hg8 hs8
   have hk10 := hk10.keep hg8 (by simp; omega)
   refine st U rfl rfl rfl rfl rfl rfl rfl rfl rfl rfl (hk10) ?_
   intro w9 hk10 hg9 hs9
   have hk9 := hk9.keep hg9 (by simp; omega)
   have hB4s := hB4.size
   have hB5s := hB5.size
   have hB9 : Below w5.heap.size w5 w9 := ((((Below.refl _ w5).grown hg6 (Nat.le_refl _) (fun k e => by cases e)).grown hg7 (by omega) (fun k e => by cases e)).grown hg8 (by omega) (fun k e => by cases e; omega)).grown hg9 (by omega) (fun k e => by cases e; omega)
   have hgk9 := hgk5.below hB9 (by omega)
   have hks9 := hks5.below hB9 hks5.lt
   have hSv9 := hSv.below hB9 (fun g hg => (hvlo g hg).2)
   have hB9' := bl_tr hB5' hB9 hB5'.size
   have hcurl : cur = u0.map u64 ++ cur.drop (L0 + 1) := by rw [← hcur, List.take_append_drop]
   generalize htl : cur.drop (L0 + 1) = tl at *
   subst hcurl
   refine dT rfl ?_
   refine loopR (fun l w' mu => l = [(0, .slice a (lim p).length c), (8, .slice (some ⟨w1.heap.size, 0, none⟩) 1 1), (9, .pointer (some ⟨b9, 0, none⟩)), (10, .pointer (some ⟨b10, 0, none⟩))] ∧ w9 = w') (m0 := 0) ⟨rfl, rfl⟩ ⟨rfl, rfl, rfl, rfl, trivial⟩ ?_
   rintro l w' mu ⟨rfl, rfl⟩
   refine dT rfl ?_
   refine ld U rfl rfl rfl rfl ((hk9).cell rfl) ?_
   refine dT rfl ?_
   refine cF rfl rfl rfl (by omega) ?_
   refine dT rfl ?_
   refine ld U rfl rfl rfl rfl ((hk10).cell rfl) ?_
   refine dT rfl ?_
   refine al U rfl rfl rfl rfl ?_
   intro b11 w10 hb11 hs10 hk11 hg10
   refine st U rfl rfl rfl rfl rfl rfl rfl rfl rfl rfl (hk11) ?_
   intro w11 hk11 hg11 hs11
   have hk9 := (hk9.keep hg10 (by simp)).keep hg11 (by simp; omega)
   have hk10 := (hk10.keep hg10 (by simp)).keep hg11 (by simp; omega)
   refine dT rfl ?_
   refine ld U rfl rfl rfl rfl ((hk9).cell rfl) ?_
   refine dT rfl ?_
   refine ld U rfl rfl rfl rfl ((hk11).cell rfl) ?_
   refine dS rfl ?_
   refine mkn U rfl rfl rfl rfl rfl rfl rfl (L0 + 1 - (m + 2)) (by omega) (by omega) (by omega) (by omega) w11.heap.size (Nat.le_refl _) ?_
   intro aq w12 hoq hg12
   rw [rep_u64] at hoq
   have hs12 := hg12.size
   have hqb := own_block hoq
   refine al U rfl rfl rfl rfl ?_
   intro b12 w13 hb12 hs13 hk12 hg13
   have hoq := own_keep hoq hg13 (by simp)
   refine st U rfl rfl rfl rfl rfl rfl rfl rfl rfl rfl (hk12) ?_
   intro w14 hk12 hg14 hs14
   have hoq := own_keep hoq hg14 (fun g hg => by have := hqb g hg; simp; omega)
   have hk9 := ((hk9.keep hg12 (by simp)).keep hg13 (by simp)).keep hg14 (by simp; omega)
   have hk10 := ((hk10.keep hg12 (by simp)).keep hg13 (by simp)).keep hg14 (by simp; omega)
   have hk11 := ((hk11.keep hg12 (by simp)).keep hg13 (by simp)).keep hg14 (by simp; omega)
   have hB14 : Below w9.heap.size w9 w14 := ((((Below.refl _ w9).grown hg10 (Nat.le_refl _) (fun k e => by cases e)).grown hg11 (by omega) (fun k e => by cases e; omega)).grown hg12 (by omega) (fun k e => by cases e)).grown hg13 (by omega) (fun k e => by cases e) |>.grown hg14 (by omega) (fun k e => by cases e; omega)
   have hB9s := hB9.size
   have hgk14 := hgk9.below hB14 (by omega)
   have hks14 := hks9.below hB14 (by have := hks5.lt; omega)
   have hSv14 := hSv9.below hB14 (fun g hg => by have := (hvlo g hg).2; omega)
   have hB14' := bl_tr hB9' hB14 hB9'.size
   refine dT rfl ?_
   refine ld U rfl rfl rfl rfl ((hk12).cell rfl) ?_
   refine dT rfl ?_
   refine call (f := 123) rfl rfl cb123 (back_calls _ _ _ w14) ?_
   rintro v w15 ⟨rfl, hs15, hk15, hg15⟩
   refine ⟨_, rfl, ?_⟩
   refine dT rfl ?_
   have hoq := own_keep hoq hg15 (by simp)
   have hk9 := hk9.keep hg15 (by simp)
   have hk10 := hk10.keep hg15 (by simp)
   have hk11 := hk11.keep hg15 (by simp)
   have hk12 := hk12.keep hg15 (by simp)
   have hgk15 := hgk14.keep hg15 (by simp)
   have hks15 := hks14.keep hg15 (by simp)
   have hSv15 := hSv14.keep hg15 (by simp)
   have hB15 := hB14'.grown hg15 hB14'.size (fun k e => by cases e)
   have hvg : ∀ g, ab av = some g → g ≠ gu ∧ g < b9 := fun g hg => by have := hvlo g hg; omega
   have hV0 : 0 < q * s := by omega
   have hVn : q * s ≤ pw (m + 2) := Nat.le_of_lt hvb
   have hVlo : pw (m + 1) ≤ q * s := hvb2 (m + 1) rfl
   have hqvs : val vs = q * s := hvv
   clear hgk hgk5 hgk9 hgk14 hks hks3 hks4 hks5 hks9 hks14 hSv hSv9 hSv14 hou hou4 hou4' hm1 hm2 hrs hrs4 hov
   refine rng rfl cb156 rfl (back_seq aq (L0 + 1 - (m + 2)) (L0 + 1 - (m + 2)) w14.heap.size (fun _ _ => True) (fun w => Bk w w14.heap.size 74 [.slice aq (L0 + 1 - (m + 2)) (L0 + 1 - (m + 2))] ∧ ∃ vs, Sl w aq vs ∧ vs.length = L0 + 1 - (m + 2)) (by omega) (fun w h => by
     obtain ⟨h1, vs, h2, h3⟩ := h
     exact ⟨h1, vs, h2, h3, fun _ _ _ => trivial⟩))
    (fun k vs h => by obtain ⟨v, rfl, _⟩ := h; rfl)
    (fun j W => ∃ rs zs qd, j ≤ L0 + 1 - (m + 2) ∧ rs.length = m + 2 ∧ zs.length = j ∧ Lm rs ∧ val rs < q * s ∧ qd.length = j ∧ Lm qd ∧ val (u0.drop (L0 + 1 - (m + 2) - j)) = val qd * (q * s) + val rs ∧
     Bk W gu 79 ((u0.take (L0 + 1 - (m + 2) - j) ++ rs ++ zs).map u64 ++ tl) ∧ W.ownsRow w11.heap.size 79 1 (.slice aq (L0 + 1 - (m + 2)) (L0 + 1 - (m + 2))) (L0 + 1 - (m + 2)) ((List.replicate (L0 + 1 - (m + 2) - j) 0 ++ qd).map u64) ∧
     Bk W b9 74 [.slice (some ⟨gu, 0, none⟩) (L0 + 1) cu] ∧ Bk W b10 74 [.slice av (m + 2) cv] ∧ Bk W b11 3 [.int .i64 ((m + 2 : Nat) : Int)] ∧ Bk W b12 74 [.slice aq (L0 + 1 - (m + 2)) (L0 + 1 - (m + 2))] ∧
     Bk W w1.heap.size 79 [u64 s] ∧ Sl W av (vs.map u64) ∧ Below w.heap.size w W)
    (fun cd W => False)
    (fun j => OwnB.ex fun rs => OwnB.ex fun zs => OwnB.ex fun qd => (OwnB.pure _ _).and ((OwnB.pure _ _).and ((OwnB.pure _ _).and ((OwnB.pure _ _).and ((OwnB.pure _ _).and ((OwnB.pure _ _).and ((OwnB.pure _ _).and ((OwnB.pure _ _).and ((OwnB.bk _ _ _ _).and ((OwnB.own _ _ _ _ _ _ _ _).and
     ((OwnB.bk _ _ _ _).and ((OwnB.bk _ _ _ _).and ((OwnB.bk _ _ _ _).and ((OwnB.bk _ _ _ _).and ((OwnB.bk _ _ _ _).and ((OwnB.sl _ _ _).and (OwnB.below _ hB15.size (Nat.le_refl _))))))))))))))))))
    (fun cd => OwnB.pure _ _)
    ((OwnB.bk _ _ _ _).and (OwnB.ex fun vs => (OwnB.sl _ _ _).and (OwnB.pure _ _))) ⟨u0.drop (L0 + 1 - (m + 2)), [], [], by omega, ?_, rfl, hum0.drop _, ?_, rfl, Lm.nil, ?_, ?_, ?_, hk9, hk10, hk11, hk12, hks15, hSv15, hB15⟩ ⟨hk15, _, own_sl hoq, ?_⟩
    (fun vs => [(13, vs.headD undef), (9, .pointer (some ⟨b9, 0, none⟩)), (10, .pointer (some ⟨b10, 0, none⟩)), (11, .pointer (some ⟨b11, 0, none⟩)), (12, .pointer (some ⟨b12, 0, none⟩))]) ?_ ?_ ?_ (fun _ _ _ _ h => h.elim)
   ·simp [hul0]; omega
   ·have := hu0top (m + 1) rfl (by omega)
    rw [show L0 - (m + 1) = L0 + 1 - (m + 2) by omega] at this
    omega
   ·simp [val]
   ·simpa using hgk15
   ·simpa using hoq
   ·simp
   ·rintro L j vs W ⟨v, rfl, _⟩
    refine dT rfl ?_
    exact asg ⟨rfl, rfl, rfl, rfl, rfl, trivial⟩
   ·rintro L j args W hj ⟨v, rfl, _⟩ ⟨rs, zs, qd, hj2, hrl, hzl, hrm, hrv, hql, hqm, hrel, hgk, hoq, hk9, hk10, hk11, hk12, hks, hSv, hB⟩ ⟨hk15, _, _, _⟩ hsz
    have hi : L0 + 1 - (m + 2) - 1 - j < L0 + 1 - (m + 2) := by omega
    have hi2 : L0 + 1 - (m + 2) - 1 - j < u0.length := by omega
    have hji : L0 + 1 - (m + 2) - (j + 1) = L0 + 1 - (m + 2) - 1 - j := by omega
    rw [show L0 + 1 - (m + 2) - j = L0 + 1 - (m + 2) - 1 - j + 1 by omega] at hrel hgk hoq
    generalize hii : L0 + 1 - (m + 2) - 1 - j = i at *
    have hx1 := hum0.getD i
    have htk := take_snoc u0 i hi2
    have hstep := dm_step hi2 rfl hrel
    generalize hxe : u0.getD i 0 = x at *
    have hlt := dm_lt hx1 hrv
    have hqlt := Nat.div_lt_of_lt_mul hlt
    have hrlt := Nat.mod_lt (val (x :: rs)) hV0
    have hgk' : Bk W gu 79 ((u0.take i).map u64 ++ (x :: rs).map u64 ++ (zs.map u64 ++ tl)) := by
     rw [htk] at hgk; simpa using hgk
    have hpl : ((u0.take i).map u64).length = i := by simp; omega
    obtain ⟨gq, curq, rfl, hgqb, hgqk, _, _, _⟩ := own_bk hoq (by omega)
    have hgq12 := hqb gq rfl
    have hq9 := hk9.cell (off := 0) rfl
    have hq10 := hk10.cell (off := 0) rfl
    have hq11 := hk11.cell (off := 0) rfl
    have hq12 := hk12.cell (off := 0) rfl
    refine dT rfl ?_
    refine dwn 12 (fun w' => w'.cell? ⟨b12, 0, none⟩ = some (.slice (some ⟨gq, 0, none⟩) (L0 + 1 - (m + 2)) (L0 + 1 - (m + 2))) ∧ w'.cell? ⟨b9, 0, none⟩ = some (.slice (some ⟨gu, 0, none⟩) (L0 + 1) cu) ∧ w'.cell? ⟨b11, 0, none⟩ = some (.int .i64 ((m + 2 : Nat) : Int)) ∧ w'.cell? ⟨b10, 0, none⟩ = some (.slice av (m + 2) cv)) hmo ?_
    intro w16 hh hg16
    have hC : w16.cell? ⟨b12, 0, none⟩ = some (.slice (some ⟨gq, 0, none⟩) (L0 + 1 - (m + 2)) (L0 + 1 - (m + 2))) ∧ w16.cell? ⟨b9, 0, none⟩ = some (.slice (some ⟨gu, 0, none⟩) (L0 + 1) cu) ∧ w16.cell? ⟨b11, 0, none⟩ = some (.int .i64 ((m + 2 : Nat) : Int)) ∧ w16.cell? ⟨b10, 0, none⟩ = some (.slice av (m + 2) cv) :=
     ⟨cell_heap hh hq12, cell_heap hh hq9, cell_heap hh hq11, cell_heap hh hq10⟩
    refine dqS [0,1,2,3,4,5,6,7,8,9] [(0, .slice (some ⟨gq, 0, none⟩) (L0 + 1 - (m + 2)) (L0 + 1 - (m + 2))), (2, .slice (some ⟨gu, 0, none⟩) (L0 + 1) cu), (5, .int .i64 ((m + 2 : Nat) : Int)), (9, .slice av (m + 2) cv)] rfl rfl hC ?_
    refine d1 rfl rfl (fun _ => hC) ?_
    have hest := estimate_calls gu m (cu - i) cv av (x :: rs) vs ((u0.take i).map u64) (zs.map u64 ++ tl) w16 (heap_bk hh hgk') (heap_sl hh hSv) (fun e => (hvg gu e).1 rfl) (by simp [hrl]) hn (Lm.cons hx1 hrm) hvm (by simpa using hvt) (by rw [hqvs]; exact hlt) (by omega)
    rw [hpl] at hest
    have hcast : ∀ R, Calls Tryz.prog 159 #[.slice (some ⟨gu, i, none⟩) (m + 3) (cu - i), .slice av (m + 2) cv] w16 R → Calls Tryz.prog 159 #[.slice (sadd (some ⟨gu, 0, none⟩) cu ((i : Int)).toNat 1) (((i : Int) + ((m + 2 : Nat) : Int) + 1).toNat - ((i : Int)).toNat) (cu - ((i : Int)).toNat), .slice av (m + 2) cv] w16 R := fun R h => by
     rw [show sadd (some ⟨gu, 0, none⟩) cu ((i : Int)).toNat 1 = some ⟨gu, i, none⟩ from by
       unfold sadd; rw [if_neg (by omega)]; simp [add_plain],
      show ((i : Int) + ((m + 2 : Nat) : Int) + 1).toNat - ((i : Int)).toNat = m + 3 from by omega, show cu - ((i : Int)).toNat = cu - i from by omega]
     exact h
    refine call (f := 159) rfl rfl cb159 (hcast _ hest) ?_
    rintro v w17 ⟨rfl, us', hul', hum', huv', hgk17, hg17⟩
    rw [hqvs] at huv'
    refine ⟨_, rfl, d2 ?_⟩
    have hg16b := fun row => gb_none row hg16
    have keepW : ∀ {b t cs}, Bk W b t cs → b ≠ gu → Bk w17 b t cs := fun h hne => (heap_bk hh h).keep hg17 (by simpa using fun e => hne e.symm)
    have hk9n := keepW hk9 (by omega)
    have hk10n := keepW hk10 (by omega)
    have hk11n := keepW hk11 (by omega)
    have hk12n := keepW hk12 (by omega)
    have hksn := keepW hks (by omega)
    have hk15n := keepW hk15 (by omega)
    have hSvn := (heap_sl hh hSv).keep hg17 (fun g hg => by have := (hvg g hg).1; simpa using fun e => this e.symm)
    have hoq17 := own_keep (own_keep hoq hg16 (by simp)) hg17 (fun g hg => by simp [ab] at hg; simp; omega)
    refine dqS [11] [] rfl rfl ⟨hk12n.cell rfl, hk9n.cell rfl, hk11n.cell rfl, hk10n.cell rfl⟩ ?_
    refine d1 rfl rfl (fun _ => ⟨hk12n.cell rfl, hk9n.cell rfl, hk11n.cell rfl, hk10n.cell rfl⟩) ?_
    refine so U (v := (u64 (val (x :: rs) / val vs))) rfl rfl rfl rfl rfl rfl rfl i (by simp [add_plain]) hi hoq17 ?_
    intro w18 hoq18 hg18 hs18
    refine d2 ?_; refine dend rfl (fun h => by cases h) ?_
    refine dT rfl ?_
    obtain ⟨hlast, hlv⟩ := last0 hul' (by rw [huv']; exact hrlt) hVn
    have hKO : KeepsOthers W w18 := ko_grown (ko_grown (ko_grown (KeepsOthers.refl W) hg16 (fun k e => by cases e)) hg17 (fun k e => by cases e; exact ⟨_, _, _, heap_bk hh hgk'⟩)) hg18 (fun k e => by cases e; exact own_cells hoq17 _ rfl)
    have hz16 : w16.heap.size = W.heap.size := by rw [hh]
    have hz17 := hg17.size
    have hBs := hB.size
    have hB1s := hB1.size
    have hB18 := ((hB.grown hg16 hB.size (fun k e => by cases e)).grown hg17 (by omega) (fun k e => by cases e; omega)).grown hg18 (by omega) (fun k e => by cases e; omega)
    have keepQ : ∀ {b t cs}, Bk w17 b t cs → b ≠ gq → Bk w18 b t cs := fun h hne => h.keep hg18 (by simpa using fun e => hne e.symm)
    rw [set_u64, small_set, hqvs] at hoq18
    rw [hji]
    refine rnd ⟨hKO, ⟨us'.take (m + 2), 0 :: zs, val (x :: rs) / (q * s) :: qd, by omega, by simp [hul'], by simp [hzl], hum'.take _, by rw [hlv, huv']; exact hrlt, by simp [hql], Lm.cons hqlt hqm, by rw [hlv, huv']; exact hstep, ?_, hoq18,
     keepQ hk9n (by omega), keepQ hk10n (by omega), keepQ hk11n (by omega), keepQ hk12n (by omega), keepQ hksn (by omega), hSvn.keep hg18 (fun g hg => by have := (hvg g hg).2; simp; omega), hB18⟩, keepQ hk15n (by omega), _, own_sl hoq18, ?_⟩
    ·have h1 := keepQ hgk17 (by omega)
     rw [hlast] at h1
     simpa using h1
    ·have := own_len hoq18
     exact this
   ·rintro D W hD ⟨rs, zs, qd, hj2, hrl, hzl, hrm, hrv, hql, hqm, hrel, hgk, hoq, hk9, hk10, hk11, hk12, hks, hSv, hB⟩ hK
    rw [Nat.sub_self] at hrel hgk hoq
    simp only [List.replicate_zero, List.nil_append] at hoq
    rw [List.drop_zero] at hrel
    rw [huv0] at hrel
    have hdiv : p / q = val qd ∧ s * (p % q) = val rs := by
     have h1 : p * s / (q * s) = val qd := by
      rw [hrel, Nat.mul_comm (val qd), Nat.mul_add_div hV0, Nat.div_eq_of_lt hrv]; rfl
     have h2 : p * s % (q * s) = val rs := by
      rw [hrel, Nat.mul_comm (val qd), Nat.mul_add_mod, Nat.mod_eq_of_lt hrv]
     rw [Nat.mul_div_mul_right _ _ hspos] at h1
     rw [Nat.mul_mod_mul_right, Nat.mul_comm] at h2
     exact ⟨h1, h2⟩
    have hq9 := hk9.cell (off := 0) rfl
    have hq11 := hk11.cell (off := 0) rfl
    have hqs := hks.cell (off := 0) rfl
    have hgk' : Bk W gu 79 ([] ++ rs.map u64 ++ (zs.map u64 ++ tl)) := by simpa using hgk
    have hSr : Sl W (some ⟨gu, 0, none⟩) (rs.map u64) := by
     have := (bk_view hgk').take (m + 2)
     rwa [List.take_left' (by simpa using hrl)] at this
    refine dT rfl ?_
    refine dwn 12 (fun w' => w'.cell? ⟨b9, 0, none⟩ = some (.slice (some ⟨gu, 0, none⟩) (L0 + 1) cu) ∧ w'.cell? ⟨b11, 0, none⟩ = some (.int .i64 ((m + 2 : Nat) : Int)) ∧ w'.cell? ⟨w1.heap.size, 0, none⟩ = some (u64 s)) hmo ?_
    intro w16 hh hg16
    have hC : w16.cell? ⟨b9, 0, none⟩ = some (.slice (some ⟨gu, 0, none⟩) (L0 + 1) cu) ∧ w16.cell? ⟨b11, 0, none⟩ = some (.int .i64 ((m + 2 : Nat) : Int)) ∧ w16.cell? ⟨w1.heap.size, 0, none⟩ = some (u64 s) :=
     ⟨cell_heap hh hq9, cell_heap hh hq11, cell_heap hh hqs⟩
    refine dqS [0,1,2,4,5,6] [(0, .slice (some ⟨gu, 0, none⟩) (L0 + 1) cu), (1, .int .i64 ((m + 2 : Nat) : Int)), (6, u64 s)] rfl rfl hC ?_
    refine d1 rfl rfl (fun _ => hC) ?_
    have hRr : Rd w16 (some ⟨gu, 0, none⟩) cu rs := ⟨heap_sl hh hSr, by omega, fun g hg => by simp [ab] at hg; subst hg; exact hgk.tg.heap hh⟩
    have htrim := trim_calls rs (some ⟨gu, 0, none⟩) cu w16 hRr (by omega)
    rw [hrl, trimN_eq hrm, ← hdiv.2] at htrim
    refine call (f := 121) rfl rfl cb121 htrim ?_
    rintro v w17 ⟨rfl, rfl⟩
    refine ⟨_, rfl, d2 ?_⟩
    refine d1 rfl rfl (fun _ => hC) ?_
    have hpre : ∃ t, rs = lim (s * (p % q)) ++ t := by rw [hdiv.2, ← trimN_eq hrm]; exact trimN_prefix rs
    have hRt : Rd w16 (some ⟨gu, 0, none⟩) cu (lim (s * (p % q))) := by
     obtain ⟨t, ht⟩ := hpre
     refine ⟨?_, by have := congrArg List.length ht; simp at this; omega, hRr.2.2⟩
     have := hRr.1.take (lim (s * (p % q))).length
     rwa [ht, List.map_append, List.take_left' (by simp)] at this
    have hltl : (lim (s * (p % q))).length ≤ m + 2 := by
     obtain ⟨t, ht⟩ := hpre
     have := congrArg List.length ht; simp at this; omega
    refine call (f := 158) rfl rfl cb158 (small_calls (s * (p % q)) s hspos hslt (some ⟨gu, 0, none⟩) cu w16 hRt (by omega)) ?_
    rintro v w17 ⟨v1, rfl, hown⟩
    rw [Nat.mul_div_cancel_left _ hspos] at hown
    have hr17 := hown.red
    obtain ⟨_, _, _, _, hB17⟩ := hown
    refine ⟨_, rfl, d2 ?_⟩
    have hlt16 : ∀ {b t cs}, Bk W b t cs → b < w16.heap.size := fun h => by rw [hh]; exact h.lt
    have hk12n := (heap_bk hh hk12).below hB17 (hlt16 hk12)
    have hC17 : w17.cell? ⟨b9, 0, none⟩ = some (.slice (some ⟨gu, 0, none⟩) (L0 + 1) cu) ∧ w17.cell? ⟨b11, 0, none⟩ = some (.int .i64 ((m + 2 : Nat) : Int)) ∧ w17.cell? ⟨w1.heap.size, 0, none⟩ = some (u64 s) :=
     ⟨((heap_bk hh hk9).below hB17 (hlt16 hk9)).cell rfl, ((heap_bk hh hk11).below hB17 (hlt16 hk11)).cell rfl, ((heap_bk hh hks).below hB17 (hlt16 hks)).cell rfl⟩
    refine dqS [8,9,10,11] [] rfl rfl hC17 ?_
    refine d1 rfl rfl (fun _ => hC17) ?_
    refine dT rfl ?_
    refine d3 ?_; refine dend rfl (fun h => by cases h) ?_
    refine dT rfl ?_
    refine ld U rfl rfl rfl rfl ((hk12n).cell rfl) ?_
    refine dT rfl ?_
    have hoq16 := own_keep hoq hg16 (by simp)
    have hRq : Rd w17 aq (L0 + 1 - (m + 2)) qd := (own_rd hoq16).below hB17
    have htq := trim_calls qd aq (L0 + 1 - (m + 2)) w17 hRq (by omega)
    rw [hql, trimN_eq hqm, ← hdiv.1] at htq
    refine call (f := 121) rfl rfl cb121 htq ?_
    rintro v w18 ⟨rfl, rfl⟩
    refine ⟨_, rfl, ?_⟩
    refine dT rfl ?_
    have hK16 : w16.heap[D]? = some (.deferred (some [])) := by rw [hh]; exact hK
    have hK17 : w17.heap[D]? = some (.deferred (some [])) := by rw [hB17.block D (Array.getElem?_eq_some_iff.1 hK16).1]; exact hK16
    have hgp := grownBy_putObj' w17 D (.deferred none)
    have hB16 := hB.grown hg16 hB.size (fun k e => by cases e)
    have hB18 := (bl_tr hB16 hB17 hB16.size).grown hgp (bl_tr hB16 hB17 hB16.size).size (fun k e => by cases e; have := hB15.size; omega)
    have hRdP : ∀ {a c zs}, Rd w17 a c zs → Rd (w17.putObj D (.deferred none)) a c zs := fun h => ⟨(OwnB.sl 0 _ _) w17 _ (some D) h.1 hgp (fun r e => by cases e; exact ⟨Nat.zero_le _, _, hK17, rfl⟩), h.2.1, fun g hg => (h.2.2 g hg).grown hgp (by intro e; cases e; obtain ⟨c, z, h⟩ := h.2.2 _ hg; rw [hK17] at h; cases h)⟩
    refine retM1 U Tryz.results128 (vs := [_, _]) hK17 ⟨rfl, rfl, trivial⟩ ⟨_, rfl, _, _, rfl, ?_, ?_, hB18⟩
    ·have hpq : ∃ t, qd = lim (p / q) ++ t := by rw [hdiv.1, ← trimN_eq hqm]; exact trimN_prefix qd
     obtain ⟨t, ht⟩ := hpq
     refine ⟨_, _, rfl, hRdP ⟨?_, by have := congrArg List.length ht; simp at this; omega, hRq.2.2⟩⟩
     have := hRq.1.take (lim (p / q)).length
     rwa [ht, List.map_append, List.take_left' (by simp)] at this
    ·obtain ⟨a2, c2, rfl, hr2⟩ := hr17
     exact ⟨_, _, rfl, hRdP hr2⟩
end
section
open Go Go.Proofs Go.RowKit Go.Sort

def TabOk (w : World) : Prop := ∃ t x, w.heap[0]? = some (.cells (Lib.pow10Tab.map fun z => Value.int .u64 z).toArray t x)

theorem TabOk.below {w w' : World} (h : TabOk w) (hb : Below w.heap.size w w') : TabOk w' := by
 obtain ⟨t, x, h⟩ := h
 exact ⟨t, x, by rw [hb.block _ (Array.getElem?_eq_some_iff.1 h).1]; exact h⟩
theorem TabOk.new {w w' : World} (h : TabOk w) (hg : w.grownBy w' none) : TabOk w' := by
 obtain ⟨t, x, h⟩ := h
 exact ⟨t, x, by rw [hg.block _ (Array.getElem?_eq_some_iff.1 h).1 (by simp)]; exact h⟩
theorem TabOk.tab {w : World} (h : TabOk w) {nm : String} (hn : Tryz.prog.globalNamed nm = some 0) : Lib.TabIs Tryz.prog w nm .u64 Lib.pow10Tab := by
 obtain ⟨t, x, h⟩ := h
 unfold Lib.TabIs World.var?
 rw [hn]
 simp [h]

theorem smallstr_calls (u : Nat) (hu : u < 100) (w : World) : Calls Tryz.prog 173 #[.int .i64 u] w (Ret fun v w' => v = .string ⟨⟨Lib.decDigits u⟩⟩ ∧ w = w') :=
 (Tryz.internal_strconv_small u hu w).mono (by rintro e w' ⟨rfl, rfl⟩; exact ⟨_, rfl, rfl, rfl⟩)

theorem numDigits_calls (u : Nat) (h1 : 1 ≤ u) (h2 : u < 18446744073709551616) (w : World) (h : TabOk w) : Calls Tryz.prog 174 #[u64 u] w (Ret fun v w' => v = .int .i64 (Lib.nDigits u) ∧ w = w') :=
 (Tryz.internal_strconv_numDigits u h1 h2 w (h.tab (by kernel_rfl))).mono (by rintro e w' ⟨rfl, rfl⟩; exact ⟨_, rfl, rfl, rfl⟩)

theorem putRow_grown (enc : UInt8 → Value) (w : World) (b off : Nat) (d : Array UInt8) : w.grownBy (putRow enc w b off d) (some b) :=
 ⟨rfl, rfl, rfl, by simp [putRow, mapBlock], fun k hk hne => by
  simp only [putRow, mapBlock, Array.getElem?_modify]
  rw [if_neg (by intro e; exact hne (by rw [e]))]⟩

section
variable {P : Program} (U : Tys P) {ro : Option Nat} {n : Nat} {ds : List Deferred} {Q : PT} {l l' : Fr} {w w' : World} {arr : Array Oper} {r : List Oper} {k : List It}
theorem slA {d : Nat} {t e ty : TypeId} {x y : Operand} {ps : String} {af : Array Edge} {g : Option (Nat × Bool)} {b m s : Nat} {h : Int}
  (hx : ev l x = some (.pointer (some ⟨b, 0, none⟩))) (hy : ev l y = some (.int .i64 h)) (ht : U.tb.u t = some (.array m e)) (hs : U.tb.sz e = some s) (hm : 0 < m) (h0 : 0 ≤ h) (h1 : h ≤ m) (hg : gd arr l g = some true) (hd : Nat.blt d n = true)
  (t' : T P ro n ds Q ((d, .slice (some ⟨b, 0, none⟩) h.toNat m) :: l) w (.ops arr r) k) : T P ro n ds Q l w (.ops arr (⟨some d, .slice t x none (some y) none, ty, ps, af, g⟩ :: r)) k := by
 have hu := U.hu _ _ ht
 obtain ⟨i, hi, hz⟩ := U.hs _ _ hs
 have h2 : P.arrayLen t = m := by simp [Program.arrayLen, hu]
 have h3 : P.elem t = e := by simp [Program.elem, hu]
 refine op1 (w' := w) (v := .slice (some ⟨b, 0, none⟩) h.toNat m) (by intro c h; cases h) hg (put1_some hd) (fun a hf => ?_) t'
 have := run_sliceAt_array_h (P := P) w t ⟨b, 0, none⟩ (by rw [h2, h3]; exact hu) .i64 h h0 (by rw [h2]; exact h1)
 rw [h2, h3] at this
 have h4 : (Go.sizeOf e).run P w = .ok s w := by simp [sizeOf, typeInfo, program, Sem.run, hi, hz]
 rw [h4] at this
 simp only [Result.andThen, slicedAt] at this
 rw [if_neg (by omega)] at this
 simp [execOp, hf.ev hx, hf.ev hy, this, add_plain]
theorem bstr {d : Nat} {t t2 e ty : TypeId} {x : Operand} {ps : String} {af : Array Edge} {g : Option (Nat × Bool)} {b c : Nat} {bs : List UInt8} {m : Nat}
  (hx : ev l x = some (.slice (some ⟨b, 0, none⟩) m c)) (ht : U.tb.u t = some (.slice e)) (he : U.tb.u e = some (.int .u8)) (h2 : U.tb.u t2 = some .string) (hg : gd arr l g = some true) (hd : Nat.blt d n = true)
  (hm : bs.length = m) (hc : ∀ j (hj : j < bs.length), w.cell? ⟨b, j, none⟩ = some (.int .u8 (bs[j].toNat : Int)))
  (t' : T P ro n ds Q ((d, .string ⟨⟨bs⟩⟩) :: l) w (.ops arr r) k) : T P ro n ds Q l w (.ops arr (⟨some d, .convert t t2 x, ty, ps, af, g⟩ :: r)) k := by
 subst hm
 have := run_convert_bytes_back (P := P) w t t2 e ⟨b, 0, none⟩ c bs (U.hu _ _ ht) (U.hu _ _ he) (U.hu _ _ h2) (fun j hj => by rw [add_plain, Nat.zero_add]; exact hc j hj)
 exact op1 (w' := w) (by intro c h; cases h) hg (put1_some hd) (fun a hf => by simp [execOp, hf.ev hx, this]) t'
end

theorem fmtI_calls (u : Nat) (hu : u < 1000000000) (w : World) (ht : TabOk w) : Calls Tryz.prog 164 #[u64 u, .int .i64 10] w (Ret fun v w' => v = .string ⟨⟨Lib.decDigits u⟩⟩ ∧ Below w.heap.size w w') := by
 refine enter Tryz.func164 rfl Tryz.ntmps164 (Nat.le_of_ble_eq_true rfl) ?_
 refine dT rfl ?_
 refine cT rfl rfl rfl rfl ?_
 refine dT rfl ?_
 refine cS rfl rfl rfl rfl (fun hq => ?_) (fun hq => ?_)
 ·refine dS rfl ?_
  refine call (f := 173) rfl rfl cb173 (smallstr_calls u (by omega) w) ?_
  rintro v w1 ⟨rfl, rfl⟩
  refine ⟨_, rfl, ?_⟩
  refine dT rfl ?_
  exact ret Tryz.results164 rfl ⟨_, rfl, rfl, Below.refl _ _⟩
 ·refine dT rfl ?_
  refine al U rfl rfl rfl rfl ?_
  intro b w1 hb hs1 hk1 hg1
  refine dT rfl ?_
  have hnd : Lib.nDigits u ≤ 20 := by have := Lib.numDigits_eq u (by omega) (by omega); split at this <;> omega
  refine call (f := 174) rfl rfl cb174 (numDigits_calls u (by omega) (by omega) w1 (ht.new hg1)) ?_
  rintro v w2 ⟨rfl, rfl⟩
  refine ⟨_, rfl, ?_⟩
  refine dT rfl ?_
  refine slA U (h := Lib.nDigits u) rfl rfl rfl rfl (by decide) (by omega) (by omega) rfl rfl ?_
  refine dT rfl ?_
  have hH : Holds (fun (b : UInt8) => Value.int .u8 (b.toNat : Int)) w1 b 0 (Array.replicate (Lib.nDigits u) 0) := fun j hj => by
   have hj' : j < Lib.nDigits u := by simpa using hj
   have hcell : w1.cell? ⟨b, 0 + j, none⟩ = some (.int .u8 0) := by
    refine hk1.cell ?_
    have : ∀ i, i < 24 → [Value.int .u8 0, .int .u8 0, .int .u8 0, .int .u8 0, .int .u8 0, .int .u8 0, .int .u8 0, .int .u8 0, .int .u8 0, .int .u8 0, .int .u8 0, .int .u8 0, .int .u8 0, .int .u8 0, .int .u8 0, .int .u8 0, .int .u8 0, .int .u8 0, .int .u8 0, .int .u8 0, .int .u8 0, .int .u8 0, .int .u8 0, .int .u8 0][i]? = some (Value.int .u8 0) := by
     intro i hi
     rw [show [Value.int .u8 0, .int .u8 0, .int .u8 0, .int .u8 0, .int .u8 0, .int .u8 0, .int .u8 0, .int .u8 0, .int .u8 0, .int .u8 0, .int .u8 0, .int .u8 0, .int .u8 0, .int .u8 0, .int .u8 0, .int .u8 0, .int .u8 0, .int .u8 0, .int .u8 0, .int .u8 0, .int .u8 0, .int .u8 0, .int .u8 0, .int .u8 0] = List.replicate 24 (Value.int .u8 0) from rfl, List.getElem?_replicate, if_pos hi]
    exact this _ (by omega)
   refine ⟨by rw [hcell, getElem!_pos _ j hj]; simp, ?_⟩
   simp [World.frozen?, show w1.heap[b]? = _ from hk1]
  have hf := Tryz.internal_strconv_formatBase10 b 0 24 u (Array.replicate (Lib.nDigits u) 0) w1 hH (by rw [Array.size_replicate]; exact Lib.lt_pow_nDigits u) (by omega) (by rw [Array.size_replicate]; omega)
  rw [Array.size_replicate] at hf
  refine call (f := 175) rfl rfl cb175 (Post := fun v w2 => v = .tuple #[] ∧ ∃ (k : Nat) (dk : Array UInt8), dk.size = Lib.nDigits u ∧ (∀ j (hj : j < (Lib.decDigits u).length), (Lib.decDigits u)[j] = dk[j]!) ∧ w2 = (putRow (fun (b : UInt8) => Value.int .u8 (b.toNat : Int)) w1 b 0 dk).drewN k)
   (hf.mono (by rintro e w2 ⟨rfl, k, v', dk, rfl, hF⟩; exact ⟨_, rfl, rfl, k, dk, hF.size, fun j hj => Lib.row_is_numeral hF j hj, rfl⟩)) ?_
  rintro v w2 ⟨rfl, k, dk, hdk, hnum, rfl⟩
  refine ⟨_, rfl, ?_⟩
  refine dT rfl ?_
  refine slA U (h := Lib.nDigits u) rfl rfl rfl rfl (by decide) (by omega) (by omega) rfl rfl ?_
  refine bstr U (bs := Lib.decDigits u) rfl rfl rfl rfl rfl rfl (by rw [Lib.decDigits_length]; omega) (fun j hj => ?_) ?_
  ·rw [hnum j hj, World.cell?_drewN]
   have := cell?_putRow (fun (b : UInt8) => Value.int .u8 (b.toNat : Int)) w1 b 0 _ dk hH (by rw [hdk, Array.size_replicate]) j (by rw [hdk]; rw [Lib.decDigits_length] at hj; exact hj)
   rwa [Nat.zero_add] at this
  refine dT rfl ?_
  refine ret Tryz.results164 rfl ⟨_, rfl, rfl, ?_⟩
  have h1 := (Below.refl w.heap.size w).grown hg1 (Nat.le_refl _) (fun k e => by cases e)
  have h2 := h1.grown (putRow_grown (fun (b : UInt8) => Value.int .u8 (b.toNat : Int)) w1 b 0 dk) h1.size (fun k e => by cases e; omega)
  exact ⟨h2.os, h2.tape, h2.output, h2.size, h2.block⟩

theorem fmt_calls (u : Nat) (hu : u < 1000000000) (w : World) (ht : TabOk w) : Calls Tryz.prog 133 #[u64 u, .int .i64 10] w (Ret fun v w' => v = .string ⟨⟨Lib.decDigits u⟩⟩ ∧ Below w.heap.size w w') := by
 refine enter Tryz.func133 rfl Tryz.ntmps133 (Nat.le_of_ble_eq_true rfl) ?_
 refine dT rfl ?_
 refine call (f := 164) rfl rfl cb164 (fmtI_calls u hu w ht) ?_
 rintro v w1 ⟨rfl, hB⟩
 refine ⟨_, rfl, ?_⟩
 refine dT rfl ?_
 exact ret Tryz.results133 rfl ⟨_, rfl, rfl, hB⟩
end
section
open Go Go.Proofs Go.RowKit Go.Lib Go.ChangeShapes Go.WideShapes Go.ChangeAt

theorem own : ownKnob Tryz.prog.godebug = none := by kernel_rfl

theorem laid_mem {P : Program} {w : World} : ∀ {laid : List (String × DataW Unit)} {ps : List MemPlace}, DataW.LaidVars P w laid ps → ∀ n d, (n, d) ∈ laid →
  ∃ g t cs fuel p, P.globalNamed n = some g ∧ (P.globals[g]?).map (·.type) = some t ∧ w.var? P n = some cs ∧ DataW.trod (fun _ => ()) P w 0 (fun _ => true) false fuel t cs.toList = some (d, p)
 | [], _, _, _, _, h => by cases h
 | (n, d) :: r, _, ⟨g, t, cs, fuel, p, q, h1, h2, h3, h4, h5, _⟩, n', d', h => by
  rcases List.mem_cons.1 h with h | h
  ·cases h; exact ⟨g, t, cs, fuel, p, h1, h2, h3, h4⟩
  ·exact laid_mem h5 n' d' h

theorem tab_of_laid {laid : List (String × DataW Unit)} {W : World} (hp : (laid.all fun x => x.2.handleName?.isNone) = true) (hm : ("internal/strconv.uint64pow10", (tabData .u64 pow10Tab : DataW Unit)) ∈ laid) (h : laidMetH Tryz.prog laid W) : TabOk W := by
 rw [MakeChecks.laidMetH_plain _ _ _ hp] at h
 obtain ⟨ps, hv, _⟩ := h
 obtain ⟨g, t, cs, fuel, p, h1, h2, h3, h4⟩ := laid_mem hv _ _ hm
 have hg : Tryz.prog.globalNamed "internal/strconv.uint64pow10" = some 0 := by kernel_rfl
 obtain rfl := Option.some.inj (hg.symm.trans h1)
 have ht : (Tryz.prog.globals[0]?).map (·.type) = some 218 := by kernel_rfl
 obtain rfl := Option.some.inj (ht.symm.trans h2)
 have hc := cells_of_tab (zs := pow10Tab) Tryz.underlying218 Tryz.underlying79 (by kernel_rfl) (by kernel_rfl) h4
 unfold World.var? at h3
 rw [h1, Option.bind_some] at h3
 split at h3
 ·rename_i cs' t' x' he
  obtain rfl := Option.some.inj h3
  refine ⟨t', x', ?_⟩
  rw [he, ← hc]
 ·cases h3
end
end Go.Proofs.YtejlpdbiacmfcaaGreatDoor
