/-
  Walks of the reference's limbs: Divide, Common.
  Conditions: fewer than 2^36 limbs; the divisor is not 0.
  Walks of the reference: Write, number, both, Add, Sub, Mul, DivMod, Gcd, Cmp.
  Conditions: fewer than 2^36 limbs; texts are no longer than an int can tell.
  Walks of the reference: number, both, Add, Sub, Mul, DivMod, Gcd, Cmp.
  Conditions: texts are no longer than an int can tell.
  Walks of the reference: Power, Pow, FromInt, ToInt, Bits.
  Rules of the engine: slices of two or three written-out strings.
  No conditions: each theorem names its own premises.
  Walks of package bits: Cell, All; of the law package's helpers: Same, lives.
  Conditions: texts take fewer than 2^40 bytes; the library's table of powers of ten is laid.
  What the rows of this seat share where an argument is a slice of bytes or of strings: what it reads as; a law that returns true and leaves older memory alone meets its row.
-/
import Derived.Test.YtejlpdbiacmfcaaGreatDoorYTab
import Derived.Test.YtejlpdbiacmfcaaGreatDoorYSto
import Derived.Test.YtejlpdbiacmfcaaGreatDoorYLmG
import Derived.Test.YtejlpdbiacmfcaaGreatDoorYPar
import Derived.Test.YtejlpdbiacmfcaaGreatDoorYFr
import Derived.Test.YtejlpdbiacmfcaaGreatDoorYRE
import Derived.SliceStrings
set_option linter.unusedSimpArgs false
set_option linter.unusedVariables false
namespace Go.Proofs.YtejlpdbiacmfcaaGreatDoor
section
set_option maxHeartbeats 2000000
open Go Go.Proofs Go.RowKit Go.Lib

def RedI (w : World) (v : Value) (zs : List Nat) : Prop := ∃ a c, v = .slice a zs.length c ∧ RdI w a c zs
theorem OwnI.red {w w' : World} {v : Value} {zs : List Nat} (h : OwnI w w' v zs) : RedI w' v zs := by
 obtain ⟨a, c, rfl, ho, _⟩ := h
 exact ⟨a, c, rfl, ownI_rd ho⟩
theorem RedI.below {w w' : World} {v : Value} {zs : List Nat} (h : RedI w v zs) (hb : Below w.heap.size w w') : RedI w' v zs := by
 obtain ⟨a, c, rfl, hr⟩ := h
 exact ⟨a, c, rfl, hr.below hb⟩
theorem RdI.nil (w : World) : RdI w none 0 [] := ⟨Sl.nil _ _, Nat.le_refl _, fun g h => by cases h⟩

theorem rtrim_red (zs : List Nat) (hz : Lm zs) (m : Nat) (hm : zs.length = m) (a : Option Addr) (c : Nat) (w : World) (h : RdI w a c zs) (hl : m ≤ 1099511627776) :
  Calls Tryz.prog 105 #[.slice a m c] w (Ret fun v w' => v = .slice a (lim (val zs)).length c ∧ w = w' ∧ RdI w a c (lim (val zs)) ∧ (lim (val zs)).length ≤ m) := by
 subst hm
 refine (rtrim_calls zs a c w h hl).mono ?_
 rintro e w' ⟨v, rfl, rfl, rfl⟩
 obtain ⟨t, ht⟩ := trimN_prefix zs
 rw [trimN_eq hz] at ht ⊢
 have hlen := congrArg List.length ht
 simp at hlen
 refine ⟨_, rfl, rfl, rfl, ⟨?_, by have := h.2.1; omega, h.2.2⟩, by omega⟩
 have h1 := h.1.take (lim (val zs)).length
 have h2 : ∀ N, zs = N ++ t → zs.take N.length = N := fun N h => by rw [h, List.take_left' rfl]
 rwa [← List.map_take, h2 _ ht] at h1

theorem div_top {us : List Nat} {p d L n k : Nat} (hv : val us = p * d) (hp : p < pw L) (hd : 0 < d) (hk : k ≤ us.length) (hL : L = n + k) : val (us.drop k) < d * pw n := by
 have h1 := val_take_drop us k hk
 have h2 : p * d < pw L * d := Nat.mul_lt_mul_of_pos_right hp hd
 rw [hL, pw_add] at h2
 have h3 : pw k * val (us.drop k) < pw k * (d * pw n) := by
  have : pw k * (d * pw n) = pw n * pw k * d := by
   rw [Nat.mul_comm d, ← Nat.mul_assoc, Nat.mul_comm (pw k)]
  omega
 exact Nat.lt_of_mul_lt_mul_left h3

theorem div_len {q d bt k : Nat} (hq : (lim q).length = k + 1) (hbt : (lim q).getD k 0 = bt) (hd : (bt + 1) * d ≤ 1000000000) (hd0 : 0 < d) : (lim (q * d)).length = k + 1 := by
 have h1 := val_take_succ (lim q) k (by omega)
 rw [take_all (by omega), val_lim, hbt] at h1
 have h2 := val_lt ((lim_Lm q).take k)
 simp only [List.length_take] at h2
 rw [Nat.min_eq_left (by omega)] at h2
 have h3 : q < (bt + 1) * pw k := by rw [Nat.add_mul, Nat.mul_comm bt]; omega
 have h4 : q * d < (bt + 1) * pw k * d := Nat.mul_lt_mul_of_pos_right h3 hd0
 have h5 : (bt + 1) * pw k * d ≤ pw (k + 1) := by
  rw [pw_succ, Nat.mul_right_comm]
  exact Nat.mul_le_mul_right _ hd
 have h6 := lim_len_le (Nat.lt_of_lt_of_le h4 h5)
 have h7 := lim_len_mono (Nat.le_mul_of_pos_right q hd0)
 omega

theorem divide_calls (p q : Nat) (hq0 : 0 < q) (a b : Option Addr) (c d : Nat) (w : World) (ha : RdI w a c (lim p)) (hb : RdI w b d (lim q)) (hpl : (lim p).length ≤ 68719476736) (hql : (lim q).length ≤ 68719476736) :
  Calls Tryz.prog 140 #[.slice a (lim p).length c, .slice b (lim q).length d] w (Ret fun v w' => ∃ v1 v2, v = .tuple ⟨[v1, v2]⟩ ∧ RedI w' v1 (lim (p / q)) ∧ RedI w' v2 (lim (p % q)) ∧ Below w.heap.size w w') := by
 refine enter Tryz.func140 rfl Tryz.ntmps140 (Nat.le_of_ble_eq_true rfl) ?_
 refine dT rfl ?_
 refine call (f := 103) rfl rfl cb103 (order_calls p q a b c d w ha hb (by omega) (by omega)) ?_
 rintro v w1 ⟨rfl, hB1⟩
 refine ⟨_, rfl, ?_⟩
 have ha1 := ha.below hB1
 have hb1 := hb.below hB1
 refine dT rfl ?_
 refine cS rfl rfl rfl rfl (fun hq => ?_) (fun hq => ?_)
 ·have hlt := cmpN_neg.1 hq
  refine dT rfl ?_
  refine ret Tryz.results140 rfl ⟨_, rfl, _, _, rfl, ?_, ?_, hB1⟩
  ·rw [Nat.div_eq_of_lt hlt, lim_zero]; exact ⟨none, 0, rfl, RdI.nil _⟩
  ·rw [Nat.mod_eq_of_lt hlt]; exact ⟨a, c, rfl, ha1⟩
 ·have hqp : q ≤ p := by
   rcases Nat.lt_or_ge p q with h | h
   ·exact absurd (cmpN_neg.2 h) hq
   ·exact h
  have hqn : lim q ≠ [] := fun e => by rw [lim_eq_nil] at e; omega
  have hqlen := List.length_pos_iff.2 hqn
  clear hq
  refine dT rfl ?_
  refine cS rfl rfl rfl rfl (fun hq => ?_) (fun hq => ?_)
  ·have hl1 : (lim q).length = 1 := by omega
   have hqB : q < 1000000000 := by have := lim_len_lt q; rw [hl1] at this; exact this
   have hq1 := lim_small (by omega) hqB
   refine dS rfl ?_
   refine il U rfl rfl rfl rfl rfl rfl rfl (fun _ => rfl) rfl 0 (by omega) (by omega) hb1.1 (show _ = some (i64n q) by rw [hq1]; rfl) ?_
   refine dT rfl ?_
   refine call (f := 167) rfl rfl cb167 (short_calls p q hq0 hqB a c w1 ha1 (by omega)) ?_
   rintro v w2 ⟨v1, rfl, hown⟩
   have hr := hown.red
   obtain ⟨_, _, _, _, hB2⟩ := hown
   refine ⟨_, rfl, ?_⟩
   refine dT rfl ?_
   refine bs1 U (v := i64n (p % q)) rfl rfl rfl rfl rfl rfl rfl ?_
   intro w3 hk3 hs3 hg3
   have hmB : p % q < 1000000000 := Nat.lt_trans (Nat.mod_lt p hq0) hqB
   have hB3 : Below w2.heap.size w2 w3 := (Below.refl _ _).grown hg3 (Nat.le_refl _) (fun k e => by cases e)
   have hrd : RdI w3 (some ⟨w2.heap.size, 0, none⟩) 1 [p % q] := ⟨by simpa using hk3.sl 0, by simp, fun g hg => by simp [ab] at hg; subst hg; exact hk3.tg⟩
   refine call (f := 105) rfl rfl cb105 (rtrim_red [p % q] (Lm.cons hmB Lm.nil) 1 rfl _ 1 w3 hrd (by omega)) ?_
   rintro v w4 ⟨rfl, rfl, hrd4, _⟩
   refine ⟨_, rfl, ?_⟩
   refine dT rfl ?_
   refine ret Tryz.results140 rfl ⟨_, rfl, _, _, rfl, hr.below hB3, ⟨some ⟨w2.heap.size, 0, none⟩, 1, ?_, ?_⟩, bl_tr (bl_tr hB1 hB2 hB1.size) hB3 (by have := hB1.size; have := hB2.size; omega)⟩
   ·rw [show val [p % q] = p % q by simp [val]]
   ·rw [show val [p % q] = p % q by simp [val]] at hrd4; exact hrd4
  ·have hl2 : 2 ≤ (lim q).length := by omega
   have hbt := lim_top (n := q) (by omega)
   have hbl := (lim_Lm q).getD ((lim q).length - 1)
   have hsp := scale_pos hbl
   refine dS rfl ?_
   refine il U rfl rfl rfl rfl rfl rfl rfl (fun _ => rfl) rfl ((lim q).length - 1) (by omega) (by omega) hb1.1 (getI (by omega)) ?_
   generalize hbe : (lim q).getD ((lim q).length - 1) 0 = bt at *
   have hQ : (1000000000 : Int) / ((bt : Int) + 1) = ((1000000000 / (bt + 1) : Nat) : Int) := by
    rw [show ((bt : Int) + 1) = ((bt + 1 : Nat) : Int) by omega]; rfl
   have hslt := hsp.2 hbt
   have hspos := hsp.1
   have hsB : (bt + 1) * (1000000000 / (bt + 1)) ≤ 1000000000 := Nat.mul_div_le _ _
   generalize hse : 1000000000 / (bt + 1) = s at *
   refine dS rfl ?_
   rw [hQ]
   obtain ⟨m, hm⟩ : ∃ m, (lim q).length = m + 2 := ⟨(lim q).length - 2, by omega⟩
   have hn := div_len (d := s) (k := m + 1) hm (by rw [← hbe]; congr 1; omega) hsB hspos
   have hLq := lim_len_mono hqp
   have hpL := lim_len_lt p
   have hV0 : 0 < q * s := Nat.mul_pos hq0 hspos
   have hVlo : s * pw (m + 1) ≤ q * s := by
    rw [Nat.mul_comm]; exact Nat.mul_le_mul_right _ (lim_len_ge hm)
   have hVb := lim_len_lt (q * s)
   have hvt := lim_top (n := q * s) (by omega)
   rw [hn] at hVb hvt
   refine call (f := 168) rfl rfl cb168 (scaled_calls p s hspos hslt a c w1 ha1 (by omega)) ?_
   rintro v w2 ⟨u0, ⟨au, cu, rfl, hou, hB2⟩, hul0, hum0, huv0⟩
   refine ⟨_, rfl, ?_⟩
   have hB2' := bl_tr hB1 hB2 hB1.size
   refine dT rfl ?_
   refine call (f := 168) rfl rfl cb168 (scaled_calls q s hspos hslt b d w2 (hb.below hB2') (by omega)) ?_
   rintro v w3 ⟨v0, ⟨av, cv, rfl, hov, hB3⟩, hvl0, hvm0, hvv0⟩
   refine ⟨_, rfl, ?_⟩
   have hB3' := bl_tr hB2' hB3 hB2'.size
   refine dT rfl ?_
   refine call (f := 105) rfl rfl cb105 (rtrim_red v0 hvm0 _ rfl av cv w3 (ownI_rd hov) (by omega)) ?_
   rintro v w4 ⟨rfl, rfl, hrv, _⟩
   refine ⟨_, rfl, ?_⟩
   rw [hvv0] at hrv ⊢
   rw [hn]
   have hvm := lim_Lm (q * s)
   have hvv := val_lim (q * s)
   generalize hvse : lim (q * s) = vs at *
   have hu0l : u0.length = (lim p).length + 1 := hul0
   generalize hLp : (lim p).length = L at *
   rw [hu0l] at hou ⊢
   obtain ⟨gu, cur, rfl, hgub, hgk2, hcur, hcl, hcle⟩ := own_bk hou (by omega)
   have hgu2 := hgk2.lt
   have hgk3 := hgk2.below hB3 hgu2
   have hvb := own_block hov
   have hcurl : cur = u0.map i64n ++ cur.drop (L + 1) := by rw [← hcur, List.take_append_drop]
   generalize htl : cur.drop (L + 1) = tl at *
   subst hcurl
   refine dS rfl ?_
   refine mkn U rfl rfl rfl rfl rfl rfl rfl (L + 1 - (m + 2)) (by omega) (by omega) (by omega) (by omega) w3.heap.size (Nat.le_refl _) ?_
   intro aq w5 hoq hg5
   rw [rep_i64n] at hoq
   have hqb := own_block hoq
   have hsz3 := hB3.size
   have hsz2 := hB2.size
   have hsz1 := hB1.size
   have hB5 := hB3'.grown hg5 hB3'.size (fun k e => by cases e)
   have hgk5 := hgk3.keep hg5 (by simp)
   have hSv5 := hrv.1.keep hg5 (by simp)
   have hvne : ∀ g, ab av = some g → g ≠ gu := fun g hg => by have := hvb g hg; omega
   have hrs0 := div_top (n := m + 1) (k := L + 1 - (m + 2)) huv0 hpL hspos (by omega) (by omega)
   clear hou hov hgk2 hgk3
   refine dS rfl ?_
   refine loopR (fun l w' mu => ∃ (i : Nat) (rs zs qd : List Nat), l = [(8, .int .i64 (s : Nat)), (9, .slice (some ⟨gu, 0, none⟩) (L + 1) cu), (10, .slice av (m + 2) cv), (11, .int .i64 ((m + 2 : Nat) : Int)), (12, .slice aq (L + 1 - (m + 2)) (L + 1 - (m + 2))), (13, .int .i64 ((i : Int) - 1))] ∧
     i ≤ L + 1 - (m + 2) ∧ rs.length = m + 2 ∧ zs.length + i = L + 1 - (m + 2) ∧ Lm rs ∧ val rs < q * s ∧ qd.length + i = L + 1 - (m + 2) ∧ Lm qd ∧ val (u0.drop i) = val qd * (q * s) + val rs ∧
     Bk w' gu 3 ((u0.take i ++ rs ++ zs).map i64n ++ tl) ∧ w'.ownsRow w3.heap.size 3 1 (.slice aq (L + 1 - (m + 2)) (L + 1 - (m + 2))) (L + 1 - (m + 2)) ((List.replicate i 0 ++ qd).map i64n) ∧ Sl w' av (vs.map i64n) ∧ Below w.heap.size w w' ∧ mu = i)
    (l0 := [(8, .int .i64 (s : Nat)), (9, .slice (some ⟨gu, 0, none⟩) (L + 1) cu), (10, .slice av (m + 2) cv), (11, .int .i64 ((m + 2 : Nat) : Int)), (12, .slice aq (L + 1 - (m + 2)) (L + 1 - (m + 2))), (13, .int .i64 (((L + 1 - (m + 2) : Nat) : Int) - 1))])
    ⟨L + 1 - (m + 2), u0.drop (L + 1 - (m + 2)), [], [], rfl, Nat.le_refl _, by simp; omega, by simp, hum0.drop _, by omega, by simp, Lm.nil, by simp [val], by simpa using hgk5, by simpa using hoq, hSv5, hB5, rfl⟩ ⟨rfl, rfl, rfl, iv (by omega), rfl, iv (by omega), trivial⟩ ?_
   clear hoq hgk5 hSv5 hB5
   rintro l W mu ⟨j, rs, zs, qd, rfl, hj, hrl, hzl, hrm, hrv', hqdl, hqdm, hrel, hgk, hoq, hSv, hB, hmu⟩
   have hBs := hB.size
   refine dT rfl ?_
   refine cS rfl rfl rfl rfl (fun hq => ?_) (fun hq => ?_)
   ·obtain ⟨i, rfl⟩ : ∃ i, j = i + 1 := ⟨j - 1, by omega⟩
    have hi2 : i < u0.length := by omega
    have hx1 := hum0.getD i
    have htk := take_snoc u0 i hi2
    have hstep := dm_step hi2 rfl hrel
    generalize hxe : u0.getD i 0 = x at *
    have hlt := dm_lt hx1 hrv'
    have hqlt := Nat.div_lt_of_lt_mul hlt
    have hrlt := Nat.mod_lt (val (x :: rs)) hV0
    have hgk' : Bk W gu 3 ((u0.take i).map i64n ++ (x :: rs).map i64n ++ (zs.map i64n ++ tl)) := by
     rw [htk] at hgk; simpa using hgk
    have hpl' : ((u0.take i).map i64n).length = i := by simp; omega
    rw [show (((i + 1 : Nat) : Int) - 1) = (i : Int) by omega]
    refine dS rfl ?_
    have hest := step_calls gu m (cu - i) cv av (x :: rs) vs ((u0.take i).map i64n) (zs.map i64n ++ tl) W hgk' hSv (fun e => hvne gu e rfl) (by simp [hrl]) hn (Lm.cons hx1 hrm) hvm (by simpa using hvt) (by rw [hvv]; exact hlt) (by omega)
    rw [hpl'] at hest
    have hcast : ∀ R, Calls Tryz.prog 169 #[.slice (some ⟨gu, i, none⟩) (m + 3) (cu - i), .slice av (m + 2) cv] W R → Calls Tryz.prog 169 #[.slice (sadd (some ⟨gu, 0, none⟩) cu ((i : Int)).toNat 1) (((i : Int) + ((m + 2 : Nat) : Int) + 1).toNat - ((i : Int)).toNat) (cu - ((i : Int)).toNat), .slice av (m + 2) cv] W R := fun R h => by
     rw [show sadd (some ⟨gu, 0, none⟩) cu ((i : Int)).toNat 1 = some ⟨gu, i, none⟩ from by
       unfold sadd; rw [if_neg (by omega)]; simp [add_plain],
      show ((i : Int) + ((m + 2 : Nat) : Int) + 1).toNat - ((i : Int)).toNat = m + 3 from by omega, show cu - ((i : Int)).toNat = cu - i from by omega]
     exact h
    refine call (f := 169) rfl rfl cb169 (hcast _ hest) ?_
    rintro v w6 ⟨rfl, us', hul', hum', huv', hgk6, hg6⟩
    rw [hvv] at huv'
    refine ⟨_, rfl, ?_⟩
    have hsz6 := hg6.size
    have hoq6 := own_keep hoq hg6 (fun g hg => by have := (own_block hoq g hg).1; simp; omega)
    have hSv6 := hSv.keep hg6 (fun g hg => by have := hvne g hg; simp; exact fun e => this e.symm)
    refine is U (v := (i64n (val (x :: rs) / val vs))) rfl rfl rfl rfl rfl rfl rfl (fun _ => rfl) (fun _ => rfl) (fun _ => rfl) rfl rfl i rfl (by omega) hoq6 ?_
    intro p0 w7 hoq7 hg7 hs7
    obtain ⟨hlast, hlv⟩ := last0 hul' (by rw [huv']; exact hrlt) (Nat.le_of_lt hVb)
    have hne : ab aq ≠ some gu := fun e => by have := (own_block hoq6 gu e).1; omega
    rw [set_i64n, small_set, hvv] at hoq7
    have hB6 := hB.grown hg6 hB.size (fun k e => by cases e; omega)
    have hB7 := hB6.grown hg7 hB6.size (fun k e => by have := (own_block hoq6 k e).1; omega)
    refine dS rfl ?_
    refine rend _ i ⟨i, us'.take (m + 2), 0 :: zs, val (x :: rs) / (q * s) :: qd, rfl, by omega, by simp [hul'], by simp; omega, hum'.take _, by rw [hlv, huv']; exact hrlt, by simp; omega, Lm.cons hqlt hqdm, by rw [hlv, huv']; exact hstep, ?_, hoq7, hSv6.keep hg7 (fun g hg e => ?_), hB7, rfl⟩ (by omega) ⟨rfl, rfl, rfl, rfl, rfl, rfl, trivial⟩
    ·have h1 := hgk6.keep hg7 hne
     rw [hlast] at h1
     simpa using h1
    ·have := (own_block hoq6 g e).1
     have := (hvb g hg).2
     omega
   ·obtain rfl : j = 0 := by omega
    simp only [List.replicate_zero, List.nil_append] at hoq
    rw [List.drop_zero] at hrel
    rw [huv0] at hrel
    have hdiv : p / q = val qd ∧ s * (p % q) = val rs := by
     have h1 : p * s / (q * s) = val qd := by
      rw [hrel, Nat.mul_comm (val qd), Nat.mul_add_div hV0, Nat.div_eq_of_lt hrv']; rfl
     have h2 : p * s % (q * s) = val rs := by
      rw [hrel, Nat.mul_comm (val qd), Nat.mul_add_mod, Nat.mod_eq_of_lt hrv']
     rw [Nat.mul_div_mul_right _ _ hspos] at h1
     rw [Nat.mul_mod_mul_right, Nat.mul_comm] at h2
     exact ⟨h1, h2⟩
    have hgk' : Bk W gu 3 ([] ++ rs.map i64n ++ (zs.map i64n ++ tl)) := by simpa using hgk
    have hSr : Sl W (some ⟨gu, 0, none⟩) (rs.map i64n) := by
     have := (bk_viewI hgk').take (m + 2)
     rwa [List.take_left' (by simpa using hrl)] at this
    have hRr : RdI W (some ⟨gu, 0, none⟩) cu rs := ⟨hSr, by omega, fun g hg => by simp [ab] at hg; subst hg; exact hgk.tg⟩
    refine dS rfl ?_
    refine call (f := 105) rfl rfl cb105 (rtrim_red rs hrm (m + 2) hrl (some ⟨gu, 0, none⟩) cu W hRr (by omega)) ?_
    rintro v w6 ⟨rfl, rfl, hRt, hltl⟩
    refine ⟨_, rfl, ?_⟩
    rw [← hdiv.2] at hRt hltl ⊢
    refine dT rfl ?_
    refine call (f := 167) rfl rfl cb167 (short_calls (s * (p % q)) s hspos hslt (some ⟨gu, 0, none⟩) cu W hRt (by omega)) ?_
    rintro v w7 ⟨v1, rfl, hown⟩
    rw [Nat.mul_div_cancel_left _ hspos] at hown
    have hr7 := hown.red
    obtain ⟨_, _, _, _, hB7⟩ := hown
    refine ⟨_, rfl, ?_⟩
    refine dT rfl ?_
    have hRq : RdI w7 aq (L + 1 - (m + 2)) qd := by
     have := ownI_rd (xs := qd) (m := L + 1 - (m + 2)) hoq
     exact this.below hB7
    refine call (f := 105) rfl rfl cb105 (rtrim_red qd hqdm (L + 1 - (m + 2)) (by omega) aq _ w7 hRq (by omega)) ?_
    rintro v w8 ⟨rfl, rfl, hRq2, _⟩
    refine ⟨_, rfl, ?_⟩
    rw [← hdiv.1] at hRq2 ⊢
    refine dT rfl ?_
    exact ret Tryz.results140 rfl ⟨_, rfl, _, _, rfl, ⟨_, _, rfl, hRq2⟩, hr7, bl_tr hB hB7 hB.size⟩

theorem common_calls (p q : Nat) (a b : Option Addr) (c d : Nat) (w : World) (ha : RdI w a c (lim p)) (hb : RdI w b d (lim q)) (hpl : (lim p).length ≤ 68719476736) (hql : (lim q).length ≤ 68719476736) :
  Calls Tryz.prog 139 #[.slice a (lim p).length c, .slice b (lim q).length d] w (Ret fun v w' => RedI w' v (lim (Nat.gcd p q)) ∧ Below w.heap.size w w') := by
 refine enter Tryz.func139 rfl Tryz.ntmps139 (Nat.le_of_ble_eq_true rfl) ?_
 refine dT rfl ?_
 refine loopR (fun l w' mu => ∃ m0 a0 c0 b0 d0, l = [(0, .slice a0 (lim m0).length c0), (1, .slice b0 (lim mu).length d0)] ∧ RdI w' a0 c0 (lim m0) ∧ RdI w' b0 d0 (lim mu) ∧ Nat.gcd m0 mu = Nat.gcd p q ∧ (lim m0).length ≤ 68719476736 ∧ (lim mu).length ≤ 68719476736 ∧ Below w.heap.size w w')
  (m0 := q) ⟨p, a, c, b, d, rfl, ha, hb, rfl, hpl, hql, Below.refl _ _⟩ ⟨rfl, rfl, trivial⟩ ?_
 rintro l w1 mu ⟨m0, a0, c0, b0, d0, rfl, ha, hb, hg, hl1, hl2, hB⟩
 refine dT rfl ?_
 refine cS rfl rfl rfl rfl (fun hq => ?_) (fun hq => ?_)
 ·have h0 : 0 < mu := by
   rcases Nat.eq_zero_or_pos mu with h | h
   ·rw [h, lim_zero] at hq; simp at hq
   ·exact h
  refine dT rfl ?_
  refine call (f := 140) rfl rfl cb140 (divide_calls m0 mu h0 a0 b0 c0 d0 w1 ha hb hl1 hl2) ?_
  rintro v w2 ⟨v1, v2, rfl, _, ⟨a2, c2, rfl, hr2⟩, hB2⟩
  refine ⟨_, rfl, ?_⟩
  refine dT rfl ?_
  refine rend _ (m0 % mu) ⟨mu, b0, d0, a2, c2, rfl, hb.below hB2, hr2, ?_, hl2, Nat.le_trans (lim_len_mono (Nat.le_of_lt (Nat.mod_lt _ h0))) hl2, bl_tr hB hB2 hB.size⟩ (Nat.mod_lt _ h0) ⟨rfl, rfl, trivial⟩
  rw [← hg, Nat.gcd_comm m0 mu, Nat.gcd_rec mu m0]; exact Nat.gcd_comm _ _
 ·have h0 : mu = 0 := lim_eq_nil.1 (List.length_eq_zero_iff.1 (by omega))
  subst h0
  rw [Nat.gcd_zero_right] at hg
  subst hg
  refine dT rfl ?_
  exact ret Tryz.results139 rfl ⟨_, rfl, ⟨a0, c0, rfl, ha⟩, hB⟩
end
section
set_option maxHeartbeats 1000000
open Go Go.Proofs Go.RowKit Go.Lib

section
variable {P : Program} (U : Tys P) {ro : Option Nat} {n : Nat} {ds : List Deferred} {Q : PT} {l l' : Fr} {w w' : World} {arr : Array Oper} {r : List Oper} {k : List It}
theorem bstrS {d : Nat} {t t2 e ty : TypeId} {x : Operand} {ps : String} {af : Array Edge} {g : Option (Nat × Bool)} {a : Option Addr} {c m : Nat} {bs : List UInt8}
  (hx : ev l x = some (.slice a m c)) (ht : U.tb.u t = some (.slice e)) (he : U.tb.u e = some (.int .u8)) (h2 : U.tb.u t2 = some .string) (hg : gd arr l g = some true) (hd : Nat.blt d n = true)
  (hm : bs.length = m) (hne : bs ≠ []) (hc : Sl w a (byteCells bs))
  (t' : T P ro n ds Q ((d, .string ⟨⟨bs⟩⟩) :: l) w (.ops arr r) k) : T P ro n ds Q l w (.ops arr (⟨some d, .convert t t2 x, ty, ps, af, g⟩ :: r)) k := by
 subst hm
 have hb : ∀ j (hj : j < bs.length), (byteCells bs)[j]? = some (.int .u8 (bs[j].toNat : Int)) := fun j hj => by simp [byteCells, hj]
 obtain ⟨g0, off, rfl, _⟩ := hc 0 _ (hb 0 (List.length_pos_iff.2 hne))
 have := run_convert_bytes_back (P := P) w t t2 e ⟨g0, off, none⟩ c bs (U.hu _ _ ht) (U.hu _ _ he) (U.hu _ _ h2) (fun j hj => by
  obtain ⟨g1, o1, e1, hc1⟩ := hc j _ (hb j hj)
  cases e1
  rw [add_plain]; exact hc1)
 exact op1 (w' := w) (by intro c h; cases h) hg (put1_some hd) (fun a hf => by simp [execOp, hf.ev hx, this]) t'
end

theorem rep_u8 (k : Nat) : List.replicate k (Value.int .u8 0) = byteCells (List.replicate k 0) := by simp [byteCells]
theorem wr_set (P S R : List UInt8) (i q : Nat) (c : UInt8) (hP : P.length = i) : (byteCells (P ++ (List.replicate (q + 1) 0 ++ (S ++ R)))).set (i + q) (.int .u8 (c.toNat : Int)) = byteCells (P ++ (List.replicate q 0 ++ (c :: S ++ R))) := by
 unfold byteCells
 rw [show (Value.int .u8 (c.toNat : Int)) = (fun b : UInt8 => Value.int .u8 (b.toNat : Int)) c from rfl, ← List.map_set]
 congr 1
 subst hP
 rw [List.set_append_right _ _ (by omega), show P.length + q - P.length = q by omega, List.replicate_succ', List.append_assoc, List.set_append_right _ _ (by simp)]
 simp
theorem dval_cons48 (t : List UInt8) : dval (48 :: t) = dval t := by unfold dval; rw [dvalA_cons]; rfl
theorem dval_cons (c : UInt8) (t : List UInt8) : dval (c :: t) = (c.toNat - 48) * 10 ^ t.length + dval t := by
 unfold dval; rw [dvalA_cons, dvalA_eq]; simp [dval]
theorem byteCells_len (l : List UInt8) : (byteCells l).length = l.length := by simp [byteCells]

theorem write_ref (n : Nat) (a : Option Addr) (c : Nat) (w : World) (ha : RdI w a c (lim n)) (hl : (lim n).length ≤ 68719476736) :
  Calls Tryz.prog 65 #[.slice a (lim n).length c] w (Ret fun v w' => v = .string ⟨⟨decDigits n⟩⟩ ∧ Below w.heap.size w w') := by
 have hxl := lim_Lm n
 have hvn := val_lim n
 have hnil := @lim_eq_nil n
 generalize hxs : lim n = xs at *
 refine enter Tryz.func65 rfl Tryz.ntmps65 (Nat.le_of_ble_eq_true rfl) ?_
 refine dT rfl ?_
 refine cS rfl rfl rfl rfl (fun hq => ?_) (fun hq => ?_)
 ·have h0 : n = 0 := hnil.1 (List.length_eq_zero_iff.1 (by omega))
  refine dT rfl ?_
  refine ret Tryz.results65 rfl ⟨_, rfl, ?_, Below.refl _ _⟩
  rw [h0]
  show Value.string _ = Value.string _
  rw [decDigits, dif_pos (by omega)]; rfl
 ·have hL : 0 < xs.length := by omega
  refine dS rfl ?_
  refine mkn U rfl rfl rfl rfl rfl rfl rfl (9 * xs.length) (by omega) (by omega) (by omega) (by omega) w.heap.size (Nat.le_refl _) ?_
  intro a0 w0 ho0 hg0
  rw [rep_u8] at ho0
  refine dT rfl ?_
  refine loopR (fun l w' m => ∃ (i : Nat) (P : List UInt8), l = [(0, .slice a xs.length c), (3, .slice a0 (9 * xs.length) (9 * xs.length)), (4, .int .i64 (i : Nat))] ∧ i ≤ xs.length ∧ P.length = 9 * i ∧ Dgs P ∧ dval P = val (xs.drop (xs.length - i)) ∧
    w'.ownsRow w.heap.size 5 1 (.slice a0 (9 * xs.length) (9 * xs.length)) (9 * xs.length) (byteCells (P ++ List.replicate (9 * xs.length - 9 * i) 0)) ∧ Below w.heap.size w w' ∧ m = xs.length - i)
   ⟨0, [], rfl, by omega, rfl, fun c h => (by cases h), by simp [val, dval, dvalA_nil], by simpa using ho0, (Below.refl _ _).grown hg0 (Nat.le_refl _) (fun k e => by cases e), rfl⟩ ⟨rfl, rfl, rfl, trivial⟩ ?_
  rintro l w1 m ⟨i, P, rfl, hi, hPl, hPd, hPv, ho, hB, rfl⟩
  refine dT rfl ?_
  refine cS rfl rfl rfl rfl (fun hq => ?_) (fun hq => ?_)
  ·have hi' : i < xs.length := by omega
   have hx1 := hxl.getD (xs.length - 1 - i)
   have hdr : val (xs.drop (xs.length - (i + 1))) = xs.getD (xs.length - 1 - i) 0 + 1000000000 * val (xs.drop (xs.length - i)) := by
    rw [show xs.length - (i + 1) = xs.length - 1 - i by omega, List.drop_eq_getElem_cons (by omega), val_cons, show xs.length - 1 - i + 1 = xs.length - i by omega]
    simp [List.getD, show xs.length - 1 - i < xs.length by omega]
   have hgx := getI (xs := xs) (j := xs.length - 1 - i) (by omega)
   generalize xs.getD (xs.length - 1 - i) 0 = x at *
   refine dS rfl ?_
   refine il U rfl rfl rfl rfl rfl rfl rfl (fun _ => rfl) rfl (xs.length - 1 - i) (by omega) (by omega) (ha.below hB).1 hgx ?_
   refine dT rfl ?_
   refine loopR (fun l w' m => ∃ (j : Nat) (S : List UInt8), l = [(0, .slice a xs.length c), (3, .slice a0 (9 * xs.length) (9 * xs.length)), (4, .int .i64 (i : Nat)), (5, .int .i64 ((x / 10 ^ j : Nat) : Nat)), (6, .int .i64 (8 - (j : Int)))] ∧ j ≤ 9 ∧ S.length = j ∧ Dgs S ∧ dval S = x % 10 ^ j ∧
     w'.ownsRow w.heap.size 5 1 (.slice a0 (9 * xs.length) (9 * xs.length)) (9 * xs.length) (byteCells (P ++ (List.replicate (9 - j) 0 ++ (S ++ List.replicate (9 * xs.length - 9 * i - 9) 0)))) ∧ Below w.heap.size w w' ∧ m = 9 - j)
    (l0 := [(0, .slice a xs.length c), (3, .slice a0 (9 * xs.length) (9 * xs.length)), (4, .int .i64 (i : Nat)), (5, .int .i64 ((x / 10 ^ 0 : Nat) : Nat)), (6, .int .i64 (8 - ((0 : Nat) : Int)))])
    ⟨0, [], rfl, by omega, rfl, fun c h => (by cases h), by simp [dval, dvalA_nil, Nat.mod_one], ?_, hB, rfl⟩ ⟨rfl, rfl, rfl, iv (by simp), rfl, trivial⟩ ?_
   ·rw [show 9 * xs.length - 9 * i = 9 + (9 * xs.length - 9 * i - 9) by omega, ← List.replicate_append_replicate] at ho
    simpa using ho
   clear ho hB
   rintro l w2 m ⟨j, S, rfl, hj, hSl, hSd, hSv, ho, hB, rfl⟩
   refine dT rfl ?_
   refine cS rfl rfl rfl rfl (fun hq => ?_) (fun hq => ?_)
   ·have hj' : j < 9 := by omega
    have hms : x % 10 ^ (j + 1) = x % 10 ^ j + 10 ^ j * (x / 10 ^ j % 10) := Nat.mod_pow_succ
    have hds : x / 10 ^ (j + 1) = x / 10 ^ j / 10 := by rw [Nat.pow_succ, Nat.div_div_eq_div_mul]
    have hxj : x / 10 ^ j ≤ x := Nat.div_le_self _ _
    generalize x / 10 ^ j = n1 at *
    have hd10 := ofNat_d (k := n1 % 10) (by omega)
    generalize hcc : UInt8.ofNat (48 + n1 % 10) = ch at *
    obtain ⟨q, hq9⟩ : ∃ q, 9 - j = q + 1 := ⟨9 - j - 1, by omega⟩
    rw [hq9] at ho
    refine dS rfl ?_
    refine is U (v := (.int .u8 (ch.toNat : Int))) rfl rfl rfl rfl rfl rfl rfl (fun _ => rfl) (fun _ => iv (by omega)) (fun _ => rfl) rfl rfl (9 * i + q) (by omega) (by omega) ho ?_
    intro p0 w3 ho3 hg3 _
    rw [wr_set P S _ _ q ch hPl] at ho3
    refine dS rfl ?_
    refine rend [(0, .slice a xs.length c), (3, .slice a0 (9 * xs.length) (9 * xs.length)), (4, .int .i64 (i : Nat)), (5, .int .i64 ((x / 10 ^ (j + 1) : Nat) : Nat)), (6, .int .i64 (8 - ((j + 1 : Nat) : Int)))] _
     ⟨j + 1, ch :: S, rfl, by omega, by simp [hSl], fun c hc => ?_, ?_, ?_, hB.grown hg3 hB.size (fun g hg => (own_block ho g hg).1), rfl⟩ (by omega) ⟨rfl, rfl, rfl, iv (by rw [hds]; omega), iv (by omega), trivial⟩
    ·rcases List.mem_cons.1 hc with h | h
     ·subst h; unfold isD; omega
     ·exact hSd c h
    ·rw [dval_cons, hd10, hSl, hms, hSv, Nat.mul_comm (10 ^ j)]
     rw [show 48 + n1 % 10 - 48 = n1 % 10 by omega]; omega
    ·rw [show 9 - (j + 1) = q by omega]; exact ho3
   ·obtain rfl : j = 9 := by omega
    refine dS rfl ?_
    refine rend _ _ ⟨i + 1, P ++ S, rfl, by omega, by simp [hPl, hSl]; omega, fun c hc => ?_, ?_, ?_, hB, rfl⟩ (by omega) ⟨rfl, rfl, iv (by omega), trivial⟩
    ·rcases List.mem_append.1 hc with h | h
     ·exact hPd c h
     ·exact hSd c h
    ·rw [dval_append, hSl, hSv, Nat.mod_eq_of_lt (by omega), hPv, hdr]; omega
    ·rw [show 9 * xs.length - 9 * (i + 1) = 9 * xs.length - 9 * i - 9 by omega]
     simpa using ho
  ·obtain rfl : i = xs.length := by omega
   rw [Nat.sub_self, List.drop_zero, hvn] at hPv
   rw [Nat.sub_self] at ho
   simp only [List.replicate_zero, List.append_nil] at ho
   have hsl := own_sl ho
   refine dS rfl ?_
   refine loopR (fun l w' m => ∃ (B : List UInt8) (a1 : Option Addr) (c1 : Nat), l = [(3, .slice a1 B.length c1)] ∧ B ≠ [] ∧ Dgs B ∧ dval B = n ∧ Sl w1 a1 (byteCells B) ∧ B.length ≤ c1 ∧ B.length ≤ 9 * xs.length ∧ w' = w1 ∧ m = B.length)
    (l0 := [(3, .slice a0 P.length (9 * xs.length))]) ⟨P, a0, 9 * xs.length, rfl, fun e => by rw [e] at hPl; simp at hPl; omega, hPd, hPv, hsl, by omega, by omega, rfl, rfl⟩ ⟨by rw [hPl]; rfl, trivial⟩ ?_
   rintro l w2 m ⟨B, a1, c1, rfl, hne, hBd, hBv, hS, hBc, hBL, rfl, rfl⟩
   have hpos := List.length_pos_iff.2 hne
   refine dT rfl ?_
   refine cS rfl rfl rfl rfl (fun hq => ?_) (fun hq => ?_)
   ·have hlen := hq
    obtain ⟨b0, t, rfl⟩ : ∃ b0 t, B = b0 :: t := by
     cases B with
     | nil => exact absurd rfl hne
     | cons b t => exact ⟨b, t, rfl⟩
    refine dT rfl ?_
    refine il U rfl rfl rfl rfl rfl rfl rfl (fun _ => rfl) rfl 0 (by omega) (by simp) hS (show (byteCells (b0 :: t))[0]? = some (.int .u8 (b0.toNat : Int)) by simp [byteCells]) ?_
    refine dT rfl ?_
    refine cS rfl rfl rfl rfl (fun hq => ?_) (fun hq => ?_)
    ·have hb0 : b0 = 48 := UInt8.toNat_inj.1 (by simp; omega)
     subst hb0
     have hS1 := hS.drop 1 c1 (by rw [byteCells_len]; exact hBc)
     refine dS rfl ?_
     refine rend _ _ ⟨t, sadd a1 c1 1 1, c1 - 1, rfl, fun e => by rw [e] at hlen; simp at hlen, fun c hc => hBd c (List.mem_cons_of_mem _ hc), by rw [← hBv, dval_cons48], by simpa [byteCells] using hS1, by simp at hBc; omega, by simp at hBL; omega, rfl, rfl⟩ (by simp) ⟨?_, trivial⟩
     rfl
    ·refine dT rfl ?_
     refine bstrS U rfl rfl rfl rfl rfl rfl rfl hne hS ?_
     refine dT rfl ?_
     refine ret Tryz.results65 rfl ⟨_, rfl, ?_, hB⟩
     rw [← hBv, ← dec_of hBd hne (.inr (fun e => ?_))]
     ·rfl
     ·have : b0 = 48 := Option.some.inj e
      subst this
      exact hq rfl
   ·refine dT rfl ?_
    refine bstrS U rfl rfl rfl rfl rfl rfl rfl hne hS ?_
    refine dT rfl ?_
    refine ret Tryz.results65 rfl ⟨_, rfl, ?_, hB⟩
    rw [← hBv, ← dec_of hBd hne ?_]
    ·rfl
    ·obtain ⟨b0, hb0⟩ := List.length_eq_one_iff.1 (show B.length = 1 by omega)
     subst hb0
     by_cases h48 : b0 = 48
     ·exact .inl (by rw [h48])
     ·exact .inr (fun e => h48 (Option.some.inj e))
end
section
set_option maxHeartbeats 1000000
open Go Go.Proofs Go.RowKit Go.Lib
end
section
set_option maxHeartbeats 1000000
open Go Go.Proofs Go.RowKit Go.Lib

section
variable {P : Program} (U : Tys P) {ro : Option Nat} {n : Nat} {ds : List Deferred} {Q : PT} {l l' : Fr} {w w' : World} {arr : Array Oper} {r : List Oper} {k : List It}
theorem rstr {d : Nat} {t t2 ty : TypeId} {x : Operand} {ps : String} {af : Array Edge} {g : Option (Nat × Bool)} {kk : IntKind} {z : Int} (c : UInt8) (hx : ev l x = some (.int kk z)) (hz : z = (c.toNat : Int)) (hc : c.toNat < 128) {u : TypeDesc} (hs : U.tb.u t = some u) (h2 : U.tb.u t2 = some .string) (hg : gd arr l g = some true) (hd : Nat.blt d n = true)
  (t' : T P ro n ds Q ((d, str [c]) :: l) w (.ops arr r) k) : T P ro n ds Q l w (.ops arr (⟨some d, .convert t t2 x, ty, ps, af, g⟩ :: r)) k := by
 subst hz
 have h1 := run_convert_int_string (P := P) w t t2 kk (c.toNat : Int) (by rw [U.hu _ _ hs]; rfl) (U.hu _ _ h2)
 have h2 : Utf8.encode (c.toNat : Int) = ⟨⟨[c]⟩⟩ := by
  unfold Utf8.encode
  have hv : Utf8.valid (c.toNat : Int) = true := by unfold Utf8.valid; simp; omega
  simp [hv, hc]
 rw [h2] at h1
 exact op1 (w' := w) (by intro c h; cases h) hg (put1_some hd) (fun a hf => by simp [execOp, hf.ev hx, h1, str]) t'
end
end
section
open Go Go.Proofs Go.RowKit

section
variable {P : Program} (U : Tys P) {ro : Option Nat} {n : Nat} {ds : List Deferred} {Q : PT} {l l' : Fr} {w w' : World} {arr : Array Oper} {r : List Oper} {k : List It}
end
end
section
set_option maxHeartbeats 1000000
open Go Go.Proofs Go.RowKit Go.Lib

def CellR (l : List UInt8) (v : Value) : Prop :=
 (∃ e, e ≠ 0 ∧ SChk l e ∧ v = .tuple ⟨[.string ⟨⟨[]⟩⟩, .string ⟨⟨[]⟩⟩, .int .i64 e]⟩) ∨
 (SChk l 0 ∧ v = .tuple ⟨[.string ⟨⟨qtext (mkq false (bval l) (2 ^ l.length))⟩⟩, .string ⟨⟨qtext (mkq false 1 (2 ^ l.length))⟩⟩, .int .i64 0]⟩)
theorem CellR.uniq {l : List UInt8} {v v' : Value} (h : CellR l v) (h' : CellR l v') : v = v' := by
 rcases h with ⟨e, h1, h2, rfl⟩ | ⟨h2, rfl⟩ <;> rcases h' with ⟨e', h3, h4, rfl⟩ | ⟨h4, rfl⟩
 ·rw [h2.uniq h4]
 ·exact absurd (h2.uniq h4) h1
 ·exact absurd (h4.uniq h2) h3
 ·rfl
section
variable {P : Program} {ro : Option Nat} {n : Nat} {ds : List Deferred} {Q : PT} {l l' : Fr} {w w' : World} {arr : Array Oper} {r : List Oper} {k : List It}
end

def strs (ls : List (List UInt8)) : List Value := ls.map fun s => .string ⟨⟨s⟩⟩
theorem getS {xs : List (List UInt8)} {j : Nat} (h : j < xs.length) : (strs xs)[j]? = some (.string ⟨⟨xs.getD j []⟩⟩) := by simp [strs, h, List.getD]
theorem own_bw {w w' : World} {base e s : Nat} {a : Option Addr} {m c : Nat} {cs : List Value} (h : w.ownsRow base e s (.slice a m c) m cs) (hb : Below w.heap.size w w') : w'.ownsRow base e s (.slice a m c) m cs := by
 refine ⟨h.1, ?_⟩
 rcases h.2 with h | ⟨g, cap, cur, e1, e2, e3, e4⟩
 ·exact .inl h
 ·exact .inr ⟨g, cap, cur, e1, e2, by rw [hb.block g (Array.getElem?_eq_some_iff.1 e3).1]; exact e3, e4⟩
end
section
open Go Go.Proofs Go.RowKit Go.Lib Go.WideShapes Go.ChangeAt
open Go.ChangeShapes hiding strs

theorem laidOut : laidOutB Tryz.prog = true := by kernel_rfl
section
variable {H : Type} {enc : TypeId × Value → H}

set_option maxRecDepth 100000 in
/-- The post of a law that returns true. -/
theorem post_mem {P : Program} {f : Func} {s : ChangeSpec} {W W' : World} {args : Array Value} {ds : List (DataW H)} {before pa : List MemPlace} {t : TypeId} (hs : s.vars = [])
  (hW : DataW.Whole enc P f.params.toList s.vars false W args.toList ds [] before) (hr : f.resultTypes = #[t]) (ht : P.underlying t = some .bool)
  (hres : (s.fn H (ds ++ [])).results = [.lit (.bool true)]) (hargs : DataW.TrodAll enc P W' 0 (fun b => decide (b < W.heap.size)) true f.params.toList args.toList (s.fn H (ds ++ [])).args pa)
  (hvars : (s.fn H (ds ++ [])).vars = []) (hB : Below W.heap.size W W') : s.post enc P f false true false false W args (.bool true) W' := by
 have hR : ∀ (b : Nat) (sp : Nat → Bool) (hd : Bool), DataW.TrodAll enc P W' b sp hd f.resultTypes.toList ((Value.bool true).resultList f.resultTypes.size) (s.fn H (ds ++ [])).results [] := by
  intro b sp hd
  rw [hr, hres]
  exact trodAll_mk1 (shut_bool ht _)
 have hV : ∀ sp : Nat → Bool, DataW.TrodVars enc P W' sp s.vars (s.fn H (ds ++ [])).vars [] := by
  intro sp
  rw [hs, hvars]; rfl
 exact ⟨ds, [], before, [], pa, [], hW, hR _ _ _, hargs, hV _, hB.frame _, fun h => by cases h⟩
end
end
end Go.Proofs.YtejlpdbiacmfcaaGreatDoor
