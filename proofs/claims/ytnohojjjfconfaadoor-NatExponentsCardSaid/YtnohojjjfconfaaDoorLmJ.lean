/-
  Walk of package limbs: Pow.
  Conditions: the number has at most sa many digits sa the limit, which is from 1 to 2^20; the library's table of powers of ten is laid.
-/
import Derived.Test.YtnohojjjfconfaaDoorLmI
import Derived.Test.YtnohojjjfconfaaDoorBit
set_option linter.unusedSimpArgs false
set_option linter.unusedVariables false
set_option maxHeartbeats 1000000
namespace Go.Proofs.YtnohojjjfconfaaDoor
open Go Go.Proofs Go.RowKit Go.Lib

theorem pow_step {O S mu : Nat} : O * S ^ mu = (if mu % 2 = 1 then O * S else O) * (S * S) ^ (mu / 2) := by
  have h := Nat.div_add_mod mu 2
  have h2 : (S * S) ^ (mu / 2) = S ^ (2 * (mu / 2)) := by rw [Nat.pow_mul, Nat.pow_two]
  rw [h2]
  split
  · rename_i h1
    have h3 : S ^ mu = S ^ (2 * (mu / 2)) * S := by
      conv => lhs; rw [← h, h1]
      exact Nat.pow_succ _ _
    rw [h3, Nat.mul_assoc, Nat.mul_comm S]
  · rename_i h1
    have h3 : mu = 2 * (mu / 2) := by omega
    conv => lhs; rw [h3]

theorem one_red {w : World} {b : Nat} (h : Bk w b 44 [.int .u64 1]) : Rd w (some ⟨b, 0, none⟩) 1 (lim 1) := by
  rw [lim_one]
  exact ⟨by have := h.sl 0; simpa [u64] using this, by simp, fun g hg => by simp [ab] at hg; have := h.lt; omega⟩


theorem pow_calls (p n limit : Nat) (hn : n < 18446744073709551616) (a : Option Addr) (c : Nat) (w : World) (ha : Rd w a c (lim p)) (hp : nDigits p ≤ limit) (hlim : limit ≤ 1048576) (ht : TabOk w) :
    Calls Tryd.prog 22 #[.slice a (lim p).length c, u64 n, .int .i64 (limit : Nat)] w
      (Ret fun v w' => ∃ v1, v = .tuple ⟨[v1, .bool (decide (nDigits (p ^ n) ≤ limit))]⟩ ∧ (nDigits (p ^ n) ≤ limit → Red w' v1 (lim (p ^ n))) ∧ Below w.heap.size w w') := by
  have hl1 : 1 ≤ limit := Nat.le_trans (nDigits_pos p) hp
  have hd1 : nDigits 1 = 1 := nDigits_small (by omega)
  have hd0 := nD_zero
  have hple := lim_le_nD p
  refine enter Tryd.func22 rfl Tryd.ntmps22 (Nat.le_of_ble_eq_true rfl) ?_
  refine dr U 600 rfl trivial ?_
  refine bx rfl rfl rfl rfl ?_
  intro b5 w1 hb5 hs1 hk5 hg1
  have hB1 : Below w.heap.size w w1 := (Below.refl _ w).grown hg1 (Nat.le_refl _) (fun k e => by cases e)
  have ht1 := ht.new hg1
  have ha1 := ha.below hB1
  refine dr U 600 rfl trivial ?_
  refine cS rfl rfl rfl rfl (fun hq => ?_) (fun hq => ?_)
  · obtain rfl : n = 0 := by omega
    refine dr U 600 rfl trivial ?_
    refine bs1 U rfl rfl rfl rfl rfl rfl rfl ?_
    intro w2 hk hs2 hg2
    refine dr U 600 rfl trivial ?_
    refine ret Tryd.results22 rfl ⟨_, rfl, .slice (some ⟨w1.heap.size, 0, none⟩) 1 1, by rw [Nat.pow_zero, hd1, decide_eq_true hl1]; rfl, fun _ => ⟨some ⟨w1.heap.size, 0, none⟩, 1, by rw [Nat.pow_zero, lim_one]; rfl, by rw [Nat.pow_zero]; exact one_red hk⟩, hB1.grown hg2 hB1.size (fun k e => by cases e)⟩
  · have hn0 : n ≠ 0 := by omega
    refine dr U 600 rfl trivial ?_
    have hz := zero_calls (lim p) a c w1
    by_cases hp0 : p = 0
    · subst hp0
      rw [lim_zero] at *
      refine call (f := 28) rfl rfl cb28 hz ?_
      rintro v w2 ⟨rfl, rfl⟩
      refine ⟨_, rfl, ?_⟩
      rw [decide_eq_true (show ([] : List Nat) = [] from rfl)]
      refine dr U 600 rfl trivial ?_
      refine ret Tryd.results22 rfl ⟨_, rfl, .slice a 0 c, by rw [Nat.zero_pow (by omega), hd0, decide_eq_true hl1]; rfl, fun _ => ⟨a, c, by rw [Nat.zero_pow (by omega), lim_zero]; rfl, by rw [Nat.zero_pow (by omega), lim_zero]; exact ha1⟩, hB1⟩
    · refine call (f := 28) rfl rfl cb28 hz ?_
      rintro v w2 ⟨rfl, rfl⟩
      refine ⟨_, rfl, ?_⟩
      rw [decide_eq_false (fun e => hp0 (lim_eq_nil.1 e))]
      refine dr U 600 rfl trivial ?_
      have ho := one_calls p a c w1 ha1
      refine call (f := 42) rfl rfl cb42 ho ?_
      rintro v w2 ⟨rfl, rfl⟩
      refine ⟨_, rfl, ?_⟩
      by_cases hp1 : p = 1
      · subst hp1
        rw [decide_eq_true rfl]
        refine dr U 600 rfl trivial ?_
        refine ret Tryd.results22 rfl ⟨_, rfl, .slice a (lim 1).length c, by rw [Nat.one_pow, hd1, decide_eq_true hl1]; rfl, fun _ => ⟨a, c, by rw [Nat.one_pow], by rw [Nat.one_pow]; exact ha1⟩, hB1⟩
      · rw [decide_eq_false hp1]
        refine dr U 600 rfl trivial ?_
        refine bs1 U rfl rfl rfl rfl rfl rfl rfl ?_
        intro w2 hko hs2 hg2
        refine dr U 600 rfl trivial ?_
        refine al U rfl rfl rfl rfl ?_
        intro b9 w3 hb9 hs3 hk9 hg3
        refine al U rfl rfl rfl rfl ?_
        intro b10 w4 hb10 hs4 hk10 hg4
        refine dr U 600 rfl trivial ?_
        have hk9 := hk9.keep hg4 (by simp)
        refine st U rfl rfl rfl rfl rfl rfl rfl rfl rfl rfl (hk9) ?_
        intro w5 hk9 hg5 hs5
        have hk10 := hk10.keep hg5 (by simp; omega)
        refine st U rfl rfl rfl rfl rfl rfl rfl rfl rfl rfl (hk10) ?_
        intro w6 hk10 hg6 hs6
        have hk9 := hk9.keep hg6 (by simp; omega)
        have hk5 := ((((hk5.keep hg2 (by simp)).keep hg3 (by simp)).keep hg4 (by simp)).keep hg5 (by simp; omega)).keep hg6 (by simp; omega)
        have hko := (((hko.keep hg3 (by simp)).keep hg4 (by simp)).keep hg5 (by simp; omega)).keep hg6 (by simp; omega)
        have hB2 := hB1.grown hg2 hB1.size (fun k e => by cases e)
        have hB3 := hB2.grown hg3 hB2.size (fun k e => by cases e)
        have hB4 := hB3.grown hg4 hB3.size (fun k e => by cases e)
        have hB5 := hB4.grown hg5 hB4.size (fun k e => by cases e; have := hB2.size; omega)
        have hB6 := hB5.grown hg6 hB5.size (fun k e => by cases e; have := hB3.size; omega)
        have hsz1 := hB1.size
        have ht6 := ht.below hB6
        have hn9 := tab_ne ht6 hk9
        have hn10 := tab_ne ht6 hk10
        refine dr U 600 rfl trivial ?_
        refine loopR (fun l w' mu => ∃ O S ao co sa cs, l = [(1, .int .u64 (mu : Nat)), (8, .slice ao (lim O).length co), (9, .pointer (some ⟨b9, 0, none⟩)), (5, .pointer (some ⟨b5, 0, none⟩)), (10, .pointer (some ⟨b10, 0, none⟩)),
            (11, .func (.func 43) ⟨[]⟩ ⟨[.pointer (some ⟨b9, 0, none⟩), .pointer (some ⟨b5, 0, none⟩), .pointer (some ⟨b10, 0, none⟩)]⟩)] ∧ 1 ≤ mu ∧ mu < 18446744073709551616 ∧ O * S ^ mu = p ^ n ∧ 0 < O ∧ 2 ≤ S ∧ nDigits O ≤ limit ∧ nDigits S ≤ 2 * limit ∧
            Rd w' ao co (lim O) ∧ (∀ g, ab ao = some g → g ≠ b9 ∧ g ≠ b10) ∧ Bk w' b9 40 [.slice sa (lim S).length cs] ∧ Rd w' sa cs (lim S) ∧ Bk w' b5 3 [.int .i64 (limit : Nat)] ∧ Bk w' b10 4 [.bool (decide (nDigits S ≤ limit))] ∧ TabOk w' ∧ Below w.heap.size w w')
          (m0 := n) ⟨1, p, some ⟨w1.heap.size, 0, none⟩, 1, a, c, rfl, by omega, hn, by rw [Nat.one_mul], by omega, by omega, by omega, by omega, one_red hko, fun g hg => by simp [ab] at hg; omega, hk9, ha.below hB6, hk5, ?_, ht6, hB6⟩ ⟨rfl, by rw [lim_one]; rfl, rfl, rfl, rfl, rfl, trivial⟩ ?_
        · rw [decide_eq_true hp]; exact hk10
        rintro l l_w mu ⟨O, S, ao, co, sa, cs, rfl, hmu, hmu2, hpw, hO, hS, hdO, hdS, hrO, hnO, hk9, hrS, hk5, hk10, ht', hB⟩
        have hOl := lim_le_nD O
        have hSl := lim_le_nD S
        have hst := @pow_step O S mu
        rw [hpw] at hst
        have hSS : 0 < (S * S) ^ (mu / 2) := Nat.pow_pos (Nat.mul_pos (by omega) (by omega))
        refine dr U 600 rfl trivial ?_
        refine and1 mu rfl rfl hmu2 rfl rfl ?_
        refine dr U 600 rfl trivial ?_
        refine cS rfl rfl rfl rfl (fun hq => ?_) (fun hq => ?_)
        · have hodd : mu % 2 = 1 := by omega
          rw [if_pos hodd] at hst
          refine dr U 600 rfl trivial ?_
          refine ld U rfl rfl rfl rfl ((hk9).cell rfl) ?_
          refine call (f := 37) rfl rfl cb37 (mul_calls O S ao sa co cs l_w hrO hrS (by omega) (by omega)) ?_
          rintro v w7 ⟨a7, c7, rfl, hown, hB7⟩
          refine ⟨_, rfl, ?_⟩
          have hr7 := own_rd hown
          have hb7 := own_block hown
          have h9 := hk9.below hB7 hk9.lt
          have h5 := hk5.below hB7 hk5.lt
          have h10 := hk10.below hB7 hk10.lt
          have ht7 := ht'.below hB7
          have hB7' := bl_tr hB hB7 hB.size
          have hrS7 := hrS.below hB7
          have hOS : O * S ≤ p ^ n := by rw [hst]; exact Nat.le_mul_of_pos_right _ hSS
          have hSOS : S ≤ O * S := Nat.le_mul_of_pos_left _ hO
          have hdOS := nD_mul O S
          have hOSl := lim_le_nD (O * S)
          have hlt10 := hk10.lt
          have hlt9 := hk9.lt
          refine dr U 600 rfl trivial ?_
          by_cases hf : nDigits S ≤ limit
          · have h10t := h10
            rw [decide_eq_true hf] at h10t
            have hq5 := h5.cell (off := 0) rfl
            have hq10 := h10t.cell (off := 0) rfl
            refine dwn 7 (fun w' => w'.cell? ⟨b10, 0, none⟩ = some (.bool true) ∧ w'.cell? ⟨b5, 0, none⟩ = some (.int .i64 (limit : Nat))) hmo ?_
            intro w8 hh hg8
            have hC : w8.cell? ⟨b10, 0, none⟩ = some (.bool true) ∧ w8.cell? ⟨b5, 0, none⟩ = some (.int .i64 (limit : Nat)) := ⟨cell_heap hh hq10, cell_heap hh hq5⟩
            refine dq U [0,1,2,3,5] [(0, .bool true), (5, .int .i64 (limit : Nat))] (by kernel_rfl) rfl rfl hC (by simp only [AllP, InR, List.nil_append, List.cons_append]; (repeat' apply And.intro); all_goals first | exact True.intro | omega | (intro w_ hw_; refine ldC U rfl hw_ ?_; first | assumption | (simp [add_plain]; assumption)) | (intro w_ hw_; refine run_load_cell U rfl ?_; first | exact hw_ | exact hw_.1 | exact hw_.2 | exact hw_.2.1 | exact hw_.2.2 | exact hw_.2.2.1 | exact hw_.2.2.2 | (simp [add_plain]; first | exact hw_.1 | exact hw_.2.1 | exact hw_.2.2))) ?_
            refine d1 rfl rfl (fun _ => hC) ?_
            have hr8 : Rd w8 a7 c7 (lim (O * S)) := ⟨heap_sl hh hr7.1, hr7.2.1, fun g hg => by rw [hh]; exact hr7.2.2 g hg⟩
            refine call (f := 44) rfl rfl cb44 (digits_calls (O * S) a7 c7 w8 hr8 (by omega) (ht7.new hg8)) ?_
            rintro v w9 ⟨rfl, hB9⟩
            refine ⟨_, rfl, d2 ?_⟩
            have hlt8 : ∀ {b t cs}, Bk w7 b t cs → b < w8.heap.size := fun h => by rw [hh]; exact h.lt
            have hkX9 := (heap_bk hh h9).below hB9 (hlt8 h9)
            have hkX5 := (heap_bk hh h5).below hB9 (hlt8 h5)
            have hkX10 := (heap_bk hh h10).below hB9 (hlt8 h10)
            have hkXt := (heap_bk hh h10t).below hB9 (hlt8 h10t)
            have hrX := hr8.below hB9
            have hrXS : Rd w9 sa cs (lim S) := Rd.below (w := w8) ⟨heap_sl hh hrS7.1, hrS7.2.1, fun g hg => by rw [hh]; exact hrS7.2.2 g hg⟩ hB9
            have htX := (ht7.new hg8).below hB9
            have hB8 := hB7'.grown hg8 hB7'.size (fun k e => by cases e)
            have hBX := bl_tr hB8 hB9 hB8.size
            have hnX : ∀ g, ab a7 = some g → g ≠ b9 ∧ g ≠ b10 := fun g hg => by have := hb7 g hg; omega
            have hC9 : w9.cell? ⟨b10, 0, none⟩ = some (.bool true) ∧ w9.cell? ⟨b5, 0, none⟩ = some (.int .i64 (limit : Nat)) := ⟨hkXt.cell rfl, hkX5.cell rfl⟩
            refine d1 rfl rfl (fun _ => hC9) ?_
            refine cS rfl rfl rfl rfl (fun hq => ?_) (fun hq => ?_)
            · refine d2 ?_
              refine d1 rfl rfl (fun _ => hC9) ?_
              refine dr U 600 rfl trivial ?_
              refine d3 ?_; refine dend rfl (fun h => by cases h) ?_
              refine dr U 600 rfl trivial ?_
              have hno : ¬ nDigits (p ^ n) ≤ limit := fun h => by have := nD_mono hOS; omega
              refine ret Tryd.results22 rfl ⟨_, rfl, .slice none 0 0, by rw [decide_eq_false hno]; rfl, fun h => absurd h hno, hBX⟩
            · refine d2 ?_
              refine d1 rfl rfl (fun _ => hC9) ?_
              refine dr U 600 rfl trivial ?_
              refine d3 ?_; refine dend rfl (fun h => by cases h) ?_
              have hdX : nDigits (O * S) ≤ limit := by omega
              have hOX : 0 < O * S := by omega
              refine dr U 600 rfl (by first | exact True.intro | (simp only [AllP, InR, List.nil_append, List.cons_append, and_true]; omega)) ?_
              refine shr1 mu 1 rfl rfl (by omega) rfl rfl ?_
              rw [Nat.pow_one]
              refine dr U 600 rfl trivial ?_
              refine cS rfl rfl rfl rfl (fun hq => ?_) (fun hq => ?_)
              · have hm0 : mu / 2 = 0 := by omega
                rw [hm0, Nat.pow_zero, Nat.mul_one] at hst
                refine dr U 600 rfl trivial ?_
                refine ret Tryd.results22 rfl ⟨_, rfl, .slice a7 (lim (O*S)).length c7, by rw [hst, decide_eq_true hdX]; rfl, fun _ => ⟨a7, c7, by rw [hst], by rw [hst]; exact hrX⟩, hBX⟩
              · have hm0 : 0 < mu / 2 := by omega
                have hge : S ≤ p ^ n := by
                  rw [hst]
                  have h1 : S * S ≤ (S * S) ^ (mu / 2) := by
                    have : (S * S) ^ 1 ≤ (S * S) ^ (mu / 2) := Nat.pow_le_pow_right (Nat.mul_pos (by omega) (by omega)) hm0
                    rwa [Nat.pow_one] at this
                  have h2 : S * 1 ≤ S * S := Nat.mul_le_mul_left _ (by omega)
                  have h3 : 1 * (S * S) ^ (mu / 2) ≤ (O*S) * (S * S) ^ (mu / 2) := Nat.mul_le_mul_right _ hOX
                  omega
                refine dr U 600 rfl trivial ?_
                by_cases hf2 : nDigits S ≤ limit
                · have hkt := hkX10
                  rw [decide_eq_true hf2] at hkt
                  refine ld U rfl rfl rfl rfl ((hkt).cell rfl) ?_
                  refine dr U 600 rfl trivial ?_
                  have hdc := double_calls S limit b9 b5 b10 sa cs true w9 (by omega) (by omega) (by omega) hkX9 hkX5 hkt hrXS (by omega) hlim htX
                  refine call (f := 43) rfl rfl cb43 hdc ?_
                  rintro v wY ⟨rfl, hOth, ⟨a', c', hk9', hr', hb'⟩, hk10'⟩
                  refine ⟨_, rfl, ?_⟩
                  refine dr U 600 rfl trivial ?_
                  have hBXs := hBX.size
                  refine rend _ (mu / 2) ⟨(O*S), S * S, a7, c7, a', c', rfl, by omega, by omega, hst.symm, hOX, Nat.le_trans hS (Nat.le_mul_of_pos_right _ (by omega)), hdX, by have := nD_mul S S; omega,
                    hOth.rd hrX (fun g hg => by have := hnX g hg; simp; omega), hnX, hk9', hr', hOth.bk hkX5 (by simp; omega), hk10', hOth.tab htX (by simp; omega),
                    bl_tr hBX (hOth.below (Nat.le_refl w9.heap.size |> fun _ => hBXs) (fun b hb => by simp at hb; rcases hb with rfl | rfl <;> omega)) (Nat.le_refl _)⟩ (by omega) ⟨rfl, rfl, rfl, rfl, rfl, rfl, trivial⟩
                · have hkt := hkX10
                  rw [decide_eq_false hf2] at hkt
                  refine ld U rfl rfl rfl rfl ((hkt).cell rfl) ?_
                  refine dr U 600 rfl trivial ?_
                  have hno : ¬ nDigits (p ^ n) ≤ limit := fun h => hf2 (Nat.le_trans (nD_mono hge) h)
                  refine ret Tryd.results22 rfl ⟨_, rfl, .slice none 0 0, by rw [decide_eq_false hno]; rfl, fun h => absurd h hno, hBX⟩
          · have h10t := h10
            rw [decide_eq_false hf] at h10t
            have hq10 := h10t.cell (off := 0) rfl
            refine dwn 7 (fun w' => w'.heap = w7.heap) hmo ?_
            intro w8 hh hg8
            refine dq U [0,1,2,3,4,5,6] [(0, .bool false)] (by kernel_rfl) rfl rfl hh (by simp only [AllP, InR, List.nil_append, List.cons_append]; (repeat' apply And.intro); all_goals first | exact True.intro | omega | (intro w_ hw_; refine ldC U rfl hw_ ?_; first | assumption | (simp [add_plain]; assumption)) | (intro w_ hw_; refine run_load_cell U rfl ?_; first | exact hw_ | exact hw_.1 | exact hw_.2 | exact hw_.2.1 | exact hw_.2.2 | exact hw_.2.2.1 | exact hw_.2.2.2 | (simp [add_plain]; first | exact hw_.1 | exact hw_.2.1 | exact hw_.2.2))) ?_
            refine d1 rfl rfl (fun _ => hh) ?_
            refine dr U 600 rfl trivial ?_
            refine d3 ?_; refine dend rfl (fun h => by cases h) ?_
            refine dr U 600 rfl trivial ?_
            have hno : ¬ nDigits (p ^ n) ≤ limit := fun h => hf (Nat.le_trans (nD_mono (Nat.le_trans hSOS hOS)) h)
            refine ret Tryd.results22 rfl ⟨_, rfl, .slice none 0 0, by rw [decide_eq_false hno]; rfl, fun h => absurd h hno, hB7'.grown hg8 hB7'.size (fun k e => by cases e)⟩
        · have hodd : ¬ mu % 2 = 1 := by omega
          rw [if_neg hodd] at hst
          have hlt10 := hk10.lt
          have hlt9 := hk9.lt
          refine dr U 600 rfl (by first | exact True.intro | (simp only [AllP, InR, List.nil_append, List.cons_append, and_true]; omega)) ?_
          refine shr1 mu 1 rfl rfl (by omega) rfl rfl ?_
          rw [Nat.pow_one]
          refine dr U 600 rfl trivial ?_
          refine cS rfl rfl rfl rfl (fun hq => ?_) (fun hq => ?_)
          · have hm0 : mu / 2 = 0 := by omega
            rw [hm0, Nat.pow_zero, Nat.mul_one] at hst
            refine dr U 600 rfl trivial ?_
            refine ret Tryd.results22 rfl ⟨_, rfl, .slice ao (lim O).length co, by rw [hst, decide_eq_true hdO]; rfl, fun _ => ⟨ao, co, by rw [hst], by rw [hst]; exact hrO⟩, hB⟩
          · have hm0 : 0 < mu / 2 := by omega
            have hge : S ≤ p ^ n := by
              rw [hst]
              have h1 : S * S ≤ (S * S) ^ (mu / 2) := by
                have : (S * S) ^ 1 ≤ (S * S) ^ (mu / 2) := Nat.pow_le_pow_right (Nat.mul_pos (by omega) (by omega)) hm0
                rwa [Nat.pow_one] at this
              have h2 : S * 1 ≤ S * S := Nat.mul_le_mul_left _ (by omega)
              have h3 : 1 * (S * S) ^ (mu / 2) ≤ O * (S * S) ^ (mu / 2) := Nat.mul_le_mul_right _ hO
              omega
            refine dr U 600 rfl trivial ?_
            by_cases hf2 : nDigits S ≤ limit
            · have hkt := hk10
              rw [decide_eq_true hf2] at hkt
              refine ld U rfl rfl rfl rfl ((hkt).cell rfl) ?_
              refine dr U 600 rfl trivial ?_
              have hdc := double_calls S limit b9 b5 b10 sa cs true l_w (by omega) (by omega) (by omega) hk9 hk5 hkt hrS (by omega) hlim ht'
              refine call (f := 43) rfl rfl cb43 hdc ?_
              rintro v wY ⟨rfl, hOth, ⟨a', c', hk9', hr', hb'⟩, hk10'⟩
              refine ⟨_, rfl, ?_⟩
              refine dr U 600 rfl trivial ?_
              have hBXs := hB.size
              refine rend _ (mu / 2) ⟨O, S * S, ao, co, a', c', rfl, by omega, by omega, hst.symm, hO, Nat.le_trans hS (Nat.le_mul_of_pos_right _ (by omega)), hdO, by have := nD_mul S S; omega,
                hOth.rd hrO (fun g hg => by have := hnO g hg; simp; omega), hnO, hk9', hr', hOth.bk hk5 (by simp; omega), hk10', hOth.tab ht' (by simp; omega),
                bl_tr hB (hOth.below (Nat.le_refl l_w.heap.size |> fun _ => hBXs) (fun b hb => by simp at hb; rcases hb with rfl | rfl <;> omega)) (Nat.le_refl _)⟩ (by omega) ⟨rfl, rfl, rfl, rfl, rfl, rfl, trivial⟩
            · have hkt := hk10
              rw [decide_eq_false hf2] at hkt
              refine ld U rfl rfl rfl rfl ((hkt).cell rfl) ?_
              refine dr U 600 rfl trivial ?_
              have hno : ¬ nDigits (p ^ n) ≤ limit := fun h => hf2 (Nat.le_trans (nD_mono hge) h)
              refine ret Tryd.results22 rfl ⟨_, rfl, .slice none 0 0, by rw [decide_eq_false hno]; rfl, fun h => absurd h hno, hB⟩
end Go.Proofs.YtnohojjjfconfaaDoor
