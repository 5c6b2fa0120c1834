/-
  Walks of package coin: parts, checked, sides, look, read, Draw, split, Late, possible, Law.
  Conditions: texts take fewer than 2^40 bytes; the library's table of powers of ten is laid.
-/
import Derived.Test.YtabplbmbnakalaaGreatDoorYQ
import Derived.Test.YtabplbmbnakalaaGreatDoorYLa
import Derived.Test.YtabplbmbnakalaaGreatDoorYSs
import Derived.Test.YtabplbmbnakalaaGreatDoorYPs
import Derived.Test.YtabplbmbnakalaaGreatDoorYBl
set_option linter.unusedSimpArgs false
set_option linter.unusedVariables false
set_option maxHeartbeats 1000000
namespace Go.Proofs.YtabplbmbnakalaaGreatDoor
open Go Go.Proofs Go.RowKit Go.Lib

theorem d_zero : decDigits 0 = [48] := by rw [decDigits_one (by omega)]; rfl
theorem d_one : decDigits 1 = [49] := by rw [decDigits_one (by omega)]; rfl
theorem dec_zero {n : Nat} : decDigits n = [48] ↔ n = 0 := by
  constructor
  · intro h; exact dec_inj (h.trans d_zero.symm)
  · rintro rfl; exact d_zero
theorem cmpN_gt {p q : Nat} : 0 < cmpN p q ↔ q < p := by
  unfold cmpN
  split
  · constructor <;> intro h <;> omega
  · split
    · constructor <;> intro h <;> omega
    · constructor <;> intro h <;> omega
/-- The numerator and the denominator of a text. -/
abbrev qN (s : List UInt8) : Nat := dval (qn s)
abbrev qD (s : List UInt8) : Nat := dval (qd s)
/-- The error of a probability. -/
def PErr (s : List UInt8) (e : Int) : Prop :=
  (e ≠ 0 ∧ QErr s e) ∨ (QErr s 0 ∧ (qneg s = true ∨ qD s < qN s) ∧ e = 2) ∨
  (QErr s 0 ∧ qneg s = false ∧ qN s ≤ qD s ∧ (1000 < (qn s).length ∨ 1000 < (qd s).length) ∧ e = 5) ∨
  (QErr s 0 ∧ qneg s = false ∧ qN s ≤ qD s ∧ (qn s).length ≤ 1000 ∧ (qd s).length ≤ 1000 ∧ e = 0)
theorem PErr.uniq {s : List UInt8} {e f : Int} (h : PErr s e) (h' : PErr s f) : e = f := by
  rcases h with ⟨h1, h2⟩ | ⟨h1, h2, rfl⟩ | ⟨h1, h2, h3, h4, rfl⟩ | ⟨h1, h2, h3, h4, h5, rfl⟩ <;>
    rcases h' with ⟨g1, g2⟩ | ⟨g1, g2, rfl⟩ | ⟨g1, g2, g3, g4, rfl⟩ | ⟨g1, g2, g3, g4, g5, rfl⟩ <;> first
    | rfl
    | exact h2.uniq g2
    | exact absurd (h2.uniq g1) h1
    | exact absurd (g2.uniq h1) g1
    | (exfalso; rcases h2 with h | h <;> first | (rw [h] at g2; cases g2) | omega)
    | (exfalso; rcases g2 with h | h <;> first | (rw [h] at h2; cases h2) | omega)
    | (exfalso; omega)
theorem PErr.ok {s : List UInt8} (h : PErr s 0) : QErr s 0 ∧ qneg s = false ∧ qN s ≤ qD s ∧ (qn s).length ≤ 1000 ∧ (qd s).length ≤ 1000 := by
  rcases h with ⟨h, _⟩ | ⟨_, _, h⟩ | ⟨_, _, _, _, h⟩ | ⟨h1, h2, h3, h4, h5, _⟩
  · exact absurd rfl h
  · cases h
  · cases h
  · exact ⟨h1, h2, h3, h4, h5⟩
theorem form_num {l : List UInt8} {k : Nat} (h : Form l) (hl : l.length ≤ k) : Num k l (dval l) := by
  have e := dec_of h.2.2 h.1 h.2.1
  exact ⟨e, by rw [← decDigits_length, ← e]; exact hl⟩
theorem qn_pos {s : List UInt8} (h : qneg s = false) : qn s = qpre s := by unfold qn; rw [h]; rfl
theorem PErr.nums {s : List UInt8} (h : PErr s 0) : Num 1000 (qpre s) (qN s) ∧ Num 1000 (qd s) (qD s) ∧ 0 < qD s ∧ qN s ≤ qD s := by
  obtain ⟨h1, h2, h3, h4, h5⟩ := h.ok
  obtain ⟨hQ, _⟩ := h1.ok
  refine ⟨?_, form_num (qd_form hQ) h5, Nat.pos_of_ne_zero (qd_pos hQ), h3⟩
  rw [← qn_pos h2]; exact form_num hQ.1 h4
/-- What parts answers. -/
def PartR (s : List UInt8) (v : Value) : Prop :=
  (∃ e, e ≠ 0 ∧ PErr s e ∧ v = .tuple ⟨[.string ⟨⟨[]⟩⟩, .string ⟨⟨[]⟩⟩, .int .i64 e]⟩) ∨ (PErr s 0 ∧ v = .tuple ⟨[.string ⟨⟨qpre s⟩⟩, .string ⟨⟨qd s⟩⟩, .int .i64 0]⟩)

theorem parts_calls (s : List UInt8) (hs : s.length ≤ 1099511627776) (w : World) :
    Calls Tryz.prog 25 #[.string ⟨⟨s⟩⟩] w (Ret fun v w' => PartR s v ∧ Below w.heap.size w w') := by
  refine enter Tryz.func25 rfl Tryz.ntmps25 (Nat.le_of_ble_eq_true rfl) ?_
  refine dr U 600 rfl trivial ?_
  refine call (f := 52) rfl rfl cb52 (ratparts_calls s hs w) ?_
  rintro v w1 ⟨hr, hB1⟩
  rcases hr with ⟨e, h0, hqe, rfl⟩ | ⟨hqe, rfl⟩
  · refine ⟨_, rfl, ?_⟩
    refine dr U 600 rfl trivial ?_
    refine cT rfl rfl rfl (h0) ?_; refine dr U 600 rfl trivial ?_
    exact ret Tryz.results25 rfl ⟨_, rfl, .inl ⟨e, h0, .inl ⟨h0, hqe⟩, rfl⟩, hB1⟩
  · obtain ⟨hQ, hl1, hl2, hg⟩ := hqe.ok
    refine ⟨_, rfl, ?_⟩
    refine dr U 600 rfl trivial ?_
    refine cF rfl rfl rfl (fun h => h rfl) ?_
    have hne : 0 < (qpre s).length := by
      have h1 : 0 < (qn s).length := List.length_pos_iff.2 hQ.1.1
      by_cases hng : qneg s = true
      · unfold qneg at hng
        cases hp : qpre s with
        | nil => rw [hp] at hng; simp at hng
        | cons c t => simp
      · rw [← qn_pos (by simpa using hng)]; exact h1
    have hhd : ((qpre s).getD 0 0 = 45) ↔ qneg s = true := by
      unfold qneg
      cases hp : qpre s with
      | nil => rw [hp] at hne; simp at hne
      | cons c t => simp
    refine dr U 600 rfl (by first | exact True.intro | (simp only [AllP, InR, List.nil_append, List.cons_append, and_true]; omega)) ?_
    refine cS rfl rfl rfl rfl (fun hq1 => ?_) (fun hq1 => ?_)
    · have hng : qneg s = true := hhd.1 (UInt8.toNat_inj.1 (show ((qpre s).getD 0 0).toNat = 45 from by exact_mod_cast hq1))
      refine dr U 600 rfl trivial ?_
      exact ret Tryz.results25 rfl ⟨_, rfl, .inl ⟨2, by decide, .inr (.inl ⟨hqe, .inl hng, rfl⟩), rfl⟩, hB1⟩
    · have hng : qneg s = false := by
        cases h : qneg s with
        | false => rfl
        | true => exact absurd (show (((qpre s).getD 0 0).toNat : Int) = 45 from by rw [hhd.2 h]; rfl) hq1
      have hnum : Num 4000 (qpre s) (qN s) := by rw [← qn_pos hng]; exact form_num hQ.1 hl1
      have hden : Num 4000 (qd s) (qD s) := form_num (qd_form hQ) hl2
      refine dr U 600 rfl trivial ?_
      refine call (f := 53) rfl rfl cb53 (ncmp_calls hnum hden (by omega) (by omega) w1) ?_
      rintro v w2 ⟨rfl, hB2⟩
      refine ⟨_, rfl, ?_⟩
      have hB2' := bl_tr hB1 hB2 hB1.size
      refine cS rfl rfl rfl rfl (fun hq2 => ?_) (fun hq2 => ?_)
      · refine dr U 600 rfl trivial ?_
        exact ret Tryz.results25 rfl ⟨_, rfl, .inl ⟨2, by decide, .inr (.inl ⟨hqe, .inr (cmpN_gt.1 hq2), rfl⟩), rfl⟩, hB2'⟩
      · have hle : qN s ≤ qD s := by
          rcases Nat.lt_or_ge (qD s) (qN s) with h | h
          · exact absurd (cmpN_gt.2 h) hq2
          · exact h
        have hqn := qn_pos hng
        refine dr U 600 rfl trivial ?_
        refine cS rfl rfl rfl rfl (fun hq3 => ?_) (fun hq3 => ?_)
        · refine dr U 600 rfl trivial ?_
          exact ret Tryz.results25 rfl ⟨_, rfl, .inl ⟨5, by decide, .inr (.inr (.inl ⟨hqe, hng, hle, .inl (by rw [hqn]; omega), rfl⟩)), rfl⟩, hB2'⟩
        · refine dr U 600 rfl trivial ?_
          refine cS rfl rfl rfl rfl (fun hq4 => ?_) (fun hq4 => ?_)
          · refine dr U 600 rfl trivial ?_
            exact ret Tryz.results25 rfl ⟨_, rfl, .inl ⟨5, by decide, .inr (.inr (.inl ⟨hqe, hng, hle, .inr (by omega), rfl⟩)), rfl⟩, hB2'⟩
          · refine dr U 600 rfl trivial ?_
            exact ret Tryz.results25 rfl ⟨_, rfl, .inr ⟨.inr (.inr (.inr ⟨hqe, hng, hle, by rw [hqn]; omega, by omega, rfl⟩)), rfl⟩, hB2'⟩

theorem cchecked_calls (l : List UInt8) (hl : l.length ≤ 1099511627776) (w : World) :
    Calls Tryz.prog 26 #[.string ⟨⟨l⟩⟩] w (Ret fun v w' => (∃ e, v = .int .i64 e ∧ SChk l e) ∧ Below w.heap.size w w') := by
  refine enter Tryz.func26 rfl Tryz.ntmps26 (Nat.le_of_ble_eq_true rfl) ?_
  refine dr U 600 rfl trivial ?_
  refine call (f := 54) rfl rfl cb54 (bcheck_calls l hl w) ?_
  rintro v w1 ⟨⟨e, rfl, he⟩, hB⟩
  refine ⟨_, rfl, ?_⟩
  refine dr U 600 rfl trivial ?_
  refine cS rfl rfl rfl rfl (fun hq => ?_) (fun hq => ?_)
  · refine dr U 600 rfl trivial ?_
    rcases he with ⟨_, h⟩ | ⟨h1, rfl⟩
    · exact absurd h hq
    · exact ret Tryz.results26 rfl ⟨_, rfl, ⟨_, rfl, .inr (.inr ⟨h1, rfl⟩)⟩, hB⟩
  · obtain ⟨h1, _⟩ | ⟨_, rfl⟩ := he
    · refine dr U 600 rfl trivial ?_
      refine cS rfl rfl rfl rfl (fun hq => ?_) (fun hq => ?_)
      · refine dr U 600 rfl trivial ?_
        exact ret Tryz.results26 rfl ⟨_, rfl, ⟨_, rfl, .inr (.inl ⟨h1, by omega, rfl⟩)⟩, hB⟩
      · refine dr U 600 rfl trivial ?_
        exact ret Tryz.results26 rfl ⟨_, rfl, ⟨_, rfl, .inl ⟨h1, by omega, rfl⟩⟩, hB⟩
    · exact absurd (by decide) hq

theorem cplus_calls (m n : Nat) (hm : nDigits m ≤ 3999) (hn : nDigits n ≤ 3999) (w : World) (ht : TabOk w) :
    Calls Tryz.prog 57 #[.string ⟨⟨decDigits m⟩⟩, .string ⟨⟨decDigits n⟩⟩] w (Ret fun v w' => v = .string ⟨⟨decDigits (m + n)⟩⟩ ∧ Below w.heap.size w w') := by
  refine enter Tryz.func57 rfl Tryz.ntmps57 (Nat.le_of_ble_eq_true rfl) ?_
  refine dr U 600 rfl trivial ?_
  refine call (f := 92) rfl rfl cb92 (nadd_calls (⟨rfl, hm⟩ : Num _ _ m) (⟨rfl, hn⟩ : Num _ _ n) (by omega) (by omega) w ht) ?_
  rintro v w1 ⟨rfl, hB⟩
  refine ⟨_, rfl, ?_⟩
  refine dr U 600 rfl trivial ?_
  exact ret Tryz.results57 rfl ⟨_, rfl, rfl, hB⟩
theorem cplus1_calls (m : Nat) (hm : nDigits m ≤ 3999) (w : World) (ht : TabOk w) :
    Calls Tryz.prog 57 #[.string ⟨⟨decDigits m⟩⟩, .string ⟨⟨[49]⟩⟩] w (Ret fun v w' => v = .string ⟨⟨decDigits (m + 1)⟩⟩ ∧ Below w.heap.size w w') := by
  have h := cplus_calls m 1 hm (by rw [nDigits_small (by omega)]; omega) w ht
  rw [d_one] at h; exact h
theorem ctimes_calls (m n : Nat) (h : nDigits m + nDigits n ≤ 4000) (w : World) (ht : TabOk w) :
    Calls Tryz.prog 56 #[.string ⟨⟨decDigits m⟩⟩, .string ⟨⟨decDigits n⟩⟩] w (Ret fun v w' => v = .string ⟨⟨decDigits (m * n)⟩⟩ ∧ Below w.heap.size w w') := by
  refine enter Tryz.func56 rfl Tryz.ntmps56 (Nat.le_of_ble_eq_true rfl) ?_
  refine dr U 600 rfl trivial ?_
  refine call (f := 91) rfl rfl cb91 (nmul_calls (⟨rfl, Nat.le_refl _⟩ : Num _ _ m) (⟨rfl, Nat.le_refl _⟩ : Num _ _ n) h w ht) ?_
  rintro v w1 ⟨rfl, hB⟩
  refine ⟨_, rfl, ?_⟩
  refine dr U 600 rfl trivial ?_
  exact ret Tryz.results56 rfl ⟨_, rfl, rfl, hB⟩

/-- What a side answers. -/
def sideV (N D k two : Nat) : Value := if N * two ≤ k * D then .tuple ⟨[.int .i64 0, .bool true]⟩ else .tuple ⟨[.int .i64 1, .bool (decide (k * D + D ≤ N * two))]⟩
theorem cmpN_le {p q : Nat} : cmpN p q ≤ 0 ↔ p ≤ q := by
  have := @cmpN_gt p q
  constructor
  · intro h
    rcases Nat.lt_or_ge q p with h1 | h1
    · have := this.2 h1; omega
    · exact h1
  · intro h
    rcases Int.lt_or_le 0 (cmpN p q) with h1 | h1
    · have := this.1 h1; omega
    · exact h1
theorem side_calls (N D k two : Nat) (hN : nDigits N ≤ 1000) (hD : nDigits D ≤ 1000) (hk : nDigits k ≤ 78) (h2 : nDigits two ≤ 78) (b2 b3 : Nat) (w : World) (ht : TabOk w)
    (hb2 : Bk w b2 22 [.string ⟨⟨decDigits N⟩⟩]) (hb3 : Bk w b3 22 [.string ⟨⟨decDigits D⟩⟩]) :
    Calls Tryz.prog 55 #[.string ⟨⟨decDigits k⟩⟩, .string ⟨⟨decDigits two⟩⟩, .pointer (some ⟨b2, 0, none⟩), .pointer (some ⟨b3, 0, none⟩)] w (Ret fun v w' => v = sideV N D k two ∧ Below w.heap.size w w') := by
  have hn2 := nD_mul N two
  have hkd := nD_mul k D
  refine enter Tryz.func55 rfl Tryz.ntmps55 (Nat.le_of_ble_eq_true rfl) ?_
  refine dr U 600 rfl trivial ?_
  refine dwn 7 (fun W => Bk W b2 22 [.string ⟨⟨decDigits N⟩⟩] ∧ Bk W b3 22 [.string ⟨⟨decDigits D⟩⟩]) hmo ?_
  intro w1 hh1 hg1
  have hB1 : Below w.heap.size w w1 := (Below.refl _ _).grown hg1 (Nat.le_refl _) (fun k e => by cases e)
  have hb2 := hb2.below hB1 hb2.lt
  have hb3 := hb3.below hB1 hb3.lt
  have ht := ht.below hB1
  refine dq U [0,1,3,4] [(0, .string ⟨⟨decDigits N⟩⟩), (4, .string ⟨⟨decDigits D⟩⟩)] (by kernel_rfl) rfl rfl ⟨hb2, hb3⟩ (by simp only [AllP, InR, List.nil_append, List.cons_append]; (repeat' apply And.intro); all_goals first | exact True.intro | omega | exact fun w h => run_load_cell U rfl (h.1.cell rfl) | exact fun w h => run_load_cell U rfl (h.2.cell rfl)) ?_
  refine d1 rfl rfl (fun _ => ⟨hb2, hb3⟩) ?_
  refine call (f := 56) rfl rfl cb56 (ctimes_calls N two (by omega) w1 ht) ?_
  rintro v w2 ⟨rfl, hB2⟩
  refine ⟨_, rfl, d2 ?_⟩
  have hB2' := bl_tr hB1 hB2 hB1.size
  have hb2 := hb2.below hB2 hb2.lt
  have hb3 := hb3.below hB2 hb3.lt
  have ht := ht.below hB2
  refine d1 rfl rfl (fun _ => ⟨hb2, hb3⟩) ?_
  refine call (f := 56) rfl rfl cb56 (ctimes_calls k D (by omega) w2 ht) ?_
  rintro v w3 ⟨rfl, hB3⟩
  refine ⟨_, rfl, d2 ?_⟩
  have hB3' := bl_tr hB2' hB3 hB2'.size
  have hb2 := hb2.below hB3 hb2.lt
  have hb3 := hb3.below hB3 hb3.lt
  have ht := ht.below hB3
  refine dq U [6] [] (by kernel_rfl) rfl rfl ⟨hb2, hb3⟩ (by simp only [AllP, InR, List.nil_append, List.cons_append]; (repeat' apply And.intro); all_goals first | exact True.intro | omega | (simp only [List.length_cons, List.length_nil]; omega) | (intro w_ hw_; refine ldC U rfl hw_ ?_; first | assumption | (simp [add_plain]; assumption)) | (intro w_ hw_; refine run_load_cell U rfl ?_; first | exact hw_ | exact hw_.1 | exact hw_.2 | exact hw_.2.1 | exact hw_.2.2 | exact hw_.2.2.1 | exact hw_.2.2.2 | (simp [add_plain]; first | exact hw_.1 | exact hw_.2.1 | exact hw_.2.2))) ?_
  refine d1 rfl rfl (fun _ => ⟨hb2, hb3⟩) ?_
  refine dr U 600 rfl trivial ?_
  refine d3 ?_; refine dend rfl (fun h => by cases h) ?_
  refine dr U 600 rfl trivial ?_
  refine call (f := 53) rfl rfl cb53 (ncmp_calls (⟨rfl, Nat.le_refl _⟩ : Num _ _ (N * two)) (⟨rfl, Nat.le_refl _⟩ : Num _ _ (k * D)) (by omega) (by omega) w3) ?_
  rintro v w4 ⟨rfl, hB4⟩
  refine ⟨_, rfl, ?_⟩
  have hB4' := bl_tr hB3' hB4 hB3'.size
  have hb3 := hb3.below hB4 hb3.lt
  have ht := ht.below hB4
  refine cS rfl rfl rfl rfl (fun hq => ?_) (fun hq => ?_)
  · refine dr U 600 rfl trivial ?_
    exact ret Tryz.results55 rfl ⟨_, rfl, by unfold sideV; rw [if_pos (cmpN_le.1 hq)]; rfl, hB4'⟩
  · have hno : ¬ N * two ≤ k * D := fun h => hq (cmpN_le.2 h)
    refine dr U 600 rfl trivial ?_
    refine ld U rfl rfl rfl rfl ((hb3).cell rfl) ?_
    refine call (f := 57) rfl rfl cb57 (cplus_calls (k * D) D (by omega) (by omega) w4 ht) ?_
    rintro v w5 ⟨rfl, hB5⟩
    refine ⟨_, rfl, ?_⟩
    have hB5' := bl_tr hB4' hB5 hB4'.size
    have hsum := nD_add (k * D) D 1078 (by omega) (by omega)
    refine dr U 600 rfl trivial ?_
    refine call (f := 53) rfl rfl cb53 (ncmp_calls (⟨rfl, Nat.le_refl _⟩ : Num _ _ (k * D + D)) (⟨rfl, Nat.le_refl _⟩ : Num _ _ (N * two)) (by omega) (by omega) w5) ?_
    rintro v w6 ⟨rfl, hB6⟩
    refine ⟨_, rfl, ?_⟩
    have hB6' := bl_tr hB5' hB6 hB5'.size
    refine cS rfl rfl rfl rfl (fun hq => ?_) (fun hq => ?_)
    · refine dr U 600 rfl trivial ?_
      exact ret Tryz.results55 rfl ⟨_, rfl, by unfold sideV; rw [if_neg hno, decide_eq_true (cmpN_le.1 hq)]; rfl, hB6'⟩
    · refine dr U 600 rfl trivial ?_
      exact ret Tryz.results55 rfl ⟨_, rfl, by unfold sideV; rw [if_neg hno, decide_eq_false (fun h => hq (cmpN_le.2 h))]; rfl, hB6'⟩

/-- The cells of a toss that is under way. -/
abbrev tsc (l : List UInt8) (u : Nat) (b2 b3 : Nat) (done : Bool) (val : Int) : List Value :=
  [.string ⟨⟨l⟩⟩, .string ⟨⟨decDigits (bval (l.take u))⟩⟩, .string ⟨⟨decDigits (2 ^ u)⟩⟩, .func (.func 55) #[] #[.pointer (some ⟨b2, 0, none⟩), .pointer (some ⟨b3, 0, none⟩)], .bool done, .int .i64 val, .int .i64 (u : Nat)]
theorem dcz_take {N D u : Nat} {l : List UInt8} (hu : u ≤ l.length) : dcz N D (l.take u) = dcd N D (bval (l.take u)) (2 ^ u) := by
  unfold dcz
  rw [List.length_take, Nat.min_eq_left hu]
theorem bv_dig {l : List UInt8} {u : Nat} (hu : u ≤ l.length) (hl : l.length ≤ 256) : nDigits (bval (l.take u)) ≤ 78 := nd_below (k := u) (by omega) (bval_lt _ _ (by rw [List.length_take]; omega))

/-- What look leaves. -/
def LookR (N D : Nat) (l : List UInt8) (u b2 b3 bt : Nat) (v : Value) (w : World) : Prop :=
  (∃ x : Nat, dcz N D (l.take u) = some x ∧ v = .nilFunc ∧ Bk w bt 61 (tsc l u b2 b3 true x)) ∨
  (dcz N D (l.take u) = none ∧ u = l.length ∧ v = .nilFunc ∧ Bk w bt 61 (tsc l u b2 b3 false 0)) ∨
  (dcz N D (l.take u) = none ∧ u < l.length ∧ v = .func (.func 58) #[.pointer (some ⟨bt, 0, none⟩)] #[] ∧ Bk w bt 61 (tsc l u b2 b3 false 0))

theorem look_calls (l : List UInt8) (N D u b2 b3 bt : Nat) (hl : l.length ≤ 256) (hu : u ≤ l.length) (hN : nDigits N ≤ 1000) (hD : nDigits D ≤ 1000) (hD0 : 0 < D) (w : World) (ht : TabOk w)
    (hkt : Bk w bt 61 (tsc l u b2 b3 false 0)) (hb2 : Bk w b2 22 [.string ⟨⟨decDigits N⟩⟩]) (hb3 : Bk w b3 22 [.string ⟨⟨decDigits D⟩⟩]) :
    Calls Tryz.prog 28 #[.pointer (some ⟨bt, 0, none⟩)] w (Ret fun v w' => LookR N D l u b2 b3 bt v w' ∧ Below bt w w') := by
  have hkd := bv_dig hu hl
  have h2d := nd_two u (by omega)
  have hdz := dcz_take (N := N) (D := D) hu
  refine enter Tryz.func28 rfl Tryz.ntmps28 (Nat.le_of_ble_eq_true rfl) ?_
  refine dr U 600 rfl trivial ?_
  refine dwn 17 (fun W => Bk W bt 61 (tsc l u b2 b3 false 0)) hmo ?_
  intro w1 hh1 hg1
  have hB1 : Below w.heap.size w w1 := (Below.refl _ _).grown hg1 (Nat.le_refl _) (fun k e => by cases e)
  have hblt := hkt.lt
  have hb2 := hb2.below hB1 hb2.lt
  have hb3 := hb3.below hB1 hb3.lt
  have hkt := hkt.below hB1 hkt.lt
  have ht := ht.below hB1
  refine dq U [0,1,2,3,4,5,6,7,8,9,10,11] [(3, .func (.func 55) #[] #[.pointer (some ⟨b2, 0, none⟩), .pointer (some ⟨b3, 0, none⟩)]), (7, .string ⟨⟨decDigits (bval (l.take u))⟩⟩), (11, .string ⟨⟨decDigits (2 ^ u)⟩⟩)] (by kernel_rfl) rfl rfl hkt (by simp only [AllP, InR, List.nil_append, List.cons_append]; (repeat' apply And.intro); all_goals first | exact True.intro | omega | exact fun w h => run_load_cell U rfl (h.cell rfl)) ?_
  refine d1 rfl rfl (fun _ => hkt) ?_
  refine call (f := 55) rfl rfl cb55 (side_calls N D (bval (l.take u)) (2 ^ u) hN hD hkd h2d b2 b3 w1 ht hb2 hb3) ?_
  rintro v w2 ⟨rfl, hB2⟩
  have hB2' := bl_tr hB1 hB2 hB1.size
  have hBt : Below bt w w2 := hB2'.mono (by omega)
  have hkt := hkt.below hB2 hkt.lt
  unfold sideV
  by_cases h0 : N * 2 ^ u ≤ bval (l.take u) * D
  · rw [if_pos h0]
    have hv := hdz.trans (dcd_zero.2 h0)
    refine ⟨_, rfl, d2 ?_⟩
    refine dq U [13,14,15,16] [] (by kernel_rfl) rfl rfl hkt (by simp only [AllP, InR, List.nil_append, List.cons_append]; (repeat' apply And.intro); all_goals first | exact True.intro | omega | (simp only [List.length_cons, List.length_nil]; omega) | (intro w_ hw_; refine ldC U rfl hw_ ?_; first | assumption | (simp [add_plain]; assumption)) | (intro w_ hw_; refine run_load_cell U rfl ?_; first | exact hw_ | exact hw_.1 | exact hw_.2 | exact hw_.2.1 | exact hw_.2.2 | exact hw_.2.2.1 | exact hw_.2.2.2 | (simp [add_plain]; first | exact hw_.1 | exact hw_.2.1 | exact hw_.2.2))) ?_
    refine d1 rfl rfl (fun _ => hkt) ?_
    refine dr U 600 rfl trivial ?_
    refine d3 ?_; refine dend rfl (fun h => by cases h) ?_
    refine dr U 600 rfl trivial ?_
    refine st U rfl rfl rfl rfl rfl rfl rfl rfl rfl rfl (hkt) ?_
    intro w5 hkt5 hg5 hs5
    refine dr U 600 rfl trivial ?_
    refine st U rfl rfl rfl rfl rfl rfl rfl rfl rfl rfl (hkt5) ?_
    intro w6 hkt6 hg6 hs6
    refine dr U 600 rfl trivial ?_
    exact ret Tryz.results28 rfl ⟨_, rfl, .inl ⟨0, hv, rfl, hkt6⟩, (hBt.grown hg5 (Nat.le_of_lt hkt.lt) (fun k e => by cases e; exact Nat.le_refl _)).grown hg6 (Nat.le_of_lt hkt5.lt) (fun k e => by cases e; exact Nat.le_refl _)⟩
  · rw [if_neg h0]
    by_cases h1 : bval (l.take u) * D + D ≤ N * 2 ^ u
    · rw [decide_eq_true h1]
      have hv := hdz.trans ((dcd_one hD0).2 h1)
      refine ⟨_, rfl, d2 ?_⟩
      refine dq U [13,14,15,16] [] (by kernel_rfl) rfl rfl hkt (by simp only [AllP, InR, List.nil_append, List.cons_append]; (repeat' apply And.intro); all_goals first | exact True.intro | omega | (simp only [List.length_cons, List.length_nil]; omega) | (intro w_ hw_; refine ldC U rfl hw_ ?_; first | assumption | (simp [add_plain]; assumption)) | (intro w_ hw_; refine run_load_cell U rfl ?_; first | exact hw_ | exact hw_.1 | exact hw_.2 | exact hw_.2.1 | exact hw_.2.2 | exact hw_.2.2.1 | exact hw_.2.2.2 | (simp [add_plain]; first | exact hw_.1 | exact hw_.2.1 | exact hw_.2.2))) ?_
      refine d1 rfl rfl (fun _ => hkt) ?_
      refine dr U 600 rfl trivial ?_
      refine d3 ?_; refine dend rfl (fun h => by cases h) ?_
      refine dr U 600 rfl trivial ?_
      refine st U rfl rfl rfl rfl rfl rfl rfl rfl rfl rfl (hkt) ?_
      intro w5 hkt5 hg5 hs5
      refine dr U 600 rfl trivial ?_
      refine st U rfl rfl rfl rfl rfl rfl rfl rfl rfl rfl (hkt5) ?_
      intro w6 hkt6 hg6 hs6
      refine dr U 600 rfl trivial ?_
      exact ret Tryz.results28 rfl ⟨_, rfl, .inl ⟨1, hv, rfl, hkt6⟩, (hBt.grown hg5 (Nat.le_of_lt hkt.lt) (fun k e => by cases e; exact Nat.le_refl _)).grown hg6 (Nat.le_of_lt hkt5.lt) (fun k e => by cases e; exact Nat.le_refl _)⟩
    · rw [decide_eq_false h1]
      have hv : dcz N D (l.take u) = none := by rw [hdz]; unfold dcd; rw [if_neg h0, if_neg h1]
      refine ⟨_, rfl, d2 ?_⟩
      refine dq U [13,14,15,16] [] (by kernel_rfl) rfl rfl hkt (by simp only [AllP, InR, List.nil_append, List.cons_append]; (repeat' apply And.intro); all_goals first | exact True.intro | omega | (simp only [List.length_cons, List.length_nil]; omega) | (intro w_ hw_; refine ldC U rfl hw_ ?_; first | assumption | (simp [add_plain]; assumption)) | (intro w_ hw_; refine run_load_cell U rfl ?_; first | exact hw_ | exact hw_.1 | exact hw_.2 | exact hw_.2.1 | exact hw_.2.2 | exact hw_.2.2.1 | exact hw_.2.2.2 | (simp [add_plain]; first | exact hw_.1 | exact hw_.2.1 | exact hw_.2.2))) ?_
      refine d1 rfl rfl (fun _ => hkt) ?_
      refine dr U 600 rfl trivial ?_
      refine d3 ?_; refine dend rfl (fun h => by cases h) ?_
      refine dr U 600 rfl trivial ?_
      refine dwn 10 (fun W => Bk W bt 61 (tsc l u b2 b3 false 0)) hmo ?_
      intro w3 hh3 hg3
      have hkt3 := heap_bk hh3 hkt
      have hBt3 := hBt.grown hg3 (Nat.le_of_lt hkt.lt) (fun k e => by cases e)
      refine dq U [0,1,2,3,4,5,6,7,8,9] [(4, .int .i64 (u : Nat)), (8, .string ⟨⟨l⟩⟩)] (by kernel_rfl) rfl rfl hkt3 (by simp only [AllP, InR, List.nil_append, List.cons_append]; (repeat' apply And.intro); all_goals first | exact True.intro | omega | exact fun w h => run_load_cell U rfl (h.cell rfl)) ?_
      refine d1 rfl rfl (fun _ => hkt3) ?_
      refine cS rfl rfl rfl rfl (fun hq => ?_) (fun hq => ?_)
      · refine d2 ?_; refine dend rfl (fun h => by cases h) ?_
        refine dr U 600 rfl trivial ?_
        exact ret Tryz.results28 rfl ⟨_, rfl, .inr (.inl ⟨hv, by omega, rfl, hkt3⟩), hBt3⟩
      · refine d2 ?_; refine dend rfl (fun h => by cases h) ?_
        refine dr U 600 rfl trivial ?_
        exact ret Tryz.results28 rfl ⟨_, rfl, .inr (.inr ⟨hv, by omega, rfl, hkt3⟩), hBt3⟩

set_option maxRecDepth 100000 in
theorem read2_calls (l : List UInt8) (u b2 b3 bt : Nat) (hl : l.length ≤ 256) (hu : u < l.length) (w W : World) (htW : TabOk W) (hWb : W.heap.size ≤ bt) (hBW : Below W.heap.size W w) (hkt : Bk w bt 61 (tsc l u b2 b3 false 0)) :
    Calls Tryz.prog 58 #[.pointer (some ⟨bt, 0, none⟩)] w
      (Ret fun v w' => (v = .func (.func 28) #[.pointer (some ⟨bt, 0, none⟩)] #[] ∧ Bk w' bt 61 (tsc l (u + 1) b2 b3 false 0)) ∧ Below bt w w') := by
  have hkd := bv_dig (Nat.le_of_lt hu) hl
  have h2d := nd_two u (by omega)
  have hgd : l.getD u 0 = l[u] := by simp [List.getD, hu]
  have ht := htW.below hBW
  refine enter Tryz.func58 rfl Tryz.ntmps58 (Nat.le_of_ble_eq_true rfl) ?_
  refine dr U 600 rfl trivial ?_
  refine dwn 22 (fun W => Bk W bt 61 (tsc l u b2 b3 false 0)) hmo ?_
  intro w1 hh1 hg1
  have hB1 : Below w.heap.size w w1 := (Below.refl _ _).grown hg1 (Nat.le_refl _) (fun k e => by cases e)
  have hblt := hkt.lt
  have hkt := hkt.below hB1 hkt.lt
  have ht := ht.below hB1
  refine dq U [0,1,2,3,4,5,6,7,8,9,11,12,13,14,15,16,17,18] [(5, .string ⟨⟨decDigits (bval (l.take u))⟩⟩), (9, .string ⟨⟨decDigits (bval (l.take u))⟩⟩), (14, .string ⟨⟨decDigits (2 ^ u)⟩⟩), (18, .string ⟨⟨decDigits (2 ^ u)⟩⟩)] (by kernel_rfl) rfl rfl hkt (by simp only [AllP, InR, List.nil_append, List.cons_append]; (repeat' apply And.intro); all_goals first | exact True.intro | omega | exact fun w h => run_load_cell U rfl (h.cell rfl)) ?_
  refine d1 rfl rfl (fun _ => hkt) ?_
  refine call (f := 57) rfl rfl cb57 (cplus_calls _ _ (by omega) (by omega) w1 ht) ?_
  rintro v w2 ⟨rfl, hB2⟩
  refine ⟨_, rfl, d2 ?_⟩
  have hB2' := bl_tr hB1 hB2 hB1.size
  have hkt := hkt.below hB2 hkt.lt
  have ht := ht.below hB2
  refine d1 rfl rfl (fun _ => hkt) ?_
  refine call (f := 57) rfl rfl cb57 (cplus_calls _ _ (by omega) (by omega) w2 ht) ?_
  rintro v w3 ⟨rfl, hB3⟩
  refine ⟨_, rfl, d2 ?_⟩
  have hB3' := bl_tr hB2' hB3 hB2'.size
  have hBt : Below bt w w3 := hB3'.mono (by omega)
  have hkt := hkt.below hB3 hkt.lt
  have ht := ht.below hB3
  refine dq U [20,21] [] (by kernel_rfl) rfl rfl hkt (by simp only [AllP, InR, List.nil_append, List.cons_append]; (repeat' apply And.intro); all_goals first | exact True.intro | omega | (simp only [List.length_cons, List.length_nil]; omega) | (intro w_ hw_; refine ldC U rfl hw_ ?_; first | assumption | (simp [add_plain]; assumption)) | (intro w_ hw_; refine run_load_cell U rfl ?_; first | exact hw_ | exact hw_.1 | exact hw_.2 | exact hw_.2.1 | exact hw_.2.2 | exact hw_.2.2.1 | exact hw_.2.2.2 | (simp [add_plain]; first | exact hw_.1 | exact hw_.2.1 | exact hw_.2.2))) ?_
  refine d1 rfl rfl (fun _ => hkt) ?_
  refine st U rfl rfl rfl rfl rfl rfl rfl rfl rfl rfl (hkt) ?_
  intro w4 hkt4 hg4 hs4
  have hBt4 := hBt.grown hg4 (Nat.le_of_lt hkt.lt) (fun k e => by cases e; exact Nat.le_refl _)
  have hsz4 := hkt.lt
  refine d2 ?_
  refine d1 rfl rfl (fun h => by cases h) ?_
  refine dr U 600 rfl trivial ?_
  refine d3 ?_
  refine d1 rfl rfl (fun h => by cases h) ?_
  refine dr U 600 rfl trivial ?_
  refine d3 ?_
  refine d1 rfl rfl (fun h => by cases h) ?_
  refine st U rfl rfl rfl rfl rfl rfl rfl rfl rfl rfl (hkt4) ?_
  intro w5 hkt5 hg5 hs5
  have hBt5 := hBt4.grown hg5 (by omega) (fun k e => by cases e; exact Nat.le_refl _)
  refine d2 ?_; refine dend rfl (fun h => by cases h) ?_
  refine dr U 600 rfl trivial ?_
  refine dwn 10 (fun W => Bk W bt 61 [.string ⟨⟨l⟩⟩, .string ⟨⟨decDigits (bval (l.take u) + bval (l.take u))⟩⟩, .string ⟨⟨decDigits (2 ^ u + 2 ^ u)⟩⟩, .func (.func 55) #[] #[.pointer (some ⟨b2, 0, none⟩), .pointer (some ⟨b3, 0, none⟩)], .bool false, .int .i64 0, .int .i64 (u : Nat)]) hmo ?_
  intro w6 hh6 hg6
  have hkt6 := heap_bk hh6 hkt5
  have hBt6 := hBt5.grown hg6 (by omega) (fun k e => by cases e)
  have hs6 : w6.heap.size = w5.heap.size := by rw [hh6]
  have ht6 : TabOk w6 := htW.below (hBW.trans (hBt6.mono hWb))
  refine dq U [0,1,2,3,4,5,6,7,8,9] [(3, .string ⟨⟨l⟩⟩), (8, .int .i64 (u : Nat))] (by kernel_rfl) rfl rfl hkt6 (by simp only [AllP, InR, List.nil_append, List.cons_append]; (repeat' apply And.intro); all_goals first | exact True.intro | omega | exact fun w h => run_load_cell U rfl (h.cell rfl)) ?_
  refine d1 rfl rfl (fun _ => hkt6) ?_
  simp only [Int.toNat_natCast, hgd]
  have hsum := nD_add (bval (l.take u)) (bval (l.take u)) 78 hkd hkd
  refine cS rfl rfl rfl rfl (fun hq => ?_) (fun hq => ?_)
  · have he : l[u] = 49 := UInt8.toNat_inj.1 (by simp; omega)
    refine d2 ?_; refine dend rfl (fun h => by cases h) ?_
    refine dr U 600 rfl trivial ?_
    refine ld U rfl rfl rfl rfl ((hkt6).cell rfl) ?_
    refine call (f := 57) rfl rfl cb57 (cplus1_calls _ (by omega) w6 ht6) ?_
    rintro v w7 ⟨rfl, hB7⟩
    refine ⟨_, rfl, ?_⟩
    have hkt7 := hkt6.below hB7 hkt6.lt
    have hBt7 : Below bt w w7 := hBt6.trans (hB7.mono (Nat.le_of_lt hkt6.lt))
    refine dr U 600 rfl trivial ?_
    refine st U rfl rfl rfl rfl rfl rfl rfl rfl rfl rfl (hkt7) ?_
    intro w8 hkt8 hg8 hs8
    have hBt8 := hBt7.grown hg8 (Nat.le_of_lt hkt7.lt) (fun k e => by cases e; exact Nat.le_refl _)
    refine dr U 600 rfl trivial ?_
    refine ld U rfl rfl rfl rfl ((hkt8).cell rfl) ?_
    refine dr U 600 rfl (by first | exact True.intro | (simp only [AllP, InR, List.nil_append, List.cons_append, and_true]; omega)) ?_
    refine st U rfl rfl rfl rfl rfl rfl rfl rfl rfl rfl (hkt8) ?_
    intro w9 hkt9 hg9 hs9
    refine dr U 600 rfl trivial ?_
    refine ret Tryz.results58 rfl ⟨_, rfl, ⟨rfl, ?_⟩, hBt8.grown hg9 (Nat.le_of_lt hkt8.lt) (fun k e => by cases e; exact Nat.le_refl _)⟩
    have e1 : 2 ^ u + 2 ^ u = 2 ^ (u + 1) := by rw [Nat.pow_succ]; omega
    have e2 : bval (l.take (u + 1)) = bval (l.take u) + bval (l.take u) + 1 := by rw [bval_take hu, hgd]; unfold bv1; rw [he, if_pos rfl]; omega
    rw [e1] at hkt9
    unfold tsc
    rw [e2]
    exact hkt9
  · have he : l[u] ≠ 49 := fun e => hq (by rw [e]; rfl)
    refine d2 ?_; refine dend rfl (fun h => by cases h) ?_
    refine dr U 600 rfl trivial ?_
    refine ld U rfl rfl rfl rfl ((hkt6).cell rfl) ?_
    refine dr U 600 rfl (by first | exact True.intro | (simp only [AllP, InR, List.nil_append, List.cons_append, and_true]; omega)) ?_
    refine st U rfl rfl rfl rfl rfl rfl rfl rfl rfl rfl (hkt6) ?_
    intro w9 hkt9 hg9 hs9
    refine dr U 600 rfl trivial ?_
    refine ret Tryz.results58 rfl ⟨_, rfl, ⟨rfl, ?_⟩, hBt6.grown hg9 (Nat.le_of_lt hkt6.lt) (fun k e => by cases e; exact Nat.le_refl _)⟩
    have e1 : 2 ^ u + 2 ^ u = 2 ^ (u + 1) := by rw [Nat.pow_succ]; omega
    have e2 : bval (l.take (u + 1)) = bval (l.take u) + bval (l.take u) := by rw [bval_take hu, hgd]; unfold bv1; rw [if_neg he]; omega
    rw [e1] at hkt9
    unfold tsc
    rw [e2]
    exact hkt9

/-- The error of a draw. -/
def DErr (s b : List UInt8) (e : Int) : Prop := (e ≠ 0 ∧ PErr s e) ∨ (PErr s 0 ∧ SChk b e)
theorem DErr.uniq {s b : List UInt8} {e f : Int} (h : DErr s b e) (h' : DErr s b f) : e = f := by
  rcases h with ⟨h1, h2⟩ | ⟨h1, h2⟩ <;> rcases h' with ⟨g1, g2⟩ | ⟨g1, g2⟩
  · exact h2.uniq g2
  · exact absurd (h2.uniq g1) h1
  · exact absurd (g2.uniq h1) g1
  · exact h2.uniq g2
/-- The result of a toss as a value. -/
def dvl (r : Bool × Nat × Nat) : Value := .agg ⟨[.bool r.1, .int .i64 (r.2.1 : Nat), .int .i64 (r.2.2 : Nat)]⟩
/-- What Draw answers. -/
def DrawR (s b : List UInt8) (v : Value) : Prop :=
  (∃ e, e ≠ 0 ∧ DErr s b e ∧ v = .tuple ⟨[dvl (false, 0, 0), .int .i64 e]⟩) ∨ (DErr s b 0 ∧ v = .tuple ⟨[dvl (tos (qN s) (qD s) b), .int .i64 0]⟩)
theorem DrawR.uniq {s b : List UInt8} {v v' : Value} (h : DrawR s b v) (h' : DrawR s b v') : v = v' := by
  rcases h with ⟨e, h1, h2, rfl⟩ | ⟨h1, rfl⟩ <;> rcases h' with ⟨f, g1, g2, rfl⟩ | ⟨g1, rfl⟩
  · rw [h2.uniq g2]
  · exact absurd (h2.uniq g1) h1
  · exact absurd (g2.uniq h1) g1
  · rfl
theorem ag_draw : AggOk Tryz.prog 26 3 := ⟨⟨_, Tryz.underlying26⟩, inf26.sz⟩

theorem sides_calls (N D : Nat) (w : World) : Calls Tryz.prog 27 #[.string ⟨⟨decDigits N⟩⟩, .string ⟨⟨decDigits D⟩⟩] w
    (Ret fun v w' => ∃ b2 b3, v = .func (.func 55) #[] #[.pointer (some ⟨b2, 0, none⟩), .pointer (some ⟨b3, 0, none⟩)] ∧ Bk w' b2 22 [.string ⟨⟨decDigits N⟩⟩] ∧ Bk w' b3 22 [.string ⟨⟨decDigits D⟩⟩] ∧ Below w.heap.size w w') := by
  refine enter Tryz.func27 rfl Tryz.ntmps27 (Nat.le_of_ble_eq_true rfl) ?_
  refine dr U 600 rfl trivial ?_
  refine bx rfl rfl rfl rfl ?_
  intro b2 wa hb2 hsa hk2 hga
  refine bx rfl rfl rfl rfl ?_
  intro b3 w0 hb3 hsb hk3 hgb
  refine dr U 600 rfl trivial ?_
  exact ret Tryz.results27 rfl ⟨_, rfl, b2, b3, rfl, hk2.keep hgb (by simp), hk3, ((Below.refl _ _).grown hga (Nat.le_refl _) (fun k e => by cases e)).grown hgb (by omega) (fun k e => by cases e)⟩

theorem draw_calls (s l : List UInt8) (hs : s.length ≤ 1099511627776) (hl : l.length ≤ 1099511627776) (w : World) (ht : TabOk w) :
    Calls Tryz.prog 9 #[.string ⟨⟨s⟩⟩, .string ⟨⟨l⟩⟩] w (Ret fun v w' => DrawR s l v ∧ Below w.heap.size w w') := by
  refine enter Tryz.func9 rfl Tryz.ntmps9 (Nat.le_of_ble_eq_true rfl) ?_
  refine dr U 600 rfl trivial ?_
  refine al U rfl rfl rfl rfl ?_
  intro b4 w0 hb4 hs0 hk4 hg0
  have hB0 : Below w.heap.size w w0 := (Below.refl _ _).grown hg0 (Nat.le_refl _) (fun k e => by cases e)
  refine dr U 600 rfl trivial ?_
  refine call (f := 25) rfl rfl cb25 (parts_calls s hs w0) ?_
  rintro v w1 ⟨hr, hB1'⟩
  have hB1 := bl_tr hB0 hB1' hB0.size
  have hk4 := hk4.below hB1' hk4.lt
  rcases hr with ⟨e, h0, hpe, rfl⟩ | ⟨hp0, rfl⟩
  · refine ⟨_, rfl, ?_⟩
    refine dr U 600 rfl trivial ?_
    refine cF rfl rfl rfl (h0) ?_; refine dr U 600 rfl trivial ?_
    refine cT rfl rfl rfl (h0) ?_; refine dr U 600 rfl trivial ?_
    refine dr U 600 rfl trivial ?_
    refine st U rfl rfl rfl rfl rfl rfl rfl rfl rfl rfl (hk4) ?_
    intro w9 hkW hgW hsW
    refine dr U 600 rfl trivial ?_
    refine retS Tryz.results9 (vs := [_, _]) ⟨⟨_, rfl, run_load_agg ag_draw hkW rfl⟩, rfl, trivial⟩ ⟨_, rfl, .inl ⟨e, h0, (.inl ⟨h0, hpe⟩), rfl⟩, hB1.grown hgW hB1.size (fun k e => by cases e; omega)⟩
  · obtain ⟨hnum, hden, hD0, hle⟩ := hp0.nums
    refine ⟨_, rfl, ?_⟩
    refine dr U 600 rfl trivial ?_
    refine cT rfl rfl rfl (rfl) ?_; refine dr U 600 rfl trivial ?_
    refine call (f := 26) rfl rfl cb26 (cchecked_calls l hl w1) ?_
    rintro v w2 ⟨⟨e, rfl, hce⟩, hB2'⟩
    refine ⟨_, rfl, ?_⟩
    have hB2 := bl_tr hB1 hB2' hB1.size
    have hk4 := hk4.below hB2' hk4.lt
    refine dr U 600 rfl trivial ?_
    refine cS rfl rfl rfl rfl (fun hq => ?_) (fun hq => ?_)
    · refine dr U 600 rfl trivial ?_
      refine st U rfl rfl rfl rfl rfl rfl rfl rfl rfl rfl (hk4) ?_
      intro w9 hkW hgW hsW
      refine dr U 600 rfl trivial ?_
      refine retS Tryz.results9 (vs := [_, _]) ⟨⟨_, rfl, run_load_agg ag_draw hkW rfl⟩, rfl, trivial⟩ ⟨_, rfl, .inl ⟨e, hq, (.inr ⟨hp0, hce⟩), rfl⟩, hB2.grown hgW hB2.size (fun k e => by cases e; omega)⟩
    · obtain rfl := Classical.not_not.1 hq
      have hc0 := hce
      obtain ⟨hbin, hl256⟩ := hce.ok
      refine dr U 600 rfl trivial ?_
      rw [hnum.1, hden.1]
      refine call (f := 27) rfl rfl cb27 (sides_calls (qN s) (qD s) w2) ?_
      rintro v w3 ⟨b2, b3, rfl, hk2, hk3, hB3'⟩
      refine ⟨_, rfl, ?_⟩
      have hB3 := bl_tr hB2 hB3' hB2.size
      have hk4 := hk4.below hB3' hk4.lt
      refine dr U 600 rfl trivial ?_
      refine bx rfl rfl rfl rfl ?_
      intro bt w4 hbt hs4 hkt hg4
      have hB4 := hB3.grown hg4 hB3.size (fun k e => by cases e)
      have hk4 := hk4.keep hg4 (by simp)
      have hk2 := hk2.keep hg4 (by simp)
      have hk3 := hk3.keep hg4 (by simp)
      have hkt : Bk w4 bt 61 (tsc l 0 b2 b3 false 0) := by
        have e0 : decDigits (bval (l.take 0)) = [48] := by rw [List.take_zero, show bval [] = 0 from rfl, decDigits_one (by omega)]; rfl
        have e1 : decDigits (2 ^ 0) = [49] := by rw [Nat.pow_zero, decDigits_one (by omega)]; rfl
        unfold tsc
        rw [e0, e1]; exact hkt
      have hlt2 := hk2.lt
      have hlt3 := hk3.lt
      have hlt4 := hk4.lt
      have hbase := hB4.size
      have hbt2 : b2 < bt := by
        rcases Nat.lt_or_ge b2 bt with h | h
        · exact h
        · exfalso
          have : b2 = bt := by omega
          subst this
          have := hk2.symm.trans hkt
          simp at this
      have hbt3 : b3 < bt := by
        rcases Nat.lt_or_ge b3 bt with h | h
        · exact h
        · exfalso
          have : b3 = bt := by omega
          subst this
          have := hk3.symm.trans hkt
          simp at this
      have hbt4 : b4 < bt := by have := hB3.size; have := hB1'.size; have := hB2'.size; have := hB3'.size; omega
      have hwt : w.heap.size ≤ bt := by have := hB3.size; omega
      have ht4 := ht.below hB4
      refine dr U 600 rfl trivial ?_
      refine loopR (fun f w' m => ∃ (u : Nat) (F : Value), f = [(4, .pointer (some ⟨b4, 0, none⟩)), (9, .pointer (some ⟨bt, 0, none⟩)), (10, F)] ∧ u ≤ l.length ∧ (∀ i, i < u → dcz (qN s) (qD s) (l.take i) = none) ∧ Below bt w4 w' ∧
          ((F = .func (.func 28) #[.pointer (some ⟨bt, 0, none⟩)] #[] ∧ Bk w' bt 61 (tsc l u b2 b3 false 0) ∧ m = 2 * (l.length - u) + 2) ∨
           (F = .func (.func 58) #[.pointer (some ⟨bt, 0, none⟩)] #[] ∧ u < l.length ∧ dcz (qN s) (qD s) (l.take u) = none ∧ Bk w' bt 61 (tsc l u b2 b3 false 0) ∧ m = 2 * (l.length - u) + 1) ∨
           (F = .nilFunc ∧ (∃ x : Nat, dcz (qN s) (qD s) (l.take u) = some x ∧ Bk w' bt 61 (tsc l u b2 b3 true x)) ∧ m = 0) ∨
           (F = .nilFunc ∧ u = l.length ∧ dcz (qN s) (qD s) (l.take u) = none ∧ Bk w' bt 61 (tsc l u b2 b3 false 0) ∧ m = 0)))
        (m0 := 2 * (l.length - 0) + 2) ⟨0, _, rfl, by omega, fun i h => by omega, Below.refl _ _, .inl ⟨rfl, hkt, rfl⟩⟩ ⟨rfl, rfl, rfl, trivial⟩ ?_
      rintro f w5 m ⟨u, F, rfl, hu, hnone, hBt, hst⟩
      have hk4 := hk4.below hBt hbt4
      have hk2 := hk2.below hBt hbt2
      have hk3 := hk3.below hBt hbt3
      have hB : Below w.heap.size w w5 := bl_tr hB4 (hBt.mono hwt) (Nat.le_refl _)
      have ht5 := ht.below hB
      have hgo := hBt.size
      rcases hst with ⟨rfl, hkt, rfl⟩ | ⟨rfl, hul, hno, hkt, rfl⟩ | ⟨rfl, ⟨x, hx, hkt⟩, rfl⟩ | ⟨rfl, hul, hno, hkt, rfl⟩
      · refine dr U 600 rfl trivial ?_
        refine nfF rfl rfl Tryz.underlying63 rfl rfl ?_
        refine dr U 600 rfl trivial ?_
        refine call (f := 28) rfl rfl cb28 (look_calls l (qN s) (qD s) u b2 b3 bt hl256 hu hnum.2 hden.2 hD0 w5 ht5 hkt hk2 hk3) ?_
        rintro v w6 ⟨hr, hB6⟩
        rcases hr with ⟨x, hx, rfl, hkt6⟩ | ⟨hno, hul, rfl, hkt6⟩ | ⟨hno, hul, rfl, hkt6⟩
        · refine ⟨_, rfl, ?_⟩
          refine dr U 600 rfl trivial ?_
          exact rend _ 0 ⟨u, _, rfl, hu, hnone, hBt.trans hB6, .inr (.inr (.inl ⟨rfl, ⟨x, hx, hkt6⟩, rfl⟩))⟩ (by omega) ⟨rfl, rfl, rfl, trivial⟩
        · refine ⟨_, rfl, ?_⟩
          refine dr U 600 rfl trivial ?_
          exact rend _ 0 ⟨u, _, rfl, hu, hnone, hBt.trans hB6, .inr (.inr (.inr ⟨rfl, hul, hno, hkt6, rfl⟩))⟩ (by omega) ⟨rfl, rfl, rfl, trivial⟩
        · refine ⟨_, rfl, ?_⟩
          refine dr U 600 rfl trivial ?_
          exact rend _ _ ⟨u, _, rfl, hu, hnone, hBt.trans hB6, .inr (.inl ⟨rfl, hul, hno, hkt6, rfl⟩)⟩ (by omega) ⟨rfl, rfl, rfl, trivial⟩
      · refine dr U 600 rfl trivial ?_
        refine nfF rfl rfl Tryz.underlying63 rfl rfl ?_
        refine dr U 600 rfl trivial ?_
        refine call (f := 58) rfl rfl cb58 (read2_calls l u b2 b3 bt hl256 hul w5 w ht hwt hB hkt) ?_
        rintro v w6 ⟨⟨rfl, hkt6⟩, hB6⟩
        refine ⟨_, rfl, ?_⟩
        refine dr U 600 rfl trivial ?_
        refine rend _ _ ⟨u + 1, _, rfl, by omega, fun i hi => ?_, hBt.trans hB6, .inl ⟨rfl, hkt6, rfl⟩⟩ (by omega) ⟨rfl, rfl, rfl, trivial⟩
        by_cases hiu : i = u
        · rw [hiu]; exact hno
        · exact hnone i (by omega)
      · have htos := tos_is hu hx hnone
        refine dr U 600 rfl trivial ?_
        refine nfN rfl rfl Tryz.underlying63 rfl rfl ?_
        refine dr U 600 rfl trivial ?_
        refine lgo rfl (add_plain _ _ _) ag_draw rfl rfl (cs := [.bool true, .int .i64 (x : Nat), .int .i64 (u : Nat)]) (fun j v hv => by rw [show (0 + 4 + j) = j + 4 by omega]; exact hkt.cell hv) rfl ?_
        refine st U rfl rfl rfl rfl rfl rfl rfl rfl rfl rfl (hk4) ?_
        intro w9 hk9 hg9 hs9
        refine dr U 600 rfl trivial ?_
        refine retS Tryz.results9 (vs := [_, _]) ⟨⟨_, rfl, run_load_agg ag_draw hk9 rfl⟩, rfl, trivial⟩ ⟨_, rfl, .inr ⟨.inr ⟨hp0, hc0⟩, ?_⟩, hB.grown hg9 hB.size (fun k e => by cases e; omega)⟩
        rw [htos]; rfl
      · subst hul
        have htos := tos_not (N := qN s) (D := qD s) (l := l) (fun i hi => by
          by_cases hil : i = l.length
          · rw [hil]; exact hno
          · exact hnone i (by omega))
        refine dr U 600 rfl trivial ?_
        refine nfN rfl rfl Tryz.underlying63 rfl rfl ?_
        refine dr U 600 rfl trivial ?_
        refine lgo rfl (add_plain _ _ _) ag_draw rfl rfl (cs := [.bool false, .int .i64 0, .int .i64 (l.length : Nat)]) (fun j v hv => by rw [show (0 + 4 + j) = j + 4 by omega]; exact hkt.cell hv) rfl ?_
        refine st U rfl rfl rfl rfl rfl rfl rfl rfl rfl rfl (hk4) ?_
        intro w9 hk9 hg9 hs9
        refine dr U 600 rfl trivial ?_
        refine retS Tryz.results9 (vs := [_, _]) ⟨⟨_, rfl, run_load_agg ag_draw hk9 rfl⟩, rfl, trivial⟩ ⟨_, rfl, .inr ⟨.inr ⟨hp0, hc0⟩, ?_⟩, hB.grown hg9 hB.size (fun k e => by cases e; omega)⟩
        rw [htos]; rfl
end Go.Proofs.YtabplbmbnakalaaGreatDoor
