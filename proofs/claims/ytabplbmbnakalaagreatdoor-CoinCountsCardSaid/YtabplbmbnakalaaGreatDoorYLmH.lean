/-
  Walks of package limbs: Digits, Gcd.
  Conditions: fewer than 2^36 limbs; the library's table of powers of ten is laid.

  Walk of package limbs: Pow.
  Conditions: the number has at most as many digits as the limit, which is from 1 to 2^20; the library's table of powers of ten is laid.

  Rules of the engine for bits of unsigned numbers: the lowest bit, a shift to the right by a constant.
  No conditions: each theorem names its own premises.

  Walk of package limbs: Pow.
  Conditions: the number has at most sa many digits sa the limit, which is from 1 to 2^20; the library's table of powers of ten is laid.
-/
import Derived.Test.YtabplbmbnakalaaGreatDoorYEng
import Derived.Test.YtabplbmbnakalaaGreatDoorYNum
import Derived.Test.YtabplbmbnakalaaGreatDoorYFmt
section
set_option linter.unusedSimpArgs false
set_option linter.unusedVariables false
namespace Go.Proofs.YtabplbmbnakalaaGreatDoor
open Go Go.Proofs Go.RowKit Go.Lib

theorem digits_calls (n : Nat) (a : Option Addr) (c : Nat) (w : World) (ha : Rd w a c (lim n)) (hl : (lim n).length ≤ 68719476736) (ht : TabOk w) :
    Calls Tryz.prog 130 #[.slice a (lim n).length c] w (Ret fun v w' => v = .int .i64 (nDigits n) ∧ Below w.heap.size w w') := by
  refine enter Tryz.func130 rfl Tryz.ntmps130 (Nat.le_of_ble_eq_true rfl) ?_
  refine dr U 600 rfl trivial ?_
  refine cS rfl rfl rfl rfl (fun hq => ?_) (fun hq => ?_)
  · have h0 : n = 0 := lim_eq_nil.1 (List.length_eq_zero_iff.1 (by omega))
    refine dr U 600 rfl trivial ?_
    refine ret Tryz.results130 rfl ⟨_, rfl, ?_, Below.refl _ _⟩
    rw [h0, nD_zero]; rfl
  · have h0 : n ≠ 0 := fun e => hq (by rw [e, lim_zero]; rfl)
    have hx := (lim_Lm n).getD ((lim n).length - 1)
    have hnd := nD_lim h0
    refine dr U 600 rfl (by first | exact True.intro | (simp only [AllP, InR, List.nil_append, List.cons_append, and_true]; omega)) ?_
    refine il U rfl rfl rfl rfl rfl rfl rfl (fun _ => rfl) rfl ((lim n).length - 1) (by omega) (by omega) ha.1 (getU (by omega)) ?_
    refine call (f := 135) rfl rfl cb135 (fmt_calls _ hx w ht) ?_
    rintro v w1 ⟨rfl, hB⟩
    refine ⟨_, rfl, ?_⟩
    have hb := nDigits_pos ((lim n).getD ((lim n).length - 1) 0)
    have hb2 := nD_le 9 ((lim n).getD ((lim n).length - 1) 0) (by omega) hx
    have hdl := decDigits_length ((lim n).getD ((lim n).length - 1) 0)
    refine dr U 600 rfl (by first | exact True.intro | (simp only [AllP, InR, List.nil_append, List.cons_append, and_true]; omega)) ?_
    refine ret Tryz.results130 rfl ⟨_, rfl, ?_, hB⟩
    show Value.int _ _ = Value.int _ _
    congr 1
    omega

theorem gcd_calls (p q : Nat) (a b : Option Addr) (c d : Nat) (w : World) (ha : Rd w a c (lim p)) (hb : Rd w b d (lim q)) (hpl : (lim p).length ≤ 68719476736) (hql : (lim q).length ≤ 68719476736) :
    Calls Tryz.prog 139 #[.slice a (lim p).length c, .slice b (lim q).length d] w (Ret fun v w' => Red w' v (lim (Nat.gcd p q)) ∧ Below w.heap.size w w') := by
  refine enter Tryz.func139 rfl Tryz.ntmps139 (Nat.le_of_ble_eq_true rfl) ?_
  refine dr U 600 rfl trivial ?_
  refine loopR (fun l w' mu => ∃ m0 a0 c0 b0 d0, l = [(0, .slice a0 (lim m0).length c0), (1, .slice b0 (lim mu).length d0)] ∧ Rd w' a0 c0 (lim m0) ∧ Rd w' b0 d0 (lim mu) ∧ Nat.gcd m0 mu = Nat.gcd p q ∧ (lim m0).length ≤ 68719476736 ∧ (lim mu).length ≤ 68719476736 ∧ Below w.heap.size w w')
    (m0 := q) ⟨p, a, c, b, d, rfl, ha, hb, rfl, hpl, hql, Below.refl _ _⟩ ⟨rfl, rfl, trivial⟩ ?_
  rintro l w1 mu ⟨m0, a0, c0, b0, d0, rfl, ha, hb, hg, hl1, hl2, hB⟩
  refine dr U 600 rfl trivial ?_
  refine cS rfl rfl rfl rfl (fun hq => ?_) (fun hq => ?_)
  · have h0 : 0 < mu := by
      rcases Nat.eq_zero_or_pos mu with h | h
      · rw [h, lim_zero] at hq; simp at hq
      · exact h
    refine dr U 600 rfl trivial ?_
    refine call (f := 98) rfl rfl cb98 (divmod_calls m0 mu h0 a0 b0 c0 d0 w1 ha hb hl1 hl2) ?_
    rintro v w2 ⟨v1, v2, rfl, _, ⟨a2, c2, rfl, hr2⟩, hB2⟩
    refine ⟨_, rfl, ?_⟩
    refine dr U 600 rfl trivial ?_
    refine rend _ (m0 % mu) ⟨mu, b0, d0, a2, c2, rfl, hb.below hB2, hr2, ?_, hl2, Nat.le_trans (lim_len_mono (Nat.le_of_lt (Nat.mod_lt _ h0))) hl2, bl_tr hB hB2 hB.size⟩ (Nat.mod_lt _ h0) ⟨rfl, rfl, trivial⟩
    rw [← hg, Nat.gcd_comm m0 mu, Nat.gcd_rec mu m0]; exact Nat.gcd_comm _ _
  · have h0 : mu = 0 := lim_eq_nil.1 (List.length_eq_zero_iff.1 (by omega))
    subst h0
    rw [Nat.gcd_zero_right] at hg
    subst hg
    refine dr U 600 rfl trivial ?_
    exact ret Tryz.results139 rfl ⟨_, rfl, ⟨a0, c0, rfl, ha⟩, hB⟩
end Go.Proofs.YtabplbmbnakalaaGreatDoor
end
section
set_option linter.unusedSimpArgs false
set_option linter.unusedVariables false
set_option maxHeartbeats 1000000
namespace Go.Proofs.YtabplbmbnakalaaGreatDoor
open Go Go.Proofs Go.RowKit Go.Lib

/-- Only these blocks may have turned. -/
structure Oth (bs : List Nat) (w w' : World) : Prop where
  os : w'.os = w.os
  tape : w'.tape = w.tape
  output : w'.output = w.output
  size : w.heap.size ≤ w'.heap.size
  block : ∀ k, k < w.heap.size → k ∉ bs → w'.heap[k]? = w.heap[k]?

theorem Oth.refl (bs : List Nat) (w : World) : Oth bs w w := ⟨rfl, rfl, rfl, Nat.le_refl _, fun _ _ _ => rfl⟩
theorem Oth.trans {bs : List Nat} {w w1 w2 : World} (h : Oth bs w w1) (h' : Oth bs w1 w2) : Oth bs w w2 :=
  ⟨h'.os.trans h.os, h'.tape.trans h.tape, h'.output.trans h.output, Nat.le_trans h.size h'.size, fun k hk hn => (h'.block k (Nat.lt_of_lt_of_le hk h.size) hn).trans (h.block k hk hn)⟩
theorem Oth.of_below {bs : List Nat} {w w' : World} (h : Below w.heap.size w w') : Oth bs w w' := ⟨h.os, h.tape, h.output, h.size, fun k hk _ => h.block k hk⟩
theorem Oth.of_grown {bs : List Nat} {w w' : World} {row : Option Nat} (h : w.grownBy w' row) (hr : ∀ r, row = some r → r ∈ bs) : Oth bs w w' :=
  ⟨h.os, h.tape, h.output, h.size, fun k hk hn => h.block k hk (fun e => hn (hr k e.symm))⟩
theorem Oth.below {bs : List Nat} {w w' : World} {B : Nat} (h : Oth bs w w') (hB : B ≤ w.heap.size) (hb : ∀ b ∈ bs, B ≤ b) : Below B w w' :=
  ⟨h.os, h.tape, h.output, h.size, fun k hk => h.block k (Nat.lt_of_lt_of_le hk hB) (fun hm => by have := hb k hm; omega)⟩
theorem Oth.bk {bs : List Nat} {w w' : World} {b t : Nat} {cs : List Value} (h : Oth bs w w') (hb : Bk w b t cs) (hn : b ∉ bs) : Bk w' b t cs := by
  have hlt := hb.lt
  unfold Bk at *; rw [h.block b hlt hn]; exact hb
theorem Oth.rd {bs : List Nat} {w w' : World} {a : Option Addr} {c : Nat} {xs : List Nat} (h : Oth bs w w') (hr : Rd w a c xs) (hn : ∀ g, ab a = some g → g ∉ bs) : Rd w' a c xs :=
  ⟨fun j v hv => by
    obtain ⟨g, off, rfl, hc⟩ := hr.1 j v hv
    refine ⟨g, off, rfl, ?_⟩
    have := h.block g (hr.2.2 g rfl) (hn g rfl)
    unfold World.cell? at *; rw [this]; exact hc, hr.2.1, fun g hg => Nat.lt_of_lt_of_le (hr.2.2 g hg) h.size⟩

theorem tab_ne {w : World} (h : TabOk w) {b t : Nat} {v : Value} (hb : Bk w b t [v]) : b ≠ 5 := by
  rintro rfl
  obtain ⟨t', x, h⟩ := h
  unfold Bk at hb
  rw [hb] at h
  simp [Lib.pow10Tab] at h
  have := congrArg List.length h.1
  simp at this
theorem TabOk.keep {w w' : World} {row : Option Nat} (h : TabOk w) (hg : w.grownBy w' row) (hr : row ≠ some 5) : TabOk w' := by
  obtain ⟨t, x, h⟩ := h
  exact ⟨t, x, by rw [hg.block _ (Array.getElem?_eq_some_iff.1 h).1 (fun e => hr e.symm)]; exact h⟩
theorem Oth.tab {bs : List Nat} {w w' : World} (h : Oth bs w w') (ht : TabOk w) (hn : 5 ∉ bs) : TabOk w' := by
  obtain ⟨t, x, ht⟩ := ht
  exact ⟨t, x, by rw [h.block _ (Array.getElem?_eq_some_iff.1 ht).1 hn]; exact ht⟩

theorem double_calls (S limit b9 b5 b10 : Nat) (a : Option Addr) (c : Nat) (f : Bool) (w : World) (hne1 : b9 ≠ b10) (hne2 : b5 ≠ b9) (hne3 : b5 ≠ b10)
    (hk9 : Bk w b9 113 [.slice a (lim S).length c]) (hk5 : Bk w b5 3 [.int .i64 (limit : Nat)]) (hk10 : Bk w b10 4 [.bool f]) (hr : Rd w a c (lim S)) (hl : (lim S).length ≤ 34359738368) (hlim : limit ≤ 1048576) (ht : TabOk w) :
    Calls Tryz.prog 129 #[.pointer (some ⟨b9, 0, none⟩), .pointer (some ⟨b5, 0, none⟩), .pointer (some ⟨b10, 0, none⟩)] w
      (Ret fun v w' => v = .tuple ⟨[]⟩ ∧ Oth [b9, b10] w w' ∧ (∃ a' c', Bk w' b9 113 [.slice a' (lim (S * S)).length c'] ∧ Rd w' a' c' (lim (S * S)) ∧ ∀ g, ab a' = some g → w.heap.size ≤ g) ∧ Bk w' b10 4 [.bool (decide (nDigits (S * S) ≤ limit))]) := by
  have htn := tab_ne ht hk9
  have hlt9 := hk9.lt
  have hlt5 := hk5.lt
  have hlt10 := hk10.lt
  refine enter Tryz.func129 rfl Tryz.ntmps129 (Nat.le_of_ble_eq_true rfl) ?_
  refine dr U 600 rfl trivial ?_
  refine ld U rfl rfl rfl rfl ((hk9).cell rfl) ?_
  refine ld U rfl rfl rfl rfl ((hk9).cell rfl) ?_
  refine call (f := 125) rfl rfl cb125 (mul_calls S S a a c c w hr hr (by omega) (by omega)) ?_
  rintro v w1 ⟨a1, c1, rfl, hown, hB1⟩
  refine ⟨_, rfl, ?_⟩
  have hk9 := hk9.below hB1 hlt9
  have hk5 := hk5.below hB1 hlt5
  have hk10 := hk10.below hB1 hlt10
  have hrd := own_rd hown
  have hblk := own_block hown
  refine st U rfl rfl rfl rfl rfl rfl rfl rfl rfl rfl (hk9) ?_
  intro w2 hk9 hg2 hs2
  have hsz := hB1.size
  have hO2 : Oth [b9, b10] w w2 := (Oth.of_below hB1).trans (Oth.of_grown hg2 (fun r e => by cases e; simp))
  have hk5 := hk5.keep hg2 (by simpa using fun e => hne2 e.symm)
  have hk10 := hk10.keep hg2 (by simpa using hne1)
  have hrd2 : Rd w2 a1 c1 (lim (S * S)) := ⟨hrd.1.keep hg2 (fun g hg e => by have := hblk g hg; cases e; omega), hrd.2.1, fun g hg => by rw [hs2]; exact hrd.2.2 g hg⟩
  have ht2 : TabOk w2 := (ht.below hB1).keep hg2 (by simpa using htn)
  refine dr U 600 rfl trivial ?_
  have hq9 := hk9.cell (off := 0) rfl
  have hq5 := hk5.cell (off := 0) rfl
  refine dwn 4 (fun w' => w'.cell? ⟨b9, 0, none⟩ = some (.slice a1 (lim (S * S)).length c1) ∧ w'.cell? ⟨b5, 0, none⟩ = some (.int .i64 (limit : Nat))) hmo ?_
  intro w3 hh3 hg3
  have hC : w3.cell? ⟨b9, 0, none⟩ = some (.slice a1 (lim (S * S)).length c1) ∧ w3.cell? ⟨b5, 0, none⟩ = some (.int .i64 (limit : Nat)) := ⟨cell_heap hh3 hq9, cell_heap hh3 hq5⟩
  refine dq U [0,2] [(0, .slice a1 (lim (S * S)).length c1), (2, .int .i64 (limit : Nat))] (by kernel_rfl) rfl rfl hC (by simp only [AllP, InR, List.nil_append, List.cons_append]; (repeat' apply And.intro); all_goals first | exact True.intro | omega | (simp only [List.length_cons, List.length_nil]; omega) | (intro w_ hw_; refine ldC U rfl hw_ ?_; first | assumption | (simp [add_plain]; assumption)) | (intro w_ hw_; refine run_load_cell U rfl ?_; first | exact hw_ | exact hw_.1 | exact hw_.2 | exact hw_.2.1 | exact hw_.2.2 | exact hw_.2.2.1 | exact hw_.2.2.2 | (simp [add_plain]; first | exact hw_.1 | exact hw_.2.1 | exact hw_.2.2))) ?_
  refine d1 rfl rfl (fun _ => hC) ?_
  have hll := lim_len_mul S S
  refine call (f := 130) rfl rfl cb130 (digits_calls (S * S) a1 c1 w3 ⟨heap_sl hh3 hrd2.1, hrd2.2.1, fun g hg => by rw [hh3]; exact hrd2.2.2 g hg⟩ (by omega) (ht2.new hg3)) ?_
  rintro v w4 ⟨rfl, hB4⟩
  have hk9n := (heap_bk hh3 hk9).below hB4 (by rw [hh3]; exact hk9.lt)
  have hk5n := (heap_bk hh3 hk5).below hB4 (by rw [hh3]; exact hk5.lt)
  have hk10n := (heap_bk hh3 hk10).below hB4 (by rw [hh3]; exact hk10.lt)
  have hO4 : Oth [b9, b10] w w4 := (hO2.trans (Oth.of_grown hg3 (fun r e => by cases e))).trans (Oth.of_below hB4)
  have hrd4 := Rd.below (w := w3) ⟨heap_sl hh3 hrd2.1, hrd2.2.1, fun g hg => by rw [hh3]; exact hrd2.2.2 g hg⟩ hB4
  refine ⟨_, rfl, d2 ?_⟩
  have hC4 : w4.cell? ⟨b9, 0, none⟩ = some (.slice a1 (lim (S * S)).length c1) ∧ w4.cell? ⟨b5, 0, none⟩ = some (.int .i64 (limit : Nat)) := ⟨hk9n.cell rfl, hk5n.cell rfl⟩
  refine d1 rfl rfl (fun _ => hC4) ?_
  have hfin : ∀ w5 bb, bb = decide (nDigits (S * S) ≤ limit) → Bk w5 b10 4 [.bool bb] → w4.grownBy w5 (some b10) → w5.heap.size = w4.heap.size →
      Oth [b9, b10] w w5 ∧ (∃ a' c', Bk w5 b9 113 [.slice a' (lim (S * S)).length c'] ∧ Rd w5 a' c' (lim (S * S)) ∧ ∀ g, ab a' = some g → w.heap.size ≤ g) ∧ Bk w5 b10 4 [.bool (decide (nDigits (S * S) ≤ limit))] := by
    rintro w5 bb rfl hk hg hs
    exact ⟨hO4.trans (Oth.of_grown hg (fun r e => by cases e; simp)), ⟨a1, c1, hk9n.keep hg (by simpa using fun e => hne1 e.symm), ⟨hrd4.1.keep hg (fun g hg2 e => by have := hblk g hg2; cases e; omega), hrd4.2.1, fun g hg2 => by rw [hs]; exact hrd4.2.2 g hg2⟩, fun g hg2 => (hblk g hg2).1⟩, hk⟩
  refine cS rfl rfl rfl rfl (fun hq => ?_) (fun hq => ?_)
  · refine d2 ?_
    refine d1 rfl rfl (fun _ => hC4) ?_
    refine st U rfl rfl rfl rfl rfl rfl rfl rfl rfl rfl (hk10n) ?_
    intro w5 hk5' hg5 hs5
    refine d2 ?_; refine dend rfl (fun h => by cases h) ?_
    refine dr U 600 rfl trivial ?_
    exact retN Tryz.results129 rfl ⟨_, rfl, rfl, hfin w5 true (by simp; omega) hk5' hg5 hs5⟩
  · refine d2 ?_
    refine d1 rfl rfl (fun _ => hC4) ?_
    refine st U rfl rfl rfl rfl rfl rfl rfl rfl rfl rfl (hk10n) ?_
    intro w5 hk5' hg5 hs5
    refine d2 ?_; refine dend rfl (fun h => by cases h) ?_
    refine dr U 600 rfl trivial ?_
    exact retN Tryz.results129 rfl ⟨_, rfl, rfl, hfin w5 false (by simp; omega) hk5' hg5 hs5⟩
end Go.Proofs.YtabplbmbnakalaaGreatDoor
end
section
set_option linter.unusedVariables false
set_option linter.unusedSimpArgs false
namespace Go.Proofs.YtabplbmbnakalaaGreatDoor
open Go.RowKit

section
variable {P : Program} {ro : Option Nat} {n : Nat} {ds : List Deferred} {Q : PT} {l l' : Fr} {w w' : World} {arr : Array Oper} {r : List Oper} {k : List It}

theorem and1 {d : Nat} {t t2 ty : TypeId} {x y : Operand} {ps : String} {af : Array Edge} {g : Option (Nat × Bool)} (m : Nat) (hx : ev l x = some (.int .u64 (m : Nat))) (hy : ev l y = some (.int .u64 1)) (hm : m < 18446744073709551616) (hg : gd arr l g = some true) (hd : Nat.blt d n = true)
    (t' : T P ro n ds Q ((d, .int .u64 ((m % 2 : Nat) : Int)) :: l) w (.ops arr r) k) : T P ro n ds Q l w (.ops arr (⟨some d, .binOp .and t x y t2, ty, ps, af, g⟩ :: r)) k := by
  have h1 : (BitVec.ofInt 64 (m : Int) &&& BitVec.ofInt 64 1).toNat = m % 2 := by
    rw [BitVec.toNat_and]
    have h2 : (BitVec.ofInt 64 (m : Int)).toNat = m := by simp [BitVec.toNat_ofInt]; omega
    have h3 : (BitVec.ofInt 64 1).toNat = 1 := by decide
    rw [h2, h3, Nat.and_one_is_mod]
  have h4 : IntKind.u64.wrap (((m % 2 : Nat) : Int)) = ((m % 2 : Nat) : Int) := wrap_in (by simp only [InR]; omega)
  refine op1 (w' := w) (v := .int .u64 ((m % 2 : Nat) : Int)) (by intro c h; cases h) hg (by simp only [put1, hd]) (fun a hf => ?_) t'
  have h5 : (binOp .and t (.int .u64 (m : Nat)) (.int .u64 1)).run P w = .ok (.int .u64 ((m % 2 : Nat) : Int)) w := by
    simp only [binOp_and, Op.intBits]
    show (pure _ : Sem Value).run P w = _
    simp only [Sem.run_pure]
    show Result.ok (Value.int .u64 (IntKind.u64.wrap ((BitVec.ofInt 64 (m : Int) &&& BitVec.ofInt 64 1).toNat : Int))) w = _
    rw [h1, h4]
  simp [execOp, hf.ev hx, hf.ev hy, eqGuard, h5]

theorem shr1 {d : Nat} {t t2 ty : TypeId} {x y : Operand} {ps : String} {af : Array Edge} {g : Option (Nat × Bool)} {kk : IntKind} (m s : Nat) (hx : ev l x = some (.int .u64 (m : Nat))) (hy : ev l y = some (.int kk (s : Nat))) (hs : s ≤ 64) (hg : gd arr l g = some true) (hd : Nat.blt d n = true)
    (t' : T P ro n ds Q ((d, .int .u64 ((m / 2 ^ s : Nat) : Int)) :: l) w (.ops arr r) k) : T P ro n ds Q l w (.ops arr (⟨some d, .binOp .shr t x y t2, ty, ps, af, g⟩ :: r)) k := by
  refine op1 (w' := w) (v := .int .u64 ((m / 2 ^ s : Nat) : Int)) (by intro c h; cases h) hg (by simp only [put1, hd]) (fun a hf => ?_) t'
  have h5 : (binOp .shr t (.int .u64 (m : Nat)) (.int kk (s : Nat))).run P w = .ok (.int .u64 ((m / 2 ^ s : Nat) : Int)) w := by
    simp only [binOp, Op.shift]
    rw [if_neg (by omega)]
    have hmin : min ((s : Nat) : Int).toNat IntKind.u64.bits = s := by
      show min ((s : Nat) : Int).toNat 64 = s
      rw [Int.toNat_natCast]; omega
    rw [hmin]
    simp only [Sem.run_pure]
    congr 2
    rw [show ((2 : Int) ^ s) = ((2 ^ s : Nat) : Int) by simp, Int.fdiv_eq_ediv_of_nonneg _ (Int.natCast_nonneg _)]
    rfl
  simp [execOp, hf.ev hx, hf.ev hy, eqGuard, h5]
end
end Go.Proofs.YtabplbmbnakalaaGreatDoor
end
section
set_option linter.unusedSimpArgs false
set_option linter.unusedVariables false
set_option maxHeartbeats 1000000
namespace Go.Proofs.YtabplbmbnakalaaGreatDoor
open Go Go.Proofs Go.RowKit Go.Lib

theorem pow_step {O S mu : Nat} : O * S ^ mu = (if mu % 2 = 1 then O * S else O) * (S * S) ^ (mu / 2) := by
  have h := Nat.div_add_mod mu 2
  have h2 : (S * S) ^ (mu / 2) = S ^ (2 * (mu / 2)) := by rw [Nat.pow_mul, Nat.pow_two]
  rw [h2]
  split
  · rename_i h1
    have h3 : S ^ mu = S ^ (2 * (mu / 2)) * S := by
      conv => lhs; rw [← h, h1]
      exact Nat.pow_succ _ _
    rw [h3, Nat.mul_assoc, Nat.mul_comm S]
  · rename_i h1
    have h3 : mu = 2 * (mu / 2) := by omega
    conv => lhs; rw [h3]

theorem one_red {w : World} {b : Nat} (h : Bk w b 119 [.int .u64 1]) : Rd w (some ⟨b, 0, none⟩) 1 (lim 1) := by
  rw [lim_one]
  exact ⟨by have := h.sl 0; simpa [u64] using this, by simp, fun g hg => by simp [ab] at hg; have := h.lt; omega⟩


theorem pow_calls (p n limit : Nat) (hn : n < 18446744073709551616) (a : Option Addr) (c : Nat) (w : World) (ha : Rd w a c (lim p)) (hp : nDigits p ≤ limit) (hlim : limit ≤ 1048576) (ht : TabOk w) :
    Calls Tryz.prog 93 #[.slice a (lim p).length c, u64 n, .int .i64 (limit : Nat)] w
      (Ret fun v w' => ∃ v1, v = .tuple ⟨[v1, .bool (decide (nDigits (p ^ n) ≤ limit))]⟩ ∧ (nDigits (p ^ n) ≤ limit → Red w' v1 (lim (p ^ n))) ∧ Below w.heap.size w w') := by
  have hl1 : 1 ≤ limit := Nat.le_trans (nDigits_pos p) hp
  have hd1 : nDigits 1 = 1 := nDigits_small (by omega)
  have hd0 := nD_zero
  have hple := lim_le_nD p
  refine enter Tryz.func93 rfl Tryz.ntmps93 (Nat.le_of_ble_eq_true rfl) ?_
  refine dr U 600 rfl trivial ?_
  refine bx rfl rfl rfl rfl ?_
  intro b5 w1 hb5 hs1 hk5 hg1
  have hB1 : Below w.heap.size w w1 := (Below.refl _ w).grown hg1 (Nat.le_refl _) (fun k e => by cases e)
  have ht1 := ht.new hg1
  have ha1 := ha.below hB1
  refine dr U 600 rfl trivial ?_
  refine cS rfl rfl rfl rfl (fun hq => ?_) (fun hq => ?_)
  · obtain rfl : n = 0 := by omega
    refine dr U 600 rfl trivial ?_
    refine bs1 U rfl rfl rfl rfl rfl rfl rfl ?_
    intro w2 hk hs2 hg2
    refine dr U 600 rfl trivial ?_
    refine ret Tryz.results93 rfl ⟨_, rfl, .slice (some ⟨w1.heap.size, 0, none⟩) 1 1, by rw [Nat.pow_zero, hd1, decide_eq_true hl1]; rfl, fun _ => ⟨some ⟨w1.heap.size, 0, none⟩, 1, by rw [Nat.pow_zero, lim_one]; rfl, by rw [Nat.pow_zero]; exact one_red hk⟩, hB1.grown hg2 hB1.size (fun k e => by cases e)⟩
  · have hn0 : n ≠ 0 := by omega
    refine dr U 600 rfl trivial ?_
    have hz := zero_calls (lim p) a c w1
    by_cases hp0 : p = 0
    · subst hp0
      rw [lim_zero] at *
      refine call (f := 97) rfl rfl cb97 hz ?_
      rintro v w2 ⟨rfl, rfl⟩
      refine ⟨_, rfl, ?_⟩
      rw [decide_eq_true (show ([] : List Nat) = [] from rfl)]
      refine dr U 600 rfl trivial ?_
      refine ret Tryz.results93 rfl ⟨_, rfl, .slice a 0 c, by rw [Nat.zero_pow (by omega), hd0, decide_eq_true hl1]; rfl, fun _ => ⟨a, c, by rw [Nat.zero_pow (by omega), lim_zero]; rfl, by rw [Nat.zero_pow (by omega), lim_zero]; exact ha1⟩, hB1⟩
    · refine call (f := 97) rfl rfl cb97 hz ?_
      rintro v w2 ⟨rfl, rfl⟩
      refine ⟨_, rfl, ?_⟩
      rw [decide_eq_false (fun e => hp0 (lim_eq_nil.1 e))]
      refine dr U 600 rfl trivial ?_
      have ho := one_calls p a c w1 ha1
      refine call (f := 128) rfl rfl cb128 ho ?_
      rintro v w2 ⟨rfl, rfl⟩
      refine ⟨_, rfl, ?_⟩
      by_cases hp1 : p = 1
      · subst hp1
        rw [decide_eq_true rfl]
        refine dr U 600 rfl trivial ?_
        refine ret Tryz.results93 rfl ⟨_, rfl, .slice a (lim 1).length c, by rw [Nat.one_pow, hd1, decide_eq_true hl1]; rfl, fun _ => ⟨a, c, by rw [Nat.one_pow], by rw [Nat.one_pow]; exact ha1⟩, hB1⟩
      · rw [decide_eq_false hp1]
        refine dr U 600 rfl trivial ?_
        refine bs1 U rfl rfl rfl rfl rfl rfl rfl ?_
        intro w2 hko hs2 hg2
        refine dr U 600 rfl trivial ?_
        refine al U rfl rfl rfl rfl ?_
        intro b9 w3 hb9 hs3 hk9 hg3
        refine al U rfl rfl rfl rfl ?_
        intro b10 w4 hb10 hs4 hk10 hg4
        refine dr U 600 rfl trivial ?_
        have hk9 := hk9.keep hg4 (by simp)
        refine st U rfl rfl rfl rfl rfl rfl rfl rfl rfl rfl (hk9) ?_
        intro w5 hk9 hg5 hs5
        have hk10 := hk10.keep hg5 (by simp; omega)
        refine st U rfl rfl rfl rfl rfl rfl rfl rfl rfl rfl (hk10) ?_
        intro w6 hk10 hg6 hs6
        have hk9 := hk9.keep hg6 (by simp; omega)
        have hk5 := ((((hk5.keep hg2 (by simp)).keep hg3 (by simp)).keep hg4 (by simp)).keep hg5 (by simp; omega)).keep hg6 (by simp; omega)
        have hko := (((hko.keep hg3 (by simp)).keep hg4 (by simp)).keep hg5 (by simp; omega)).keep hg6 (by simp; omega)
        have hB2 := hB1.grown hg2 hB1.size (fun k e => by cases e)
        have hB3 := hB2.grown hg3 hB2.size (fun k e => by cases e)
        have hB4 := hB3.grown hg4 hB3.size (fun k e => by cases e)
        have hB5 := hB4.grown hg5 hB4.size (fun k e => by cases e; have := hB2.size; omega)
        have hB6 := hB5.grown hg6 hB5.size (fun k e => by cases e; have := hB3.size; omega)
        have hsz1 := hB1.size
        have ht6 := ht.below hB6
        have hn9 := tab_ne ht6 hk9
        have hn10 := tab_ne ht6 hk10
        refine dr U 600 rfl trivial ?_
        refine loopR (fun l w' mu => ∃ O S ao co sa cs, l = [(1, .int .u64 (mu : Nat)), (8, .slice ao (lim O).length co), (9, .pointer (some ⟨b9, 0, none⟩)), (5, .pointer (some ⟨b5, 0, none⟩)), (10, .pointer (some ⟨b10, 0, none⟩)),
            (11, .func (.func 129) ⟨[]⟩ ⟨[.pointer (some ⟨b9, 0, none⟩), .pointer (some ⟨b5, 0, none⟩), .pointer (some ⟨b10, 0, none⟩)]⟩)] ∧ 1 ≤ mu ∧ mu < 18446744073709551616 ∧ O * S ^ mu = p ^ n ∧ 0 < O ∧ 2 ≤ S ∧ nDigits O ≤ limit ∧ nDigits S ≤ 2 * limit ∧
            Rd w' ao co (lim O) ∧ (∀ g, ab ao = some g → g ≠ b9 ∧ g ≠ b10) ∧ Bk w' b9 113 [.slice sa (lim S).length cs] ∧ Rd w' sa cs (lim S) ∧ Bk w' b5 3 [.int .i64 (limit : Nat)] ∧ Bk w' b10 4 [.bool (decide (nDigits S ≤ limit))] ∧ TabOk w' ∧ Below w.heap.size w w')
          (m0 := n) ⟨1, p, some ⟨w1.heap.size, 0, none⟩, 1, a, c, rfl, by omega, hn, by rw [Nat.one_mul], by omega, by omega, by omega, by omega, one_red hko, fun g hg => by simp [ab] at hg; omega, hk9, ha.below hB6, hk5, ?_, ht6, hB6⟩ ⟨rfl, by rw [lim_one]; rfl, rfl, rfl, rfl, rfl, trivial⟩ ?_
        · rw [decide_eq_true hp]; exact hk10
        rintro l l_w mu ⟨O, S, ao, co, sa, cs, rfl, hmu, hmu2, hpw, hO, hS, hdO, hdS, hrO, hnO, hk9, hrS, hk5, hk10, ht', hB⟩
        have hOl := lim_le_nD O
        have hSl := lim_le_nD S
        have hst := @pow_step O S mu
        rw [hpw] at hst
        have hSS : 0 < (S * S) ^ (mu / 2) := Nat.pow_pos (Nat.mul_pos (by omega) (by omega))
        refine dr U 600 rfl trivial ?_
        refine and1 mu rfl rfl hmu2 rfl rfl ?_
        refine dr U 600 rfl trivial ?_
        refine cS rfl rfl rfl rfl (fun hq => ?_) (fun hq => ?_)
        · have hodd : mu % 2 = 1 := by omega
          rw [if_pos hodd] at hst
          refine dr U 600 rfl trivial ?_
          refine ld U rfl rfl rfl rfl ((hk9).cell rfl) ?_
          refine call (f := 125) rfl rfl cb125 (mul_calls O S ao sa co cs l_w hrO hrS (by omega) (by omega)) ?_
          rintro v w7 ⟨a7, c7, rfl, hown, hB7⟩
          refine ⟨_, rfl, ?_⟩
          have hr7 := own_rd hown
          have hb7 := own_block hown
          have h9 := hk9.below hB7 hk9.lt
          have h5 := hk5.below hB7 hk5.lt
          have h10 := hk10.below hB7 hk10.lt
          have ht7 := ht'.below hB7
          have hB7' := bl_tr hB hB7 hB.size
          have hrS7 := hrS.below hB7
          have hOS : O * S ≤ p ^ n := by rw [hst]; exact Nat.le_mul_of_pos_right _ hSS
          have hSOS : S ≤ O * S := Nat.le_mul_of_pos_left _ hO
          have hdOS := nD_mul O S
          have hOSl := lim_le_nD (O * S)
          have hlt10 := hk10.lt
          have hlt9 := hk9.lt
          refine dr U 600 rfl trivial ?_
          by_cases hf : nDigits S ≤ limit
          · have h10t := h10
            rw [decide_eq_true hf] at h10t
            have hq5 := h5.cell (off := 0) rfl
            have hq10 := h10t.cell (off := 0) rfl
            refine dwn 7 (fun w' => w'.cell? ⟨b10, 0, none⟩ = some (.bool true) ∧ w'.cell? ⟨b5, 0, none⟩ = some (.int .i64 (limit : Nat))) hmo ?_
            intro w8 hh hg8
            have hC : w8.cell? ⟨b10, 0, none⟩ = some (.bool true) ∧ w8.cell? ⟨b5, 0, none⟩ = some (.int .i64 (limit : Nat)) := ⟨cell_heap hh hq10, cell_heap hh hq5⟩
            refine dq U [0,1,2,3,5] [(0, .bool true), (5, .int .i64 (limit : Nat))] (by kernel_rfl) rfl rfl hC (by simp only [AllP, InR, List.nil_append, List.cons_append]; (repeat' apply And.intro); all_goals first | exact True.intro | omega | (simp only [List.length_cons, List.length_nil]; omega) | (intro w_ hw_; refine ldC U rfl hw_ ?_; first | assumption | (simp [add_plain]; assumption)) | (intro w_ hw_; refine run_load_cell U rfl ?_; first | exact hw_ | exact hw_.1 | exact hw_.2 | exact hw_.2.1 | exact hw_.2.2 | exact hw_.2.2.1 | exact hw_.2.2.2 | (simp [add_plain]; first | exact hw_.1 | exact hw_.2.1 | exact hw_.2.2))) ?_
            refine d1 rfl rfl (fun _ => hC) ?_
            have hr8 : Rd w8 a7 c7 (lim (O * S)) := ⟨heap_sl hh hr7.1, hr7.2.1, fun g hg => by rw [hh]; exact hr7.2.2 g hg⟩
            refine call (f := 130) rfl rfl cb130 (digits_calls (O * S) a7 c7 w8 hr8 (by omega) (ht7.new hg8)) ?_
            rintro v w9 ⟨rfl, hB9⟩
            refine ⟨_, rfl, d2 ?_⟩
            have hlt8 : ∀ {b t cs}, Bk w7 b t cs → b < w8.heap.size := fun h => by rw [hh]; exact h.lt
            have hkX9 := (heap_bk hh h9).below hB9 (hlt8 h9)
            have hkX5 := (heap_bk hh h5).below hB9 (hlt8 h5)
            have hkX10 := (heap_bk hh h10).below hB9 (hlt8 h10)
            have hkXt := (heap_bk hh h10t).below hB9 (hlt8 h10t)
            have hrX := hr8.below hB9
            have hrXS : Rd w9 sa cs (lim S) := Rd.below (w := w8) ⟨heap_sl hh hrS7.1, hrS7.2.1, fun g hg => by rw [hh]; exact hrS7.2.2 g hg⟩ hB9
            have htX := (ht7.new hg8).below hB9
            have hB8 := hB7'.grown hg8 hB7'.size (fun k e => by cases e)
            have hBX := bl_tr hB8 hB9 hB8.size
            have hnX : ∀ g, ab a7 = some g → g ≠ b9 ∧ g ≠ b10 := fun g hg => by have := hb7 g hg; omega
            have hC9 : w9.cell? ⟨b10, 0, none⟩ = some (.bool true) ∧ w9.cell? ⟨b5, 0, none⟩ = some (.int .i64 (limit : Nat)) := ⟨hkXt.cell rfl, hkX5.cell rfl⟩
            refine d1 rfl rfl (fun _ => hC9) ?_
            refine cS rfl rfl rfl rfl (fun hq => ?_) (fun hq => ?_)
            · refine d2 ?_
              refine d1 rfl rfl (fun _ => hC9) ?_
              refine dr U 600 rfl trivial ?_
              refine d3 ?_; refine dend rfl (fun h => by cases h) ?_
              refine dr U 600 rfl trivial ?_
              have hno : ¬ nDigits (p ^ n) ≤ limit := fun h => by have := nD_mono hOS; omega
              refine ret Tryz.results93 rfl ⟨_, rfl, .slice none 0 0, by rw [decide_eq_false hno]; rfl, fun h => absurd h hno, hBX⟩
            · refine d2 ?_
              refine d1 rfl rfl (fun _ => hC9) ?_
              refine dr U 600 rfl trivial ?_
              refine d3 ?_; refine dend rfl (fun h => by cases h) ?_
              have hdX : nDigits (O * S) ≤ limit := by omega
              have hOX : 0 < O * S := by omega
              refine dr U 600 rfl (by first | exact True.intro | (simp only [AllP, InR, List.nil_append, List.cons_append, and_true]; omega)) ?_
              refine shr1 mu 1 rfl rfl (by omega) rfl rfl ?_
              rw [Nat.pow_one]
              refine dr U 600 rfl trivial ?_
              refine cS rfl rfl rfl rfl (fun hq => ?_) (fun hq => ?_)
              · have hm0 : mu / 2 = 0 := by omega
                rw [hm0, Nat.pow_zero, Nat.mul_one] at hst
                refine dr U 600 rfl trivial ?_
                refine ret Tryz.results93 rfl ⟨_, rfl, .slice a7 (lim (O*S)).length c7, by rw [hst, decide_eq_true hdX]; rfl, fun _ => ⟨a7, c7, by rw [hst], by rw [hst]; exact hrX⟩, hBX⟩
              · have hm0 : 0 < mu / 2 := by omega
                have hge : S ≤ p ^ n := by
                  rw [hst]
                  have h1 : S * S ≤ (S * S) ^ (mu / 2) := by
                    have : (S * S) ^ 1 ≤ (S * S) ^ (mu / 2) := Nat.pow_le_pow_right (Nat.mul_pos (by omega) (by omega)) hm0
                    rwa [Nat.pow_one] at this
                  have h2 : S * 1 ≤ S * S := Nat.mul_le_mul_left _ (by omega)
                  have h3 : 1 * (S * S) ^ (mu / 2) ≤ (O*S) * (S * S) ^ (mu / 2) := Nat.mul_le_mul_right _ hOX
                  omega
                refine dr U 600 rfl trivial ?_
                by_cases hf2 : nDigits S ≤ limit
                · have hkt := hkX10
                  rw [decide_eq_true hf2] at hkt
                  refine ld U rfl rfl rfl rfl ((hkt).cell rfl) ?_
                  refine dr U 600 rfl trivial ?_
                  have hdc := double_calls S limit b9 b5 b10 sa cs true w9 (by omega) (by omega) (by omega) hkX9 hkX5 hkt hrXS (by omega) hlim htX
                  refine call (f := 129) rfl rfl cb129 hdc ?_
                  rintro v wY ⟨rfl, hOth, ⟨a', c', hk9', hr', hb'⟩, hk10'⟩
                  refine ⟨_, rfl, ?_⟩
                  refine dr U 600 rfl trivial ?_
                  have hBXs := hBX.size
                  refine rend _ (mu / 2) ⟨(O*S), S * S, a7, c7, a', c', rfl, by omega, by omega, hst.symm, hOX, Nat.le_trans hS (Nat.le_mul_of_pos_right _ (by omega)), hdX, by have := nD_mul S S; omega,
                    hOth.rd hrX (fun g hg => by have := hnX g hg; simp; omega), hnX, hk9', hr', hOth.bk hkX5 (by simp; omega), hk10', hOth.tab htX (by simp; omega),
                    bl_tr hBX (hOth.below (Nat.le_refl w9.heap.size |> fun _ => hBXs) (fun b hb => by simp at hb; rcases hb with rfl | rfl <;> omega)) (Nat.le_refl _)⟩ (by omega) ⟨rfl, rfl, rfl, rfl, rfl, rfl, trivial⟩
                · have hkt := hkX10
                  rw [decide_eq_false hf2] at hkt
                  refine ld U rfl rfl rfl rfl ((hkt).cell rfl) ?_
                  refine dr U 600 rfl trivial ?_
                  have hno : ¬ nDigits (p ^ n) ≤ limit := fun h => hf2 (Nat.le_trans (nD_mono hge) h)
                  refine ret Tryz.results93 rfl ⟨_, rfl, .slice none 0 0, by rw [decide_eq_false hno]; rfl, fun h => absurd h hno, hBX⟩
          · have h10t := h10
            rw [decide_eq_false hf] at h10t
            have hq10 := h10t.cell (off := 0) rfl
            refine dwn 7 (fun w' => w'.heap = w7.heap) hmo ?_
            intro w8 hh hg8
            refine dq U [0,1,2,3,4,5,6] [(0, .bool false)] (by kernel_rfl) rfl rfl hh (by simp only [AllP, InR, List.nil_append, List.cons_append]; (repeat' apply And.intro); all_goals first | exact True.intro | omega | (simp only [List.length_cons, List.length_nil]; omega) | (intro w_ hw_; refine ldC U rfl hw_ ?_; first | assumption | (simp [add_plain]; assumption)) | (intro w_ hw_; refine run_load_cell U rfl ?_; first | exact hw_ | exact hw_.1 | exact hw_.2 | exact hw_.2.1 | exact hw_.2.2 | exact hw_.2.2.1 | exact hw_.2.2.2 | (simp [add_plain]; first | exact hw_.1 | exact hw_.2.1 | exact hw_.2.2))) ?_
            refine d1 rfl rfl (fun _ => hh) ?_
            refine dr U 600 rfl trivial ?_
            refine d3 ?_; refine dend rfl (fun h => by cases h) ?_
            refine dr U 600 rfl trivial ?_
            have hno : ¬ nDigits (p ^ n) ≤ limit := fun h => hf (Nat.le_trans (nD_mono (Nat.le_trans hSOS hOS)) h)
            refine ret Tryz.results93 rfl ⟨_, rfl, .slice none 0 0, by rw [decide_eq_false hno]; rfl, fun h => absurd h hno, hB7'.grown hg8 hB7'.size (fun k e => by cases e)⟩
        · have hodd : ¬ mu % 2 = 1 := by omega
          rw [if_neg hodd] at hst
          have hlt10 := hk10.lt
          have hlt9 := hk9.lt
          refine dr U 600 rfl (by first | exact True.intro | (simp only [AllP, InR, List.nil_append, List.cons_append, and_true]; omega)) ?_
          refine shr1 mu 1 rfl rfl (by omega) rfl rfl ?_
          rw [Nat.pow_one]
          refine dr U 600 rfl trivial ?_
          refine cS rfl rfl rfl rfl (fun hq => ?_) (fun hq => ?_)
          · have hm0 : mu / 2 = 0 := by omega
            rw [hm0, Nat.pow_zero, Nat.mul_one] at hst
            refine dr U 600 rfl trivial ?_
            refine ret Tryz.results93 rfl ⟨_, rfl, .slice ao (lim O).length co, by rw [hst, decide_eq_true hdO]; rfl, fun _ => ⟨ao, co, by rw [hst], by rw [hst]; exact hrO⟩, hB⟩
          · have hm0 : 0 < mu / 2 := by omega
            have hge : S ≤ p ^ n := by
              rw [hst]
              have h1 : S * S ≤ (S * S) ^ (mu / 2) := by
                have : (S * S) ^ 1 ≤ (S * S) ^ (mu / 2) := Nat.pow_le_pow_right (Nat.mul_pos (by omega) (by omega)) hm0
                rwa [Nat.pow_one] at this
              have h2 : S * 1 ≤ S * S := Nat.mul_le_mul_left _ (by omega)
              have h3 : 1 * (S * S) ^ (mu / 2) ≤ O * (S * S) ^ (mu / 2) := Nat.mul_le_mul_right _ hO
              omega
            refine dr U 600 rfl trivial ?_
            by_cases hf2 : nDigits S ≤ limit
            · have hkt := hk10
              rw [decide_eq_true hf2] at hkt
              refine ld U rfl rfl rfl rfl ((hkt).cell rfl) ?_
              refine dr U 600 rfl trivial ?_
              have hdc := double_calls S limit b9 b5 b10 sa cs true l_w (by omega) (by omega) (by omega) hk9 hk5 hkt hrS (by omega) hlim ht'
              refine call (f := 129) rfl rfl cb129 hdc ?_
              rintro v wY ⟨rfl, hOth, ⟨a', c', hk9', hr', hb'⟩, hk10'⟩
              refine ⟨_, rfl, ?_⟩
              refine dr U 600 rfl trivial ?_
              have hBXs := hB.size
              refine rend _ (mu / 2) ⟨O, S * S, ao, co, a', c', rfl, by omega, by omega, hst.symm, hO, Nat.le_trans hS (Nat.le_mul_of_pos_right _ (by omega)), hdO, by have := nD_mul S S; omega,
                hOth.rd hrO (fun g hg => by have := hnO g hg; simp; omega), hnO, hk9', hr', hOth.bk hk5 (by simp; omega), hk10', hOth.tab ht' (by simp; omega),
                bl_tr hB (hOth.below (Nat.le_refl l_w.heap.size |> fun _ => hBXs) (fun b hb => by simp at hb; rcases hb with rfl | rfl <;> omega)) (Nat.le_refl _)⟩ (by omega) ⟨rfl, rfl, rfl, rfl, rfl, rfl, trivial⟩
            · have hkt := hk10
              rw [decide_eq_false hf2] at hkt
              refine ld U rfl rfl rfl rfl ((hkt).cell rfl) ?_
              refine dr U 600 rfl trivial ?_
              have hno : ¬ nDigits (p ^ n) ≤ limit := fun h => hf2 (Nat.le_trans (nD_mono hge) h)
              refine ret Tryz.results93 rfl ⟨_, rfl, .slice none 0 0, by rw [decide_eq_false hno]; rfl, fun h => absurd h hno, hB⟩
end Go.Proofs.YtabplbmbnakalaaGreatDoor
end
