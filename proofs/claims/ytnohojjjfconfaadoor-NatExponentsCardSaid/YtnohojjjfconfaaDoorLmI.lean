/-
  Walk of package limbs: Pow.
  Conditions: the number has at most as many digits as the limit, which is from 1 to 2^20; the library's table of powers of ten is laid.
-/
import Derived.Test.YtnohojjjfconfaaDoorLmH
set_option linter.unusedSimpArgs false
set_option linter.unusedVariables false
set_option maxHeartbeats 1000000
namespace Go.Proofs.YtnohojjjfconfaaDoor
open Go Go.Proofs Go.RowKit Go.Lib

/-- Only these blocks may have turned. -/
structure Oth (bs : List Nat) (w w' : World) : Prop where
  os : w'.os = w.os
  tape : w'.tape = w.tape
  output : w'.output = w.output
  size : w.heap.size ≤ w'.heap.size
  block : ∀ k, k < w.heap.size → k ∉ bs → w'.heap[k]? = w.heap[k]?

theorem Oth.refl (bs : List Nat) (w : World) : Oth bs w w := ⟨rfl, rfl, rfl, Nat.le_refl _, fun _ _ _ => rfl⟩
theorem Oth.trans {bs : List Nat} {w w1 w2 : World} (h : Oth bs w w1) (h' : Oth bs w1 w2) : Oth bs w w2 :=
  ⟨h'.os.trans h.os, h'.tape.trans h.tape, h'.output.trans h.output, Nat.le_trans h.size h'.size, fun k hk hn => (h'.block k (Nat.lt_of_lt_of_le hk h.size) hn).trans (h.block k hk hn)⟩
theorem Oth.of_below {bs : List Nat} {w w' : World} (h : Below w.heap.size w w') : Oth bs w w' := ⟨h.os, h.tape, h.output, h.size, fun k hk _ => h.block k hk⟩
theorem Oth.of_grown {bs : List Nat} {w w' : World} {row : Option Nat} (h : w.grownBy w' row) (hr : ∀ r, row = some r → r ∈ bs) : Oth bs w w' :=
  ⟨h.os, h.tape, h.output, h.size, fun k hk hn => h.block k hk (fun e => hn (hr k e.symm))⟩
theorem Oth.below {bs : List Nat} {w w' : World} {B : Nat} (h : Oth bs w w') (hB : B ≤ w.heap.size) (hb : ∀ b ∈ bs, B ≤ b) : Below B w w' :=
  ⟨h.os, h.tape, h.output, h.size, fun k hk => h.block k (Nat.lt_of_lt_of_le hk hB) (fun hm => by have := hb k hm; omega)⟩
theorem Oth.bk {bs : List Nat} {w w' : World} {b t : Nat} {cs : List Value} (h : Oth bs w w') (hb : Bk w b t cs) (hn : b ∉ bs) : Bk w' b t cs := by
  have hlt := hb.lt
  unfold Bk at *; rw [h.block b hlt hn]; exact hb
theorem Oth.rd {bs : List Nat} {w w' : World} {a : Option Addr} {c : Nat} {xs : List Nat} (h : Oth bs w w') (hr : Rd w a c xs) (hn : ∀ g, ab a = some g → g ∉ bs) : Rd w' a c xs :=
  ⟨fun j v hv => by
    obtain ⟨g, off, rfl, hc⟩ := hr.1 j v hv
    refine ⟨g, off, rfl, ?_⟩
    have := h.block g (hr.2.2 g rfl) (hn g rfl)
    unfold World.cell? at *; rw [this]; exact hc, hr.2.1, fun g hg => Nat.lt_of_lt_of_le (hr.2.2 g hg) h.size⟩

theorem tab_ne {w : World} (h : TabOk w) {b t : Nat} {v : Value} (hb : Bk w b t [v]) : b ≠ 2 := by
  rintro rfl
  obtain ⟨t', x, h⟩ := h
  unfold Bk at hb
  rw [hb] at h
  simp [Lib.pow10Tab] at h
  have := congrArg List.length h.1
  simp at this
theorem TabOk.keep {w w' : World} {row : Option Nat} (h : TabOk w) (hg : w.grownBy w' row) (hr : row ≠ some 2) : TabOk w' := by
  obtain ⟨t, x, h⟩ := h
  exact ⟨t, x, by rw [hg.block _ (Array.getElem?_eq_some_iff.1 h).1 (fun e => hr e.symm)]; exact h⟩
theorem Oth.tab {bs : List Nat} {w w' : World} (h : Oth bs w w') (ht : TabOk w) (hn : 2 ∉ bs) : TabOk w' := by
  obtain ⟨t, x, ht⟩ := ht
  exact ⟨t, x, by rw [h.block _ (Array.getElem?_eq_some_iff.1 ht).1 hn]; exact ht⟩

theorem double_calls (S limit b9 b5 b10 : Nat) (a : Option Addr) (c : Nat) (f : Bool) (w : World) (hne1 : b9 ≠ b10) (hne2 : b5 ≠ b9) (hne3 : b5 ≠ b10)
    (hk9 : Bk w b9 40 [.slice a (lim S).length c]) (hk5 : Bk w b5 3 [.int .i64 (limit : Nat)]) (hk10 : Bk w b10 4 [.bool f]) (hr : Rd w a c (lim S)) (hl : (lim S).length ≤ 34359738368) (hlim : limit ≤ 1048576) (ht : TabOk w) :
    Calls Tryd.prog 43 #[.pointer (some ⟨b9, 0, none⟩), .pointer (some ⟨b5, 0, none⟩), .pointer (some ⟨b10, 0, none⟩)] w
      (Ret fun v w' => v = .tuple ⟨[]⟩ ∧ Oth [b9, b10] w w' ∧ (∃ a' c', Bk w' b9 40 [.slice a' (lim (S * S)).length c'] ∧ Rd w' a' c' (lim (S * S)) ∧ ∀ g, ab a' = some g → w.heap.size ≤ g) ∧ Bk w' b10 4 [.bool (decide (nDigits (S * S) ≤ limit))]) := by
  have htn := tab_ne ht hk9
  have hlt9 := hk9.lt
  have hlt5 := hk5.lt
  have hlt10 := hk10.lt
  refine enter Tryd.func43 rfl Tryd.ntmps43 (Nat.le_of_ble_eq_true rfl) ?_
  refine dr U 600 rfl trivial ?_
  refine ld U rfl rfl rfl rfl ((hk9).cell rfl) ?_
  refine ld U rfl rfl rfl rfl ((hk9).cell rfl) ?_
  refine call (f := 37) rfl rfl cb37 (mul_calls S S a a c c w hr hr (by omega) (by omega)) ?_
  rintro v w1 ⟨a1, c1, rfl, hown, hB1⟩
  refine ⟨_, rfl, ?_⟩
  have hk9 := hk9.below hB1 hlt9
  have hk5 := hk5.below hB1 hlt5
  have hk10 := hk10.below hB1 hlt10
  have hrd := own_rd hown
  have hblk := own_block hown
  refine st U rfl rfl rfl rfl rfl rfl rfl rfl rfl rfl (hk9) ?_
  intro w2 hk9 hg2 hs2
  have hsz := hB1.size
  have hO2 : Oth [b9, b10] w w2 := (Oth.of_below hB1).trans (Oth.of_grown hg2 (fun r e => by cases e; simp))
  have hk5 := hk5.keep hg2 (by simpa using fun e => hne2 e.symm)
  have hk10 := hk10.keep hg2 (by simpa using hne1)
  have hrd2 : Rd w2 a1 c1 (lim (S * S)) := ⟨hrd.1.keep hg2 (fun g hg e => by have := hblk g hg; cases e; omega), hrd.2.1, fun g hg => by rw [hs2]; exact hrd.2.2 g hg⟩
  have ht2 : TabOk w2 := (ht.below hB1).keep hg2 (by simpa using htn)
  refine dr U 600 rfl trivial ?_
  have hq9 := hk9.cell (off := 0) rfl
  have hq5 := hk5.cell (off := 0) rfl
  refine dwn 4 (fun w' => w'.cell? ⟨b9, 0, none⟩ = some (.slice a1 (lim (S * S)).length c1) ∧ w'.cell? ⟨b5, 0, none⟩ = some (.int .i64 (limit : Nat))) hmo ?_
  intro w3 hh3 hg3
  have hC : w3.cell? ⟨b9, 0, none⟩ = some (.slice a1 (lim (S * S)).length c1) ∧ w3.cell? ⟨b5, 0, none⟩ = some (.int .i64 (limit : Nat)) := ⟨cell_heap hh3 hq9, cell_heap hh3 hq5⟩
  refine dq U [0,2] [(0, .slice a1 (lim (S * S)).length c1), (2, .int .i64 (limit : Nat))] (by kernel_rfl) rfl rfl hC (by simp only [AllP, InR, List.nil_append, List.cons_append]; (repeat' apply And.intro); all_goals first | exact True.intro | omega | (intro w_ hw_; refine ldC U rfl hw_ ?_; first | assumption | (simp [add_plain]; assumption)) | (intro w_ hw_; refine run_load_cell U rfl ?_; first | exact hw_ | exact hw_.1 | exact hw_.2 | exact hw_.2.1 | exact hw_.2.2 | exact hw_.2.2.1 | exact hw_.2.2.2 | (simp [add_plain]; first | exact hw_.1 | exact hw_.2.1 | exact hw_.2.2))) ?_
  refine d1 rfl rfl (fun _ => hC) ?_
  have hll := lim_len_mul S S
  refine call (f := 44) rfl rfl cb44 (digits_calls (S * S) a1 c1 w3 ⟨heap_sl hh3 hrd2.1, hrd2.2.1, fun g hg => by rw [hh3]; exact hrd2.2.2 g hg⟩ (by omega) (ht2.new hg3)) ?_
  rintro v w4 ⟨rfl, hB4⟩
  have hk9n := (heap_bk hh3 hk9).below hB4 (by rw [hh3]; exact hk9.lt)
  have hk5n := (heap_bk hh3 hk5).below hB4 (by rw [hh3]; exact hk5.lt)
  have hk10n := (heap_bk hh3 hk10).below hB4 (by rw [hh3]; exact hk10.lt)
  have hO4 : Oth [b9, b10] w w4 := (hO2.trans (Oth.of_grown hg3 (fun r e => by cases e))).trans (Oth.of_below hB4)
  have hrd4 := Rd.below (w := w3) ⟨heap_sl hh3 hrd2.1, hrd2.2.1, fun g hg => by rw [hh3]; exact hrd2.2.2 g hg⟩ hB4
  refine ⟨_, rfl, d2 ?_⟩
  have hC4 : w4.cell? ⟨b9, 0, none⟩ = some (.slice a1 (lim (S * S)).length c1) ∧ w4.cell? ⟨b5, 0, none⟩ = some (.int .i64 (limit : Nat)) := ⟨hk9n.cell rfl, hk5n.cell rfl⟩
  refine d1 rfl rfl (fun _ => hC4) ?_
  have hfin : ∀ w5 bb, bb = decide (nDigits (S * S) ≤ limit) → Bk w5 b10 4 [.bool bb] → w4.grownBy w5 (some b10) → w5.heap.size = w4.heap.size →
      Oth [b9, b10] w w5 ∧ (∃ a' c', Bk w5 b9 40 [.slice a' (lim (S * S)).length c'] ∧ Rd w5 a' c' (lim (S * S)) ∧ ∀ g, ab a' = some g → w.heap.size ≤ g) ∧ Bk w5 b10 4 [.bool (decide (nDigits (S * S) ≤ limit))] := by
    rintro w5 bb rfl hk hg hs
    exact ⟨hO4.trans (Oth.of_grown hg (fun r e => by cases e; simp)), ⟨a1, c1, hk9n.keep hg (by simpa using fun e => hne1 e.symm), ⟨hrd4.1.keep hg (fun g hg2 e => by have := hblk g hg2; cases e; omega), hrd4.2.1, fun g hg2 => by rw [hs]; exact hrd4.2.2 g hg2⟩, fun g hg2 => (hblk g hg2).1⟩, hk⟩
  refine cS rfl rfl rfl rfl (fun hq => ?_) (fun hq => ?_)
  · refine d2 ?_
    refine d1 rfl rfl (fun _ => hC4) ?_
    refine st U rfl rfl rfl rfl rfl rfl rfl rfl rfl rfl (hk10n) ?_
    intro w5 hk5' hg5 hs5
    refine d2 ?_; refine dend rfl (fun h => by cases h) ?_
    refine dr U 600 rfl trivial ?_
    exact retN Tryd.results43 rfl ⟨_, rfl, rfl, hfin w5 true (by simp; omega) hk5' hg5 hs5⟩
  · refine d2 ?_
    refine d1 rfl rfl (fun _ => hC4) ?_
    refine st U rfl rfl rfl rfl rfl rfl rfl rfl rfl rfl (hk10n) ?_
    intro w5 hk5' hg5 hs5
    refine d2 ?_; refine dend rfl (fun h => by cases h) ?_
    refine dr U 600 rfl trivial ?_
    exact retN Tryd.results43 rfl ⟨_, rfl, rfl, hfin w5 false (by simp; omega) hk5' hg5 hs5⟩
end Go.Proofs.YtnohojjjfconfaaDoor
