/-
  Walks of package limbs: Digits, Gcd.
  Conditions: fewer than 2^36 limbs; the library's table of powers of ten is laid.

  Walk of package limbs: Pow.
  Conditions: the number has at most as many digits as the limit, which is from 1 to 2^20; the library's table of powers of ten is laid.

  Rules of the engine for bits of unsigned numbers: the lowest bit, a shift to the right by a constant.
  No conditions: each theorem names its own premises.

  Walk of package limbs: Pow.
  Conditions: the number has at most sa many digits sa the limit, which is from 1 to 2^20; the library's table of powers of ten is laid.
-/
import Derived.Test.YtfdekppnilffeaaGreatDoorYEng
import Derived.Test.YtfdekppnilffeaaGreatDoorYNum
import Derived.Test.YtfdekppnilffeaaGreatDoorYFmt
section
set_option linter.unusedSimpArgs false
set_option linter.unusedVariables false
namespace Go.Proofs.YtfdekppnilffeaaGreatDoor
open Go Go.Proofs Go.RowKit Go.Lib

theorem digits_calls (n : Nat) (a : Option Addr) (c : Nat) (w : World) (ha : Rd w a c (lim n)) (hl : (lim n).length ≤ 68719476736) (ht : TabOk w) :
    Calls Tryz.prog 106 #[.slice a (lim n).length c] w (Ret fun v w' => v = .int .i64 (nDigits n) ∧ Below w.heap.size w w') := by
  refine enter Tryz.func106 rfl Tryz.ntmps106 (Nat.le_of_ble_eq_true rfl) ?_
  refine dr U 600 rfl trivial ?_
  refine cS rfl rfl rfl rfl (fun hq => ?_) (fun hq => ?_)
  · have h0 : n = 0 := lim_eq_nil.1 (List.length_eq_zero_iff.1 (by omega))
    refine dr U 600 rfl trivial ?_
    refine ret Tryz.results106 rfl ⟨_, rfl, ?_, Below.refl _ _⟩
    rw [h0, nD_zero]; rfl
  · have h0 : n ≠ 0 := fun e => hq (by rw [e, lim_zero]; rfl)
    have hx := (lim_Lm n).getD ((lim n).length - 1)
    have hnd := nD_lim h0
    refine dr U 600 rfl (by first | exact True.intro | (simp only [AllP, InR, List.nil_append, List.cons_append, and_true]; omega)) ?_
    refine il U rfl rfl rfl rfl rfl rfl rfl (fun _ => rfl) rfl ((lim n).length - 1) (by omega) (by omega) ha.1 (getU (by omega)) ?_
    refine call (f := 129) rfl rfl cb129 (fmt_calls _ hx w ht) ?_
    rintro v w1 ⟨rfl, hB⟩
    refine ⟨_, rfl, ?_⟩
    have hb := nDigits_pos ((lim n).getD ((lim n).length - 1) 0)
    have hb2 := nD_le 9 ((lim n).getD ((lim n).length - 1) 0) (by omega) hx
    have hdl := decDigits_length ((lim n).getD ((lim n).length - 1) 0)
    refine dr U 600 rfl (by first | exact True.intro | (simp only [AllP, InR, List.nil_append, List.cons_append, and_true]; omega)) ?_
    refine ret Tryz.results106 rfl ⟨_, rfl, ?_, hB⟩
    show Value.int _ _ = Value.int _ _
    congr 1
    omega

theorem gcd_calls (p q : Nat) (a b : Option Addr) (c d : Nat) (w : World) (ha : Rd w a c (lim p)) (hb : Rd w b d (lim q)) (hpl : (lim p).length ≤ 68719476736) (hql : (lim q).length ≤ 68719476736) :
    Calls Tryz.prog 125 #[.slice a (lim p).length c, .slice b (lim q).length d] w (Ret fun v w' => Red w' v (lim (Nat.gcd p q)) ∧ Below w.heap.size w w') := by
  refine enter Tryz.func125 rfl Tryz.ntmps125 (Nat.le_of_ble_eq_true rfl) ?_
  refine dr U 600 rfl trivial ?_
  refine loopR (fun l w' mu => ∃ m0 a0 c0 b0 d0, l = [(0, .slice a0 (lim m0).length c0), (1, .slice b0 (lim mu).length d0)] ∧ Rd w' a0 c0 (lim m0) ∧ Rd w' b0 d0 (lim mu) ∧ Nat.gcd m0 mu = Nat.gcd p q ∧ (lim m0).length ≤ 68719476736 ∧ (lim mu).length ≤ 68719476736 ∧ Below w.heap.size w w')
    (m0 := q) ⟨p, a, c, b, d, rfl, ha, hb, rfl, hpl, hql, Below.refl _ _⟩ ⟨rfl, rfl, trivial⟩ ?_
  rintro l w1 mu ⟨m0, a0, c0, b0, d0, rfl, ha, hb, hg, hl1, hl2, hB⟩
  refine dr U 600 rfl trivial ?_
  refine cS rfl rfl rfl rfl (fun hq => ?_) (fun hq => ?_)
  · have h0 : 0 < mu := by
      rcases Nat.eq_zero_or_pos mu with h | h
      · rw [h, lim_zero] at hq; simp at hq
      · exact h
    refine dr U 600 rfl trivial ?_
    refine call (f := 133) rfl rfl cb133 (divmod_calls m0 mu h0 a0 b0 c0 d0 w1 ha hb hl1 hl2) ?_
    rintro v w2 ⟨v1, v2, rfl, _, ⟨a2, c2, rfl, hr2⟩, hB2⟩
    refine ⟨_, rfl, ?_⟩
    refine dr U 600 rfl trivial ?_
    refine rend _ (m0 % mu) ⟨mu, b0, d0, a2, c2, rfl, hb.below hB2, hr2, ?_, hl2, Nat.le_trans (lim_len_mono (Nat.le_of_lt (Nat.mod_lt _ h0))) hl2, bl_tr hB hB2 hB.size⟩ (Nat.mod_lt _ h0) ⟨rfl, rfl, trivial⟩
    rw [← hg, Nat.gcd_comm m0 mu, Nat.gcd_rec mu m0]; exact Nat.gcd_comm _ _
  · have h0 : mu = 0 := lim_eq_nil.1 (List.length_eq_zero_iff.1 (by omega))
    subst h0
    rw [Nat.gcd_zero_right] at hg
    subst hg
    refine dr U 600 rfl trivial ?_
    exact ret Tryz.results125 rfl ⟨_, rfl, ⟨a0, c0, rfl, ha⟩, hB⟩
end Go.Proofs.YtfdekppnilffeaaGreatDoor
end
section
set_option linter.unusedSimpArgs false
set_option linter.unusedVariables false
set_option maxHeartbeats 1000000
namespace Go.Proofs.YtfdekppnilffeaaGreatDoor
open Go Go.Proofs Go.RowKit Go.Lib

/-- Only these blocks may have turned. -/
structure Oth (bs : List Nat) (w w' : World) : Prop where
  os : w'.os = w.os
  tape : w'.tape = w.tape
  output : w'.output = w.output
  size : w.heap.size ≤ w'.heap.size
  block : ∀ k, k < w.heap.size → k ∉ bs → w'.heap[k]? = w.heap[k]?

theorem Oth.refl (bs : List Nat) (w : World) : Oth bs w w := ⟨rfl, rfl, rfl, Nat.le_refl _, fun _ _ _ => rfl⟩
theorem Oth.trans {bs : List Nat} {w w1 w2 : World} (h : Oth bs w w1) (h' : Oth bs w1 w2) : Oth bs w w2 :=
  ⟨h'.os.trans h.os, h'.tape.trans h.tape, h'.output.trans h.output, Nat.le_trans h.size h'.size, fun k hk hn => (h'.block k (Nat.lt_of_lt_of_le hk h.size) hn).trans (h.block k hk hn)⟩
theorem Oth.below {bs : List Nat} {w w' : World} {B : Nat} (h : Oth bs w w') (hB : B ≤ w.heap.size) (hb : ∀ b ∈ bs, B ≤ b) : Below B w w' :=
  ⟨h.os, h.tape, h.output, h.size, fun k hk => h.block k (Nat.lt_of_lt_of_le hk hB) (fun hm => by have := hb k hm; omega)⟩
theorem Oth.bk {bs : List Nat} {w w' : World} {b t : Nat} {cs : List Value} (h : Oth bs w w') (hb : Bk w b t cs) (hn : b ∉ bs) : Bk w' b t cs := by
  have hlt := hb.lt
  unfold Bk at *; rw [h.block b hlt hn]; exact hb
theorem Oth.rd {bs : List Nat} {w w' : World} {a : Option Addr} {c : Nat} {xs : List Nat} (h : Oth bs w w') (hr : Rd w a c xs) (hn : ∀ g, ab a = some g → g ∉ bs) : Rd w' a c xs :=
  ⟨fun j v hv => by
    obtain ⟨g, off, rfl, hc⟩ := hr.1 j v hv
    refine ⟨g, off, rfl, ?_⟩
    have := h.block g (hr.2.2 g rfl).lt (hn g rfl)
    unfold World.cell? at *; rw [this]; exact hc, hr.2.1, fun g hg => by
    have hl := (hr.2.2 g hg).lt
    obtain ⟨c, z, e⟩ := hr.2.2 g hg
    exact ⟨c, z, by rw [h.block g hl (hn g hg)]; exact e⟩⟩

theorem TabOk.keep {w w' : World} {row : Option Nat} (h : TabOk w) (hg : w.grownBy w' row) (hr : row ≠ some 1) : TabOk w' := by
  obtain ⟨t, x, h⟩ := h
  exact ⟨t, x, by rw [hg.block _ (Array.getElem?_eq_some_iff.1 h).1 (fun e => hr e.symm)]; exact h⟩
theorem Oth.tab {bs : List Nat} {w w' : World} (h : Oth bs w w') (ht : TabOk w) (hn : 1 ∉ bs) : TabOk w' := by
  obtain ⟨t, x, ht⟩ := ht
  exact ⟨t, x, by rw [h.block _ (Array.getElem?_eq_some_iff.1 ht).1 hn]; exact ht⟩

end Go.Proofs.YtfdekppnilffeaaGreatDoor
end
section
set_option linter.unusedVariables false
set_option linter.unusedSimpArgs false
namespace Go.Proofs.YtfdekppnilffeaaGreatDoor
open Go.RowKit

section
variable {P : Program} {ro : Option Nat} {n : Nat} {ds : List Deferred} {Q : PT} {l l' : Fr} {w w' : World} {arr : Array Oper} {r : List Oper} {k : List It}

end
end Go.Proofs.YtfdekppnilffeaaGreatDoor
end
section
set_option linter.unusedSimpArgs false
set_option linter.unusedVariables false
set_option maxHeartbeats 1000000
namespace Go.Proofs.YtfdekppnilffeaaGreatDoor
open Go Go.Proofs Go.RowKit Go.Lib

end Go.Proofs.YtfdekppnilffeaaGreatDoor
end
