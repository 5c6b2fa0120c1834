/-
  The law BitsCalls: it returns true for every input.
  Conditions: the library's table of powers of ten is laid; the slices can be read.
-/
import Derived.Test.YtcnbohfejgdcbaaGreatDoorYBl
import Derived.Test.YtcnbohfejgdcbaaGreatDoorYR7
import Derived.Test.YtcnbohfejgdcbaaGreatDoorYLawH
set_option linter.unusedSimpArgs false
set_option linter.unusedVariables false
set_option maxHeartbeats 2000000
namespace Go.Proofs.YtcnbohfejgdcbaaGreatDoor
open Go Go.Proofs Go.RowKit Go.Lib

theorem flat_bound : ∀ (ls : List (List UInt8)) (k : Nat), (∀ s ∈ ls, s.length ≤ k) → ls.flatten.length ≤ ls.length * k
  | [], k, _ => by simp
  | x :: r, k, h => by
    rw [List.flatten_cons, List.length_append, List.length_cons, Nat.succ_mul]
    have := flat_bound r k (fun s hs => h s (by simp [hs]))
    have := h x (by simp)
    omega
/-- A tuple of a text and an error. -/
def TE (v : Value) (s : List UInt8) (e : Int) : Prop := v = .tuple ⟨[.string ⟨⟨s⟩⟩, .int .i64 e]⟩
theorem NumR.te {l : List UInt8} {v : Value} (h : NumR l v) : ∃ s e, v = .tuple ⟨[.string ⟨⟨s⟩⟩, .int .i64 e]⟩ := by
  rcases h with ⟨e, _, _, rfl⟩ | ⟨_, rfl⟩ <;> exact ⟨_, _, rfl⟩
theorem CellR.te {l : List UInt8} {v : Value} (h : CellR l v) : ∃ s t e, v = .tuple ⟨[.string ⟨⟨s⟩⟩, .string ⟨⟨t⟩⟩, .int .i64 e]⟩ := by
  rcases h with ⟨e, _, _, rfl⟩ | ⟨_, rfl⟩ <;> exact ⟨_, _, _, rfl⟩
theorem WordR.te {x : List UInt8} {n : Int} {v : Value} (h : WordR x n v) : ∃ s e, v = .tuple ⟨[.string ⟨⟨s⟩⟩, .int .i64 e]⟩ := by
  rcases h with ⟨e, _, _, rfl⟩ | ⟨_, _, rfl⟩ | ⟨_, _, _, _, rfl⟩ <;> exact ⟨_, _, rfl⟩
theorem FbR.te {bs : List UInt8} {n : Int} {v : Value} (h : FbR bs n v) : ∃ s e, v = .tuple ⟨[.string ⟨⟨s⟩⟩, .int .i64 e]⟩ := by
  rcases h with ⟨_, rfl⟩ | ⟨_, _, _, rfl⟩ | ⟨_, _, _, rfl⟩ <;> exact ⟨_, _, rfl⟩
theorem JoinR.te {ls : List (List UInt8)} {v : Value} (h : JoinR ls v) : ∃ s e, v = .tuple ⟨[.string ⟨⟨s⟩⟩, .int .i64 e]⟩ := by
  rcases h with ⟨_, rfl⟩ | ⟨_, rfl⟩ <;> exact ⟨_, _, rfl⟩
/-- What a cut answers, as a list and an error. -/
theorem CutR.list {l : List UInt8} {n : Int} {W w : World} {v : Value} (h : CutR l n W v w) : ∃ a c ls e, v = .tuple ⟨[.slice a (List.length ls) c, .int .i64 e]⟩ ∧ Sl w a (strs ls) ∧ ls.length ≤ l.length ∧
    ∀ W' w' v', CutR l n W' v' w' → ∃ a' c', v' = .tuple ⟨[.slice a' (List.length ls) c', .int .i64 e]⟩ ∧ Sl w' a' (strs ls) := by
  have hno : ∀ e : Int, (∀ W' w' v', CutR l n W' v' w' → v' = .tuple ⟨[.slice none 0 0, .int .i64 e]⟩) → v = .tuple ⟨[.slice none 0 0, .int .i64 e]⟩ →
      ∃ a c ls e, v = .tuple ⟨[.slice a (List.length ls) c, .int .i64 e]⟩ ∧ Sl w a (strs ls) ∧ ls.length ≤ l.length ∧
        ∀ W' w' v', CutR l n W' v' w' → ∃ a' c', v' = .tuple ⟨[.slice a' (List.length ls) c', .int .i64 e]⟩ ∧ Sl w' a' (strs ls) := fun e h1 h2 =>
    ⟨none, 0, [], e, h2, Sl.nil _ _, Nat.zero_le _, fun W' w' v' h => ⟨none, 0, h1 W' w' v' h, Sl.nil _ _⟩⟩
  rcases h with ⟨h1, h2⟩ | ⟨h0, h1, h2⟩ | ⟨h0, h1, h2, h3, h4⟩ | ⟨h0, h1, h2, h3, a, c, h4, h5⟩
  · refine hno 3 (fun W' w' v' h => ?_) h2
    rcases h with ⟨g1, g2⟩ | ⟨g0, g1, g2⟩ | ⟨g0, g1, g2, g3, g4⟩ | ⟨g0, g1, g2, g3, a, c, g4, g5⟩
    · exact g2
    · exact absurd g0 h1
    · exact absurd g0 h1
    · exact absurd g0 h1
  · refine hno 2 (fun W' w' v' h => ?_) h2
    rcases h with ⟨g1, g2⟩ | ⟨g0, g1, g2⟩ | ⟨g0, g1, g2, g3, g4⟩ | ⟨g0, g1, g2, g3, a, c, g4, g5⟩
    · exact absurd h0 g1
    · exact g2
    · exfalso; omega
    · exfalso; omega
  · refine hno 16 (fun W' w' v' h => ?_) h4
    rcases h with ⟨g1, g2⟩ | ⟨g0, g1, g2⟩ | ⟨g0, g1, g2, g3, g4⟩ | ⟨g0, g1, g2, g3, a, c, g4, g5⟩
    · exact absurd h0 g1
    · exfalso; omega
    · exact g4
    · exact absurd g3 h3
  · refine ⟨a, c, cuts n.toNat l (l.length / n.toNat), 0, by rw [cuts_length]; exact h4, own_sl h5, by rw [cuts_length]; exact Nat.div_le_self _ _, fun W' w' v' h => ?_⟩
    rcases h with ⟨g1, g2⟩ | ⟨g0, g1, g2⟩ | ⟨g0, g1, g2, g3, g4⟩ | ⟨g0, g1, g2, g3, a', c', g4, g5⟩
    · exact absurd h0 g1
    · exfalso; omega
    · exact absurd h3 g3
    · exact ⟨a', c', by rw [cuts_length]; exact g4, own_sl g5⟩

theorem bitsCalls_calls (b k : List UInt8) (n : Int) (by_ : List UInt8) (aby : Option Addr) (cby : Nat) (ls : List (List UInt8)) (als : Option Addr) (cls : Nat)
    (hb : b.length ≤ 9223372036854775806) (hk : k.length ≤ 9223372036854775806) (hn : -9223372036854775808 ≤ n ∧ n ≤ 9223372036854775807) (w0 : World) (ht0 : TabOk w0)
    (hsb : Sl w0 aby (byteCells by_)) (hlb : by_.length ≤ cby ∧ cby ≤ 9223372036854775807) (hsl : Sl w0 als (strs ls)) (hll : ls.length ≤ cls ∧ cls ≤ 9223372036854775807 ∧ ∀ s ∈ ls, s.length ≤ 9223372036854775807) :
    Calls Tryz.prog 8 #[.string ⟨⟨b⟩⟩, .string ⟨⟨k⟩⟩, .int .i64 n, .slice aby by_.length cby, .slice als ls.length cls] w0 (Ret fun v w' => v = .bool true ∧ Below w0.heap.size w0 w') := by
  have hW0 := Below.refl w0.heap.size w0
  refine enter Tryz.func8 rfl Tryz.ntmps8 (Nat.le_of_ble_eq_true rfl) ?_
  refine dr U 600 rfl trivial ?_
  refine call (f := 9) rfl rfl cb9 (blives_calls w0 ht0) ?_; rintro v w1 ⟨rfl, hB1⟩; refine ⟨_, rfl, ?_⟩; have ht1 := ht0.below hB1; have hW1 := bl_tr hW0 hB1 hW0.size; refine dr U 600 rfl trivial ?_
  refine cS rfl rfl rfl rfl (fun hq1 => ?_) (fun hq1 => ?_)
  · refine dr U 600 rfl trivial ?_
    exact ret Tryz.results8 rfl ⟨_, rfl, rfl, hW1⟩
  refine dr U 600 rfl trivial ?_
  refine cS rfl rfl rfl rfl (fun hq2 => ?_) (fun hq2 => ?_)
  · refine dr U 600 rfl trivial ?_
    exact ret Tryz.results8 rfl ⟨_, rfl, rfl, hW1⟩
  refine dr U 600 rfl trivial ?_
  refine cS rfl rfl rfl rfl (fun hq3 => ?_) (fun hq3 => ?_)
  · refine dr U 600 rfl trivial ?_
    exact ret Tryz.results8 rfl ⟨_, rfl, rfl, hW1⟩
  refine dr U 600 rfl trivial ?_
  refine cS rfl rfl rfl rfl (fun hq4 => ?_) (fun hq4 => ?_)
  · refine dr U 600 rfl trivial ?_
    exact ret Tryz.results8 rfl ⟨_, rfl, rfl, hW1⟩
  have hbl : b.length ≤ 600 := by omega
  have hkl : k.length ≤ 200 := by omega
  have hyl : by_.length ≤ 100 := by omega
  have hlsl : ls.length ≤ 40 := by omega
  have hsl1 := hsl.stay hW1
  refine dr U 600 rfl trivial ?_
  refine loopR (fun f w' m => ∃ (i : Nat), f = [(0, .string ⟨⟨b⟩⟩), (1, .string ⟨⟨k⟩⟩), (2, .int .i64 n), (3, .slice aby by_.length cby), (4, .slice als ls.length cls), (11, .int .i64 (i : Nat))] ∧ i ≤ ls.length ∧ (∀ t ∈ ls.take i, t.length ≤ 100) ∧ w1 = w' ∧ m = ls.length - i)
    ⟨0, rfl, by omega, fun t h => by simp at h, rfl, rfl⟩ ⟨rfl, rfl, rfl, rfl, rfl, rfl, trivial⟩ ?_
  rintro f w m ⟨i, rfl, hi, hshort, rfl, rfl⟩
  refine dr U 600 rfl trivial ?_
  refine cS rfl rfl rfl rfl (fun hq => ?_) (fun hq => ?_)
  · have hil : i < ls.length := by omega
    have hgd : ls.getD i [] = ls[i] := by simp [List.getD, hil]
    refine dr U 600 rfl trivial ?_
    refine il U rfl rfl rfl rfl rfl rfl rfl (fun _ => rfl) rfl i rfl hil hsl1 (getS hil) ?_
    refine dr U 600 rfl trivial ?_
    refine cS rfl rfl rfl rfl (fun hq => ?_) (fun hq => ?_)
    · refine dr U 600 rfl trivial ?_
      exact ret Tryz.results8 rfl ⟨_, rfl, rfl, hW1⟩
    · refine dr U 600 rfl (by first | exact True.intro | (simp only [AllP, InR, List.nil_append, List.cons_append, and_true]; omega)) ?_
      refine rend _ _ ⟨i + 1, rfl, by omega, fun t ht => ?_, rfl, rfl⟩ (by omega) ⟨rfl, rfl, rfl, rfl, rfl, iv (by omega), trivial⟩
      rw [List.take_succ_eq_append_getElem hil] at ht
      rcases List.mem_append.1 ht with h | h
      · exact hshort t h
      · rw [List.mem_singleton.1 h, ← hgd]; omega
  · obtain rfl : i = ls.length := by omega
    rw [List.take_length] at hshort
    have hflat := flat_bound ls 100 hshort
    have ht1 := ht0.below hW1
    refine dr U 600 rfl trivial ?_
    refine call (f := 14) rfl rfl cb14 (number_calls' b (by omega) w1 ht1) ?_
    rintro v w2 ⟨hr2, hB2⟩
    have hW2 := bl_tr hW1 hB2 hW1.size
    obtain ⟨s2, e2, rfl⟩ := hr2.te
    refine ⟨_, rfl, ?_⟩
    refine dr U 600 rfl trivial ?_
    refine call (f := 21) rfl rfl cb21 (rnumber_calls b (by omega) w2) ?_
    rintro v w3 ⟨hr3, hB3⟩
    have hW3 := bl_tr hW2 hB3 hW2.size
    have ht3 := ht0.below hW3
    obtain rfl := hr3.uniq hr2
    refine ⟨_, rfl, ?_⟩
    refine dr U 600 rfl trivial ?_
    refine call (f := 11) rfl rfl cb11 (cell_calls b (by omega) w3 ht3) ?_
    rintro v w4 ⟨hr4, hB4⟩
    have hW4 := bl_tr hW3 hB4 hW3.size
    obtain ⟨s4, t4, e4, rfl⟩ := hr4.te
    refine ⟨_, rfl, ?_⟩
    refine dr U 600 rfl trivial ?_
    refine call (f := 22) rfl rfl cb22 (rcell_calls b (by omega) w4) ?_
    rintro v w5 ⟨hr5, hB5⟩
    have hW5 := bl_tr hW4 hB5 hW4.size
    have ht5 := ht0.below hW5
    obtain rfl := hr5.uniq hr4
    refine ⟨_, rfl, ?_⟩
    refine dr U 600 rfl trivial ?_
    refine call (f := 15) rfl rfl cb15 (word_calls k n (by omega) hn w5 ht5) ?_
    rintro v w6 ⟨hr6, hB6⟩
    have hW6 := bl_tr hW5 hB6 hW5.size
    obtain ⟨s6, e6, rfl⟩ := hr6.te
    refine ⟨_, rfl, ?_⟩
    refine dr U 600 rfl trivial ?_
    refine call (f := 23) rfl rfl cb23 (rWord_calls k n (by omega) hn w6) ?_
    rintro v w7 ⟨hr7, hB7⟩
    have hW7 := bl_tr hW6 hB7 hW6.size
    obtain rfl := hr7.uniq hr6
    refine ⟨_, rfl, ?_⟩
    refine dr U 600 rfl trivial ?_
    refine call (f := 24) rfl rfl cb24 (ownby_calls by_ aby cby w7 (hsb.stay hW7) (by omega)) ?_
    rintro v w8 ⟨⟨a8, c8, rfl, hs8⟩, hB8⟩
    have hW8 := bl_tr hW7 hB8 hW7.size
    refine ⟨_, rfl, ?_⟩
    refine dr U 600 rfl trivial ?_
    refine call (f := 19) rfl rfl cb19 (frombytes_calls by_ n a8 c8 w8 hs8 (by omega) hn) ?_
    rintro v w9 ⟨hr9, hB9⟩
    have hW9 := bl_tr hW8 hB9 hW8.size
    obtain ⟨s9, e9, rfl⟩ := hr9.te
    refine ⟨_, rfl, ?_⟩
    refine dr U 600 rfl trivial ?_
    refine call (f := 25) rfl rfl cb25 (rfrombytes_calls by_ n aby cby w9 (hsb.stay hW9) (by omega) hn) ?_
    rintro v w10 ⟨hr10, rfl⟩
    obtain rfl := hr10.uniq hr9
    refine ⟨_, rfl, ?_⟩
    refine dr U 600 rfl trivial ?_
    refine call (f := 16) rfl rfl cb16 (cut_calls b n (by omega) hn w9) ?_
    rintro v w11 ⟨hr11, hB11⟩
    have hW11 := bl_tr hW9 hB11 hW9.size
    obtain ⟨a11, c11, lc, e11, rfl, hs11, hlc, hcu⟩ := hr11.list
    refine ⟨_, rfl, ?_⟩
    refine dr U 600 rfl trivial ?_
    refine call (f := 26) rfl rfl cb26 (rcut_calls b n (by omega) hn w11) ?_
    rintro v w12 ⟨hr12, hB12⟩
    have hW12 := bl_tr hW11 hB12 hW11.size
    obtain ⟨a12, c12, rfl, hs12⟩ := hcu _ _ _ hr12
    refine ⟨_, rfl, ?_⟩
    refine dr U 600 rfl trivial ?_
    refine call (f := 27) rfl rfl cb27 (ownls_calls ls als cls w12 (hsl.stay hW12) (by omega)) ?_
    rintro v w13 ⟨⟨a13, c13, rfl, hs13⟩, hB13⟩
    have hW13 := bl_tr hW12 hB13 hW12.size
    refine ⟨_, rfl, ?_⟩
    refine dr U 600 rfl trivial ?_
    refine call (f := 17) rfl rfl cb17 (join_calls ls a13 c13 w13 hs13 (by omega) (by omega)) ?_
    rintro v w14 ⟨hr14, hB14⟩
    have hW14 := bl_tr hW13 hB14 hW13.size
    obtain ⟨s14, e14, rfl⟩ := hr14.te
    refine ⟨_, rfl, ?_⟩
    refine dr U 600 rfl trivial ?_
    refine call (f := 28) rfl rfl cb28 (rjoin_calls ls als cls w14 (hsl.stay hW14) (by omega) (by omega)) ?_
    rintro v w15 ⟨hr15, rfl⟩
    obtain rfl := hr15.uniq hr14
    refine ⟨_, rfl, ?_⟩
    have hs11' := ((hs11.stay hB12).stay hB13).stay hB14
    have hs12' := (hs12.stay hB13).stay hB14
    refine dr U 600 rfl trivial ?_
    refine cF rfl rfl rfl ((fun h => h rfl)) ?_; refine dr U 600 rfl trivial ?_
    refine cF rfl rfl rfl ((fun h => h rfl)) ?_; refine dr U 600 rfl trivial ?_
    refine cF rfl rfl rfl ((fun h => h rfl)) ?_; refine dr U 600 rfl trivial ?_
    refine cF rfl rfl rfl ((fun h => h rfl)) ?_; refine dr U 600 rfl trivial ?_
    refine cF rfl rfl rfl ((fun h => h rfl)) ?_; refine dr U 600 rfl trivial ?_
    refine cF rfl rfl rfl ((fun h => h rfl)) ?_; refine dr U 600 rfl trivial ?_
    refine cF rfl rfl rfl ((fun h => h rfl)) ?_; refine dr U 600 rfl trivial ?_
    refine cF rfl rfl rfl ((fun h => h rfl)) ?_; refine dr U 600 rfl trivial ?_
    refine cF rfl rfl rfl ((fun h => h rfl)) ?_; refine dr U 600 rfl trivial ?_
    have hsm := same_calls lc lc a11 a12 c11 c12 w14 hs11' hs12' (by omega) (by omega)
    rw [decide_eq_true rfl] at hsm
    refine call (f := 18) rfl rfl cb18 hsm ?_
    rintro v w16 ⟨rfl, hB16⟩
    have hW16 := bl_tr hW14 hB16 hW14.size
    refine ⟨_, rfl, ?_⟩
    refine dr U 600 rfl trivial ?_
    refine cT rfl rfl rfl (rfl) ?_; refine dr U 600 rfl trivial ?_
    refine cT rfl rfl rfl (rfl) ?_; refine dr U 600 rfl trivial ?_
    refine cT rfl rfl rfl (rfl) ?_; refine dr U 600 rfl trivial ?_
    refine call (f := 12) rfl rfl cb12 (bcheck_calls b (by omega) w16) ?_
    rintro v w17 ⟨⟨e17, rfl, he17⟩, hB17⟩
    have hW17 := bl_tr hW16 hB17 hW16.size
    refine ⟨_, rfl, ?_⟩
    refine dr U 600 rfl trivial ?_
    refine call (f := 29) rfl rfl cb29 (rbcheck_calls b (by omega) w17) ?_
    rintro v w18 ⟨⟨e18, rfl, he18⟩, rfl⟩
    obtain rfl := he18.uniq he17
    refine ⟨_, rfl, ?_⟩
    refine cT rfl rfl rfl (rfl) ?_; refine dr U 600 rfl trivial ?_
    exact ret Tryz.results8 rfl ⟨_, rfl, rfl, hW17⟩
end Go.Proofs.YtcnbohfejgdcbaaGreatDoor
