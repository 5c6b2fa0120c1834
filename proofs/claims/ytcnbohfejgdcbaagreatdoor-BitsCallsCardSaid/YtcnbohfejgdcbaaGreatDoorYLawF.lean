/-
  The law BitsBack: it returns true for every input.
  Conditions: the library's table of powers of ten is laid.
-/
import Derived.Test.YtcnbohfejgdcbaaGreatDoorYBl
set_option linter.unusedSimpArgs false
set_option linter.unusedVariables false
set_option maxHeartbeats 1000000
namespace Go.Proofs.YtcnbohfejgdcbaaGreatDoor
open Go Go.Proofs Go.RowKit Go.Lib

theorem WordR.tup {x : List UInt8} {n : Int} {v : Value} (h : WordR x n v) : ∃ s e, v = .tuple ⟨[.string ⟨⟨s⟩⟩, .int .i64 e]⟩ := by
  rcases h with ⟨e, _, _, rfl⟩ | ⟨_, _, rfl⟩ | ⟨_, _, _, _, rfl⟩ <;> exact ⟨_, _, rfl⟩
theorem chk_num {k : Nat} {m : Nat} (h : nDigits m ≤ 4000) : Chk (decDigits m) 0 := .inl ⟨form_iff.2 ⟨m, rfl⟩, by rw [decDigits_length]; exact h, rfl⟩


theorem bitsBack_calls (b k : List UInt8) (n : Int) (hb : b.length ≤ 9223372036854775806) (hk : k.length ≤ 9223372036854775806) (hn : -9223372036854775808 ≤ n ∧ n ≤ 9223372036854775807) (w0 : World) (ht0 : TabOk w0) :
    Calls Tryz.prog 5 #[.string ⟨⟨b⟩⟩, .string ⟨⟨k⟩⟩, .int .i64 n] w0 (Ret fun v w' => v = .bool true ∧ Below w0.heap.size w0 w') := by
  have hW0 := Below.refl w0.heap.size w0
  refine enter Tryz.func5 rfl Tryz.ntmps5 (Nat.le_of_ble_eq_true rfl) ?_
  refine dr U 600 rfl trivial ?_
  refine call (f := 9) rfl rfl cb9 (blives_calls w0 ht0) ?_; rintro v w1 ⟨rfl, hB1⟩; refine ⟨_, rfl, ?_⟩; have ht1 := ht0.below hB1; have hW1 := bl_tr hW0 hB1 hW0.size; refine dr U 600 rfl trivial ?_
  refine cS rfl rfl rfl rfl (fun hq => ?_) (fun hq => ?_)
  · refine dr U 600 rfl trivial ?_
    exact ret Tryz.results5 rfl ⟨_, rfl, rfl, hW1⟩
  · refine dr U 600 rfl trivial ?_
    refine cS rfl rfl rfl rfl (fun hq => ?_) (fun hq => ?_)
    · refine dr U 600 rfl trivial ?_
      exact ret Tryz.results5 rfl ⟨_, rfl, rfl, hW1⟩
    · have hbl : b.length ≤ 256 := by omega
      have hkl : k.length ≤ 100 := by omega
      refine dr U 600 rfl trivial ?_
      refine call (f := 14) rfl rfl cb14 (number_calls' b (by omega) w1 ht1) ?_
      rintro v w2 ⟨hr, hB2'⟩
      have hB2 := bl_tr hW1 hB2' hW1.size
      have ht2 := ht0.below hB2
      rcases hr with ⟨e, he, hs, rfl⟩ | ⟨hs, rfl⟩
      · refine ⟨_, rfl, ?_⟩
        refine dr U 600 rfl trivial ?_
        refine cF rfl rfl rfl (he) ?_; refine dr U 600 rfl trivial ?_
        refine dr U 600 rfl trivial ?_
        refine call (f := 15) rfl rfl cb15 (word_calls k n (by omega) hn w2 ht2) ?_
        rintro v w5 ⟨hr, hB5'⟩
        have hB5 := bl_tr hB2 hB5' hB2.size
        rcases hr with ⟨e, he, hs, rfl⟩ | ⟨hs, _, rfl⟩ | ⟨hs, h0, h256, hlt, rfl⟩
        · refine ⟨_, rfl, ?_⟩
          refine dr U 600 rfl trivial ?_
          refine cT rfl rfl rfl (he) ?_; refine dr U 600 rfl trivial ?_
          refine cT rfl rfl rfl (rfl) ?_; refine dr U 600 rfl trivial ?_
          exact ret Tryz.results5 rfl ⟨_, rfl, rfl, hB5⟩
        · refine ⟨_, rfl, ?_⟩
          refine dr U 600 rfl trivial ?_
          refine cT rfl rfl rfl ((by decide)) ?_; refine dr U 600 rfl trivial ?_
          refine cT rfl rfl rfl (rfl) ?_; refine dr U 600 rfl trivial ?_
          exact ret Tryz.results5 rfl ⟨_, rfl, rfl, hB5⟩
        · refine ⟨_, rfl, ?_⟩
          have hf := chk_ok hs
          refine dr U 600 rfl trivial ?_
          refine cF rfl rfl rfl ((by decide)) ?_; refine dr U 600 rfl trivial ?_
          refine call (f := 14) rfl rfl cb14 (number_calls' (bitsOf n.toNat (dval k)) (by rw [bitsOf_length]; omega) w5 (ht0.below hB5)) ?_
          rintro v w6 ⟨hr, hB6'⟩
          obtain rfl := hr.uniq (.inr ⟨.inl ⟨bitsOf_bin _ _, by rw [bitsOf_length]; omega, rfl⟩, rfl⟩)
          refine ⟨_, rfl, ?_⟩
          have hB6 := bl_tr hB5 hB6' hB5.size
          refine dr U 600 rfl trivial ?_
          refine cT rfl rfl rfl (rfl) ?_; refine dr U 600 rfl trivial ?_
          refine cT rfl rfl rfl ((by rw [bitsOf_bval, Nat.mod_eq_of_lt hlt]; exact (dec_of hf.1.2.2 hf.1.1 hf.1.2.1).symm)) ?_; refine dr U 600 rfl trivial ?_
          refine cT rfl rfl rfl ((by rw [bitsOf_length]; omega)) ?_; refine dr U 600 rfl trivial ?_
          exact ret Tryz.results5 rfl ⟨_, rfl, rfl, hB6⟩
      · refine ⟨_, rfl, ?_⟩
        have hlt := bval_lt _ b rfl
        have hnd := nd_below hbl hlt
        refine dr U 600 rfl trivial ?_
        refine cT rfl rfl rfl (rfl) ?_; refine dr U 600 rfl trivial ?_
        refine call (f := 15) rfl rfl cb15 (word_calls (decDigits (bval b)) (b.length : Nat) (by rw [decDigits_length]; omega) (by omega) w2 ht2) ?_
        rintro v w3 ⟨hr, hB3'⟩
        have hB3 := bl_tr hB2 hB3' hB2.size
        have ht3 := ht0.below hB3
        have hdv := (dec_dval (bval b)).2
        rcases hr with ⟨e, he, hs', rfl⟩ | ⟨hs', h, rfl⟩ | ⟨hs', h0, h256, hlt', rfl⟩
        · exact absurd (hs'.uniq' (chk_num (k := 0) (by omega))) he
        · exfalso
          rw [hdv, Int.toNat_natCast] at h
          omega
        · refine ⟨_, rfl, ?_⟩
          have eb : bitsOf ((b.length : Nat) : Int).toNat (dval (decDigits (bval b))) = b := by
            rw [hdv, Int.toNat_natCast]; exact (bval_bits _ b hs.ok.1 rfl).symm
          rw [eb]
          refine dr U 600 rfl trivial ?_
          refine cF rfl rfl rfl ((by decide)) ?_; refine dr U 600 rfl trivial ?_
          refine cF rfl rfl rfl ((fun h => h rfl)) ?_; refine dr U 600 rfl trivial ?_
          refine dr U 600 rfl trivial ?_
          refine call (f := 15) rfl rfl cb15 (word_calls k n (by omega) hn w3 ht3) ?_
          rintro v w5 ⟨hr, hB5'⟩
          have hB5 := bl_tr hB3 hB5' hB3.size
          rcases hr with ⟨e, he, hs, rfl⟩ | ⟨hs, _, rfl⟩ | ⟨hs, h0, h256, hlt, rfl⟩
          · refine ⟨_, rfl, ?_⟩
            refine dr U 600 rfl trivial ?_
            refine cT rfl rfl rfl (he) ?_; refine dr U 600 rfl trivial ?_
            refine cT rfl rfl rfl (rfl) ?_; refine dr U 600 rfl trivial ?_
            exact ret Tryz.results5 rfl ⟨_, rfl, rfl, hB5⟩
          · refine ⟨_, rfl, ?_⟩
            refine dr U 600 rfl trivial ?_
            refine cT rfl rfl rfl ((by decide)) ?_; refine dr U 600 rfl trivial ?_
            refine cT rfl rfl rfl (rfl) ?_; refine dr U 600 rfl trivial ?_
            exact ret Tryz.results5 rfl ⟨_, rfl, rfl, hB5⟩
          · refine ⟨_, rfl, ?_⟩
            have hf := chk_ok hs
            refine dr U 600 rfl trivial ?_
            refine cF rfl rfl rfl ((by decide)) ?_; refine dr U 600 rfl trivial ?_
            refine call (f := 14) rfl rfl cb14 (number_calls' (bitsOf n.toNat (dval k)) (by rw [bitsOf_length]; omega) w5 (ht0.below hB5)) ?_
            rintro v w6 ⟨hr, hB6'⟩
            obtain rfl := hr.uniq (.inr ⟨.inl ⟨bitsOf_bin _ _, by rw [bitsOf_length]; omega, rfl⟩, rfl⟩)
            refine ⟨_, rfl, ?_⟩
            have hB6 := bl_tr hB5 hB6' hB5.size
            refine dr U 600 rfl trivial ?_
            refine cT rfl rfl rfl (rfl) ?_; refine dr U 600 rfl trivial ?_
            refine cT rfl rfl rfl ((by rw [bitsOf_bval, Nat.mod_eq_of_lt hlt]; exact (dec_of hf.1.2.2 hf.1.1 hf.1.2.1).symm)) ?_; refine dr U 600 rfl trivial ?_
            refine cT rfl rfl rfl ((by rw [bitsOf_length]; omega)) ?_; refine dr U 600 rfl trivial ?_
            exact ret Tryz.results5 rfl ⟨_, rfl, rfl, hB6⟩
end Go.Proofs.YtcnbohfejgdcbaaGreatDoor
