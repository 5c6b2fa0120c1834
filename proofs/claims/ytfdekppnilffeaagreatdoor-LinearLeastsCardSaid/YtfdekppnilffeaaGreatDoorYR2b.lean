/-
  Walks of the reference's rational numbers: slash, digits, integer, Read, two, Add.
  Conditions: texts take fewer than 2^40 bytes.
-/
import Derived.Test.YtfdekppnilffeaaGreatDoorYR2
import Derived.Test.YtfdekppnilffeaaGreatDoorYQp
set_option linter.unusedSimpArgs false
set_option linter.unusedVariables false
set_option maxHeartbeats 1000000
namespace Go.Proofs.YtfdekppnilffeaaGreatDoor
open Go Go.Proofs Go.RowKit Go.Lib

theorem qpre_len (s : List UInt8) (i : Nat) (h1 : ∀ c ∈ s.take i, c ≠ 47) (h2 : i = s.length ∨ s[i]? = some 47) (hi : i ≤ s.length) : (qpre s).length = i := by
  have h := List.take_append_drop i s
  unfold qpre
  rw [← h]
  have hA : ∀ c ∈ s.take i, (c != 47) = true := fun c hc => by simpa using h1 c hc
  rcases h2 with h2 | h2
  · rw [List.drop_of_length_le (by omega), List.append_nil, takeW_all _ hA]; simp; omega
  · have hlt : i < s.length := by
      rcases Nat.lt_or_ge i s.length with h | h
      · exact h
      · rw [List.getElem?_eq_none h] at h2; cases h2
    rw [List.drop_eq_getElem_cons hlt]
    rw [List.getElem?_eq_getElem hlt] at h2
    rw [Option.some.inj h2, takeW_stop 47 _ (by decide) _ hA]; simp; omega

theorem slash_calls (s : List UInt8) (hl : s.length ≤ 1099511627776) (w : World) :
    Calls Tryz.prog 99 #[.string ⟨⟨s⟩⟩] w (Ret fun v w' => v = .int .i64 ((qpre s).length : Nat) ∧ w = w') := by
  refine enter Tryz.func99 rfl Tryz.ntmps99 (Nat.le_of_ble_eq_true rfl) ?_
  refine dr U 600 rfl trivial ?_
  refine loopR (fun l w' m => ∃ i : Nat, l = [(0, .string ⟨⟨s⟩⟩), (3, .int .i64 (i : Nat))] ∧ i ≤ s.length ∧ (∀ c ∈ s.take i, c ≠ 47) ∧ w = w' ∧ m = s.length - i) ⟨0, rfl, by omega, by simp, rfl, rfl⟩ ⟨rfl, rfl, trivial⟩ ?_
  rintro l w1 m ⟨i, rfl, hi, hd, rfl, rfl⟩
  refine dr U 600 rfl trivial ?_
  refine cS rfl rfl rfl rfl (fun hq => ?_) (fun hq => ?_)
  · have hil : i < s.length := by omega
    have hgd : s.getD i 0 = s[i] := by simp [List.getD, hil]
    refine dr U 600 rfl (by first | exact True.intro | (simp only [AllP, InR, List.nil_append, List.cons_append, and_true]; omega)) ?_
    simp only [Int.toNat_natCast, hgd]
    refine cS rfl rfl rfl rfl (fun hq => ?_) (fun hq => ?_)
    · have hc : s[i] = 47 := UInt8.toNat_inj.1 (by simp; omega)
      refine dr U 600 rfl trivial ?_
      refine ret Tryz.results99 rfl ⟨_, rfl, ?_, rfl⟩
      rw [qpre_len s i hd (.inr (by rw [List.getElem?_eq_getElem hil, hc])) hi]; rfl
    · refine dr U 600 rfl (by first | exact True.intro | (simp only [AllP, InR, List.nil_append, List.cons_append, and_true]; omega)) ?_
      refine rend _ _ ⟨i + 1, rfl, by omega, fun c hc => ?_, rfl, rfl⟩ (by omega) ⟨rfl, iv (by omega), trivial⟩
      rw [List.take_succ_eq_append_getElem hil] at hc
      rcases List.mem_append.1 hc with h | h
      · exact hd c h
      · rw [List.mem_singleton.1 h]
        rintro e
        apply hq
        rw [e]; rfl
  · obtain rfl : i = s.length := by omega
    refine dr U 600 rfl trivial ?_
    refine ret Tryz.results99 rfl ⟨_, rfl, ?_, rfl⟩
    rw [qpre_len s s.length hd (.inl rfl) hi]; rfl

theorem rdigits_calls (s : List UInt8) (hl : s.length ≤ 1099511627776) (w : World) :
    Calls Tryz.prog 101 #[.string ⟨⟨s⟩⟩] w (Ret fun v w' => (∃ b, v = .bool b ∧ (b = true ↔ Form s)) ∧ w = w') := by
  refine enter Tryz.func101 rfl Tryz.ntmps101 (Nat.le_of_ble_eq_true rfl) ?_
  refine dr U 600 rfl trivial ?_
  refine call (f := 126) rfl rfl cb126 (refCheck_calls s (by omega) w) ?_
  rintro v w1 ⟨⟨e, rfl, hc⟩, rfl⟩
  refine ⟨_, rfl, ?_⟩
  refine dr U 600 rfl trivial ?_
  rcases hc with ⟨h1, h2, rfl⟩ | ⟨h1, h2, rfl⟩ | ⟨h1, rfl⟩
  · refine cT rfl rfl rfl rfl ?_
    refine dr U 600 rfl trivial ?_
    exact ret Tryz.results101 rfl ⟨_, rfl, ⟨true, rfl, fun _ => h1, fun _ => rfl⟩, rfl⟩
  · refine cF rfl rfl rfl (by decide) ?_
    refine dr U 600 rfl trivial ?_
    refine cT rfl rfl rfl rfl ?_
    refine dr U 600 rfl trivial ?_
    exact ret Tryz.results101 rfl ⟨_, rfl, ⟨true, rfl, fun _ => h1, fun _ => rfl⟩, rfl⟩
  · refine cF rfl rfl rfl (by decide) ?_
    refine dr U 600 rfl trivial ?_
    refine cF rfl rfl rfl (by decide) ?_
    refine dr U 600 rfl trivial ?_
    exact ret Tryz.results101 rfl ⟨_, rfl, ⟨false, rfl, fun h => (by cases h), fun h => absurd h h1⟩, rfl⟩
end Go.Proofs.YtfdekppnilffeaaGreatDoor
