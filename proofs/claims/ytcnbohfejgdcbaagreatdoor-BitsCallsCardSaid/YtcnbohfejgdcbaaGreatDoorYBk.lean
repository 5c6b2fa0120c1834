/-
  Walks of package bits: pieces and its iterator, Cut.
  Conditions: texts take fewer than 2^40 bytes.
-/
import Derived.Test.YtcnbohfejgdcbaaGreatDoorYBj
import Derived.Test.YtcnbohfejgdcbaaGreatDoorYRnw
set_option linter.unusedSimpArgs false
set_option linter.unusedVariables false
set_option maxHeartbeats 1000000
namespace Go.Proofs.YtcnbohfejgdcbaaGreatDoor
open Go Go.Proofs Go.RowKit Go.Lib

/-- The pieces of n characters. -/
def piece (n : Nat) (l : List UInt8) (i : Nat) : List UInt8 := (l.drop (i * n)).take n
def cuts (n : Nat) (l : List UInt8) (k : Nat) : List (List UInt8) := (List.range k).map (piece n l)
theorem cuts_length (n : Nat) (l : List UInt8) (k : Nat) : (cuts n l k).length = k := by simp [cuts]
theorem cuts_succ (n : Nat) (l : List UInt8) (k : Nat) : strs (cuts n l (k + 1)) = strs (cuts n l k) ++ [.string ⟨⟨piece n l k⟩⟩] := by simp [cuts, strs, List.range_succ]

theorem pieces_calls (l : List UInt8) (n : Int) (w : World) : Calls Tryz.prog 43 #[.string ⟨⟨l⟩⟩, .int .i64 n] w
    (Ret fun v w' => v = .func (.func 85) ⟨[]⟩ ⟨[.pointer (some ⟨w.heap.size, 0, none⟩), .pointer (some ⟨w.heap.size + 1, 0, none⟩)]⟩ ∧ w'.heap.size = w.heap.size + 2 ∧ Bk w' w.heap.size 30 [.string ⟨⟨l⟩⟩] ∧ Bk w' (w.heap.size + 1) 3 [.int .i64 n] ∧ w.grownBy w' none) := by
  refine enter Tryz.func43 rfl Tryz.ntmps43 (Nat.le_of_ble_eq_true rfl) ?_
  refine dr U 600 rfl trivial ?_
  refine bx rfl rfl rfl rfl ?_
  rintro b w1 rfl hs1 hb1 hg1
  refine bx rfl rfl rfl rfl ?_
  rintro b w2 rfl hs2 hb2 hg2
  refine dr U 600 rfl trivial ?_
  refine ret Tryz.results43 rfl ⟨_, rfl, by rw [hs1]; rfl, by omega, hb1.keep hg2 (by simp), by rw [← hs1]; exact hb2, gb_trans hg1 hg2⟩

/-- The iterator: it goes through the pieces. -/
theorem pieces_seq (l : List UInt8) (n N b2 b3 : Nat) (hn : 0 < n) (hN : l.length = N * n) (hne : b2 ≠ b3) (hl : l.length ≤ 1099511627776) (hn2 : n ≤ 1099511627776) :
    SeqW Tryz.prog 85 [.pointer (some ⟨b2, 0, none⟩), .pointer (some ⟨b3, 0, none⟩)] N (fun k vs => vs = [.string ⟨⟨piece n l k⟩⟩]) b2 30
      (fun k w => Bk w b2 30 [.string ⟨⟨l.drop (k * n)⟩⟩] ∧ Bk w b3 3 [.int .i64 (n : Nat)]) := by
  intro L J Jx W hY hst h0 hg0
  refine enter Tryz.func85 rfl Tryz.ntmps85 (Nat.le_of_ble_eq_true rfl) ?_
  refine dr U 600 rfl trivial ?_
  refine loopR (fun f w' m => ∃ k, f = [(0, .func (.yield L) ⟨[]⟩ ⟨[]⟩), (1, .pointer (some ⟨b2, 0, none⟩)), (2, .pointer (some ⟨b3, 0, none⟩))] ∧ k ≤ N ∧ J k w' ∧ Bk w' b2 30 [.string ⟨⟨l.drop (k * n)⟩⟩] ∧ Bk w' b3 3 [.int .i64 (n : Nat)] ∧ m = N - k)
    ⟨0, rfl, by omega, h0, hg0.1, hg0.2, rfl⟩ ⟨rfl, rfl, rfl, trivial⟩ ?_
  rintro f w' m ⟨k, rfl, hk, hJ, hk2, hk3, rfl⟩
  have hle : k * n ≤ N * n := Nat.mul_le_mul_right _ hk
  refine dr U 600 rfl trivial ?_
  refine ld U rfl rfl rfl rfl ((hk2).cell rfl) ?_
  refine dr U 600 rfl trivial ?_
  refine cS rfl rfl rfl rfl (fun hq => ?_) (fun hq => ?_)
  · have hkN : k < N := by
      rcases Nat.lt_or_ge k N with h | h
      · exact h
      · obtain rfl : k = N := by omega
        rw [← hN, List.drop_length] at hq
        simp at hq
    have hle2 : (k + 1) * n ≤ N * n := Nat.mul_le_mul_right _ hkN
    have hsm : (k + 1) * n = k * n + n := Nat.succ_mul k n
    have hdl : n ≤ (l.drop (k * n)).length := by rw [List.length_drop]; omega
    refine dr U 600 rfl trivial ?_
    refine ld U rfl rfl rfl rfl ((hk2).cell rfl) ?_
    refine ld U rfl rfl rfl rfl ((hk3).cell rfl) ?_
    refine dr U 600 rfl (by first | exact True.intro | (simp only [AllP, InR, List.nil_append, List.cons_append, and_true]; omega)) ?_
    refine yld rfl rfl (hY k w' _ hkN hJ ⟨hk2, hk3⟩ rfl) ?_
    rintro bb w1 ⟨h1, h2⟩
    refine ⟨_, rfl, ?_⟩
    cases bb with
    | true =>
      obtain ⟨hJ1, hk21, hk31⟩ := h1 rfl
      refine dr U 600 rfl trivial ?_
      refine ld U rfl rfl rfl rfl ((hk21).cell rfl) ?_
      refine ld U rfl rfl rfl rfl ((hk31).cell rfl) ?_
      refine dr U 600 rfl (by first | exact True.intro | (simp only [AllP, InR, List.nil_append, List.cons_append, and_true]; omega)) ?_
      refine st U rfl rfl rfl rfl rfl rfl rfl rfl rfl rfl (hk21) ?_
      intro w2 hk22 hg2 hs2
      have hJ2 := hst (k + 1) w1 w2 hJ1 ⟨_, hk21⟩ hg2
      have hk32 := hk31.keep hg2 (by simp; exact hne)
      refine dr U 600 rfl trivial ?_
      refine rend _ _ ⟨k + 1, rfl, by omega, hJ2, ?_, hk32, rfl⟩ (by omega) ⟨rfl, rfl, rfl, trivial⟩
      rw [hsm, ← List.drop_drop]
      exact hk22
    | false =>
      refine dr U 600 rfl trivial ?_
      exact retN Tryz.results85 rfl ⟨_, rfl, .inr (h2 rfl)⟩
  · obtain rfl : k = N := by
      rcases Nat.lt_or_ge k N with h | h
      · exfalso
        have hle2 : (k + 1) * n ≤ N * n := Nat.mul_le_mul_right _ h
        rw [Nat.succ_mul] at hle2
        rw [List.length_drop] at hq
        omega
      · omega
    refine dr U 600 rfl trivial ?_
    exact retN Tryz.results85 rfl ⟨_, rfl, .inl hJ⟩

/-- What Cut answers. -/
def CutR (l : List UInt8) (n : Int) (W : World) (v : Value) (w : World) : Prop :=
  (¬ Bin l ∧ v = .tuple ⟨[.slice none 0 0, .int .i64 3]⟩) ∨
  (Bin l ∧ (n < 1 ∨ 256 < n) ∧ v = .tuple ⟨[.slice none 0 0, .int .i64 2]⟩) ∨
  (Bin l ∧ 1 ≤ n ∧ n ≤ 256 ∧ l.length % n.toNat ≠ 0 ∧ v = .tuple ⟨[.slice none 0 0, .int .i64 16]⟩) ∨
  (Bin l ∧ 1 ≤ n ∧ n ≤ 256 ∧ l.length % n.toNat = 0 ∧ ∃ a c, v = .tuple ⟨[.slice a (l.length / n.toNat) c, .int .i64 0]⟩ ∧
    w.ownsRow W.heap.size 30 1 (.slice a (l.length / n.toNat) c) (l.length / n.toNat) (strs (cuts n.toNat l (l.length / n.toNat))))

theorem cut_calls (l : List UInt8) (n : Int) (hl : l.length ≤ 1099511627776) (hn : -9223372036854775808 ≤ n ∧ n ≤ 9223372036854775807) (w : World) :
    Calls Tryz.prog 16 #[.string ⟨⟨l⟩⟩, .int .i64 n] w (Ret fun v w' => CutR l n w v w' ∧ Below w.heap.size w w') := by
  refine enterM Tryz.func16 rfl Tryz.ntmps16 (Nat.le_of_ble_eq_true rfl) ?_
  refine dr U 600 rfl trivial ?_
  refine call (f := 12) rfl rfl cb12 (bcheck_calls l hl w) ?_
  rintro v w1 ⟨⟨e, rfl, he⟩, hB1⟩
  refine ⟨_, rfl, ?_⟩
  refine dr U 600 rfl trivial ?_
  refine cS rfl rfl rfl rfl (fun hq => ?_) (fun hq => ?_)
  · refine dr U 600 rfl trivial ?_
    rcases he with ⟨_, h⟩ | ⟨h1, rfl⟩
    · exact absurd h hq
    · exact retM0 U Tryz.results16 (vs := [_, _]) ⟨rfl, rfl, trivial⟩ ⟨_, rfl, .inl ⟨h1, rfl⟩, hB1⟩
  · obtain ⟨hbin, rfl⟩ | ⟨_, h⟩ := he
    · refine dr U 600 rfl trivial ?_
      refine cS rfl rfl rfl rfl (fun hq => ?_) (fun hq => ?_)
      · refine dr U 600 rfl trivial ?_
        exact retM0 U Tryz.results16 (vs := [_, _]) ⟨rfl, rfl, trivial⟩ ⟨_, rfl, .inr (.inl ⟨hbin, .inl hq, rfl⟩), hB1⟩
      · refine dr U 600 rfl trivial ?_
        refine cS rfl rfl rfl rfl (fun hq => ?_) (fun hq => ?_)
        · refine dr U 600 rfl trivial ?_
          exact retM0 U Tryz.results16 (vs := [_, _]) ⟨rfl, rfl, trivial⟩ ⟨_, rfl, .inr (.inl ⟨hbin, .inr hq, rfl⟩), hB1⟩
        · obtain ⟨k, rfl⟩ : ∃ k : Nat, n = (k : Int) := ⟨n.toNat, by omega⟩
          have hk0 : 0 < k := by omega
          have hk256 : k ≤ 256 := by omega
          have hmi : ((l.length : Nat) : Int) % ((k : Nat) : Int) = ((l.length % k : Nat) : Int) := rfl
          refine dr U 600 rfl (by first | exact True.intro | (simp only [AllP, InR, List.nil_append, List.cons_append, and_true]; omega)) ?_
          refine cS rfl rfl rfl rfl (fun hq => ?_) (fun hq => ?_)
          · have hm : l.length % k ≠ 0 := by
              intro e
              apply hq
              rw [hmi, e]; rfl
            refine dr U 600 rfl trivial ?_
            exact retM0 U Tryz.results16 (vs := [_, _]) ⟨rfl, rfl, trivial⟩ ⟨_, rfl, .inr (.inr (.inl ⟨hbin, by omega, by omega, hm, rfl⟩)), hB1⟩
          · have hm : l.length % k = 0 := by
              have := Classical.not_not.1 hq
              rw [hmi] at this
              exact Int.ofNat.inj this
            have hN : l.length = (l.length / k) * k := (Nat.div_mul_cancel (Nat.dvd_of_mod_eq_zero hm)).symm
            have hNl : l.length / k ≤ l.length := Nat.div_le_self _ _
            obtain ⟨N, hNe⟩ : ∃ N, N = l.length / k := ⟨_, rfl⟩
            refine dr U 600 rfl trivial ?_
            refine al U rfl rfl rfl rfl ?_
            intro b7 w2 hb7 hs2 hk7 hg2
            have hB2 := hB1.grown hg2 hB1.size (fun k e => by cases e)
            refine dr U 600 rfl trivial ?_
            refine call (f := 43) rfl rfl cb43 (pieces_calls l k w2) ?_
            rintro v w3 ⟨rfl, hs3, hk2, hk3, hg3⟩
            refine ⟨_, rfl, ?_⟩
            have hB3 := hB2.grown hg3 hB2.size (fun k e => by cases e)
            have hk73 := hk7.keep hg3 (by simp)
            have hsz1 := hB1.size
            refine dr U 600 rfl trivial ?_
            refine rngW rfl cb85 rfl (pieces_seq l k N w2.heap.size (w2.heap.size + 1) hk0 (by rw [hNe]; exact hN) (by omega) hl (by omega)) (fun k vs h => by rw [h]; rfl)
              (fun j W => ∃ a c, Bk W b7 23 [.slice a j c] ∧ W.ownsRow w3.heap.size 30 1 (.slice a j c) j (strs (cuts k l j)) ∧ Below w.heap.size w W)
              (fun cd W => False)
              (fun j => OwnB.ex fun a => OwnB.ex fun c => (OwnB.bk _ _ _ _).and ((OwnB.own _ _ _ _ _ _ _ _).and (OwnB.below _ (by omega) (Nat.le_refl _))))
              (fun cd => OwnB.pure _ _)
              (fun j => (OwnB.bk _ _ _ _).and (OwnB.bk _ _ _ _))
              (fun j W1 W2 ⟨a, c, h1, h2, h3⟩ _ hg => ⟨a, c, h1.keep hg (by simp; omega), own_keep h2 hg (fun g hg' e => by cases e; have := (own_block h2 _ hg').1; omega), h3.grown hg h3.size (fun k e => by cases e; omega)⟩)
              ⟨none, 0, hk73, ⟨rfl, .inl ⟨rfl, rfl⟩⟩, hB3⟩ ⟨by rw [Nat.zero_mul]; exact hk2, hk3⟩
              (fun vs => [(8, vs.headD undef), (7, .pointer (some ⟨b7, 0, none⟩))]) ?_ ?_ ?_ ?_
            · rintro L j vs W rfl
              refine dr U 600 rfl trivial ?_
              exact asg ⟨rfl, rfl, trivial⟩
            · rintro L j vs W hj rfl ⟨a, c, hk7, ho, hB⟩ ⟨hk2, hk3⟩ hsz
              have hab : ∀ g, ab a = some g → w3.heap.size ≤ g := fun g e => (own_block ho g e).1
              refine dr U 600 rfl trivial ?_
              refine ld U rfl rfl rfl rfl ((hk7).cell rfl) ?_
              refine dr U 600 rfl trivial ?_
              refine ap U (v := (.string ⟨⟨piece k l j⟩⟩)) rfl rfl rfl rfl rfl rfl (fun _ => rfl) rfl (fun _ => rfl) rfl rfl rfl ho hsz (by omega) (by decide) ?_
              intro a2 c2 W2 ho2 hg2
              have hab2 : ∀ g, ab a2 = some g → w3.heap.size ≤ g := fun g e => (own_block ho2 g e).1
              have hk72 := hk7.keep hg2 (fun e => by have := hab _ e; omega)
              have hk22 := hk2.keep hg2 (fun e => by have := hab _ e; omega)
              have hk32 := hk3.keep hg2 (fun e => by have := hab _ e; omega)
              refine dr U 600 rfl trivial ?_
              refine st U rfl rfl rfl rfl rfl rfl rfl rfl rfl rfl (hk72) ?_
              intro W3 hk73 hg3' hs3'
              have hk23 := hk22.keep hg3' (by simp; omega)
              have hk33 := hk32.keep hg3' (by simp; omega)
              have ho3 := own_keep ho2 hg3' (fun g hg e => by cases e; have := hab2 _ hg; omega)
              have hB4 := (hB.grown hg2 hB.size (fun g e => by have := hab _ e; omega)).grown hg3' (by have := hB.size; have := hg2.size; omega) (fun g e => by cases e; omega)
              refine dr U 600 rfl trivial ?_
              refine rnd ⟨ko_grown (ko_grown (KeepsOthers.refl W) hg2 (own_cells ho)) hg3' (fun k e => by cases e; exact ⟨_, _, _, hk72⟩), ⟨a2, c2, hk73, ?_, hB4⟩, hk23, hk33⟩
              rw [cuts_succ]
              exact ho3
            · rintro D W hD ⟨a, c, hk7, ho, hB⟩ hK
              refine dr U 600 rfl trivial ?_
              refine ld U rfl rfl rfl rfl ((hk7).cell rfl) ?_
              refine dr U 600 rfl trivial ?_
              have hgp := grownBy_putObj' W D (.deferred none)
              refine retM1 U Tryz.results16 (vs := [_, _]) hK ⟨rfl, rfl, trivial⟩ ⟨_, rfl, .inr (.inr (.inr ⟨hbin, by omega, by omega, hm, a, c, ?_, ?_⟩)), hB.grown hgp hB.size (fun k e => by cases e; omega)⟩
              · rw [hNe]; rfl
              · have h := own_mono ((OwnB.own 0 _ _ _ _ _ _ _).put (.deferred none) ho (Nat.zero_le _) hK rfl) (base' := w.heap.size) (by omega)
                rw [hNe] at h
                exact h
            · rintro D cd W hD h
              exact h.elim
    · exact absurd (by omega) hq
end Go.Proofs.YtcnbohfejgdcbaaGreatDoor
