/-
  Walk of the reference's Check: it says of a text what package nat's Check says.
  Conditions: none but that a text is no longer than an int can tell.

  Walks of the reference's limbs: trim, Read, Write.
  Conditions: fewer than 2^36 limbs.

  Walks of the reference's limbs: Plus, Minus, Order.
  Conditions: fewer than 2^36 limbs.
-/
import Derived.Test.YtejlpdbiacmfcaaGreatDoorYBld
section
set_option linter.unusedSimpArgs false
set_option linter.unusedVariables false
set_option maxHeartbeats 1000000
namespace Go.Proofs.YtejlpdbiacmfcaaGreatDoor
open Go Go.Proofs Go.RowKit Go.Lib


theorem refCheck_calls (l : List UInt8) (hl : l.length ≤ 9223372036854775806) (w : World) :
    Calls Tryz.prog 166 #[.string ⟨⟨l⟩⟩] w (Ret fun v w' => (∃ e, v = .int .i64 e ∧ Chk l e) ∧ w = w') := by
  refine enter Tryz.func166 rfl Tryz.ntmps166 (Nat.le_of_ble_eq_true rfl) ?_
  refine dr U 600 rfl trivial ?_
  refine cS rfl rfl rfl rfl (fun hq => ?_) (fun hq => ?_)
  · refine dr U 600 rfl trivial ?_
    exact ret Tryz.results166 rfl ⟨_, rfl, ⟨3, rfl, .inr (.inr ⟨fun h => h.1 hq, rfl⟩)⟩, rfl⟩
  · have hne : l ≠ [] := hq
    have hpos := List.length_pos_iff.2 hne
    refine dr U 600 rfl (by first | exact True.intro | (simp only [AllP, InR, List.nil_append, List.cons_append, and_true]; omega)) ?_
    refine cS rfl rfl rfl rfl (fun hq => ?_) (fun hq => ?_)
    · have h0 := hq
      refine dr U 600 rfl (by first | exact True.intro | (simp only [AllP, InR, List.nil_append, List.cons_append, and_true]; omega)) ?_
      refine cS rfl rfl rfl rfl (fun hq => ?_) (fun hq => ?_)
      · refine dr U 600 rfl trivial ?_
        refine ret Tryz.results166 rfl ⟨_, rfl, ⟨3, rfl, .inr (.inr ⟨fun h => ?_, rfl⟩)⟩, rfl⟩
        rcases h.2.1 with h1 | h1
        · rw [h1] at hq; simp at hq
        · cases l with
          | nil => exact hne rfl
          | cons c r =>
            have h8 : c.toNat = 48 := by simp at h0; omega
            exact h1 (by show some c = some 48; rw [show c = 48 from UInt8.toNat_inj.1 h8])
      · have hhd : l = [48] ∨ l.head? ≠ some 48 := .inl (by
          cases l with
          | nil => exact absurd rfl hne
          | cons c r =>
            have h8 : c.toNat = 48 := by simp at h0; omega
            have h9 : r = [] := List.length_eq_zero_iff.1 (by simp at hq; omega)
            rw [h9, show c = 48 from UInt8.toNat_inj.1 h8])
        refine dr U 600 rfl trivial ?_
        refine loopR (fun l' w' m => ∃ i : Nat, l' = [(0, .string ⟨⟨l⟩⟩), (3, .int .i64 (i : Nat))] ∧ i ≤ l.length ∧ (∀ c ∈ l.take i, isD c) ∧ w = w' ∧ m = l.length - i) ⟨0, rfl, by omega, by simp, rfl, rfl⟩ ⟨rfl, rfl, trivial⟩ ?_
        rintro l' w1 m ⟨i, rfl, hi, hd, rfl, rfl⟩
        refine dr U 600 rfl trivial ?_
        refine cS rfl rfl rfl rfl (fun hq => ?_) (fun hq => ?_)
        · have hi' : i < l.length := by omega
          have hgd : l.getD i 0 = l[i] := by simp [List.getD, hi']
          have hmem : l[i] ∈ l := List.getElem_mem hi'
          have htk : l.take (i + 1) = l.take i ++ [l[i]] := by rw [List.take_succ_eq_append_getElem hi']
          refine dr U 600 rfl (by first | exact True.intro | (simp only [AllP, InR, List.nil_append, List.cons_append, and_true]; omega)) ?_
          simp only [Int.toNat_natCast, hgd]
          refine cS rfl rfl rfl rfl (fun hq => ?_) (fun hq => ?_)
          · refine dr U 600 rfl trivial ?_
            refine ret Tryz.results166 rfl ⟨_, rfl, ⟨3, rfl, .inr (.inr ⟨fun h => ?_, rfl⟩)⟩, rfl⟩
            have := h.2.2 _ hmem
            unfold isD at this; omega
          · refine dr U 600 rfl (by first | exact True.intro | (simp only [AllP, InR, List.nil_append, List.cons_append, and_true]; omega)) ?_
            simp only [Int.toNat_natCast, hgd]
            have hq1 := hq
            refine cS rfl rfl rfl rfl (fun hq => ?_) (fun hq => ?_)
            · refine dr U 600 rfl trivial ?_
              refine ret Tryz.results166 rfl ⟨_, rfl, ⟨3, rfl, .inr (.inr ⟨fun h => ?_, rfl⟩)⟩, rfl⟩
              have := h.2.2 _ hmem
              unfold isD at this; omega
            · refine dr U 600 rfl (by first | exact True.intro | (simp only [AllP, InR, List.nil_append, List.cons_append, and_true]; omega)) ?_
              refine rend _ _ ⟨i + 1, rfl, by omega, fun c hc => ?_, rfl, rfl⟩ (by omega) ⟨rfl, iv (by omega), trivial⟩
              rw [htk] at hc
              rcases List.mem_append.1 hc with hc | hc
              · exact hd c hc
              · rw [List.mem_singleton.1 hc]; unfold isD; omega
        · obtain rfl : i = l.length := by omega
          rw [List.take_length] at hd
          have hF : Form l := ⟨hne, hhd, hd⟩
          refine dr U 600 rfl trivial ?_
          refine cS rfl rfl rfl rfl (fun hq => ?_) (fun hq => ?_)
          · refine dr U 600 rfl trivial ?_
            exact ret Tryz.results166 rfl ⟨_, rfl, ⟨5, rfl, .inr (.inl ⟨hF, by omega, rfl⟩)⟩, rfl⟩
          · refine dr U 600 rfl trivial ?_
            exact ret Tryz.results166 rfl ⟨_, rfl, ⟨0, rfl, .inl ⟨hF, by omega, rfl⟩⟩, rfl⟩
    · have hhd : l = [48] ∨ l.head? ≠ some 48 := .inr (fun e => by
        cases l with
        | nil => cases e
        | cons c r =>
          have : c = 48 := Option.some.inj e
          subst this
          exact hq rfl)
      refine dr U 600 rfl trivial ?_
      refine loopR (fun l' w' m => ∃ i : Nat, l' = [(0, .string ⟨⟨l⟩⟩), (3, .int .i64 (i : Nat))] ∧ i ≤ l.length ∧ (∀ c ∈ l.take i, isD c) ∧ w = w' ∧ m = l.length - i) ⟨0, rfl, by omega, by simp, rfl, rfl⟩ ⟨rfl, rfl, trivial⟩ ?_
      rintro l' w1 m ⟨i, rfl, hi, hd, rfl, rfl⟩
      refine dr U 600 rfl trivial ?_
      refine cS rfl rfl rfl rfl (fun hq => ?_) (fun hq => ?_)
      · have hi' : i < l.length := by omega
        have hgd : l.getD i 0 = l[i] := by simp [List.getD, hi']
        have hmem : l[i] ∈ l := List.getElem_mem hi'
        have htk : l.take (i + 1) = l.take i ++ [l[i]] := by rw [List.take_succ_eq_append_getElem hi']
        refine dr U 600 rfl (by first | exact True.intro | (simp only [AllP, InR, List.nil_append, List.cons_append, and_true]; omega)) ?_
        simp only [Int.toNat_natCast, hgd]
        refine cS rfl rfl rfl rfl (fun hq => ?_) (fun hq => ?_)
        · refine dr U 600 rfl trivial ?_
          refine ret Tryz.results166 rfl ⟨_, rfl, ⟨3, rfl, .inr (.inr ⟨fun h => ?_, rfl⟩)⟩, rfl⟩
          have := h.2.2 _ hmem
          unfold isD at this; omega
        · refine dr U 600 rfl (by first | exact True.intro | (simp only [AllP, InR, List.nil_append, List.cons_append, and_true]; omega)) ?_
          simp only [Int.toNat_natCast, hgd]
          have hq1 := hq
          refine cS rfl rfl rfl rfl (fun hq => ?_) (fun hq => ?_)
          · refine dr U 600 rfl trivial ?_
            refine ret Tryz.results166 rfl ⟨_, rfl, ⟨3, rfl, .inr (.inr ⟨fun h => ?_, rfl⟩)⟩, rfl⟩
            have := h.2.2 _ hmem
            unfold isD at this; omega
          · refine dr U 600 rfl (by first | exact True.intro | (simp only [AllP, InR, List.nil_append, List.cons_append, and_true]; omega)) ?_
            refine rend _ _ ⟨i + 1, rfl, by omega, fun c hc => ?_, rfl, rfl⟩ (by omega) ⟨rfl, iv (by omega), trivial⟩
            rw [htk] at hc
            rcases List.mem_append.1 hc with hc | hc
            · exact hd c hc
            · rw [List.mem_singleton.1 hc]; unfold isD; omega
      · obtain rfl : i = l.length := by omega
        rw [List.take_length] at hd
        have hF : Form l := ⟨hne, hhd, hd⟩
        refine dr U 600 rfl trivial ?_
        refine cS rfl rfl rfl rfl (fun hq => ?_) (fun hq => ?_)
        · refine dr U 600 rfl trivial ?_
          exact ret Tryz.results166 rfl ⟨_, rfl, ⟨5, rfl, .inr (.inl ⟨hF, by omega, rfl⟩)⟩, rfl⟩
        · refine dr U 600 rfl trivial ?_
          exact ret Tryz.results166 rfl ⟨_, rfl, ⟨0, rfl, .inl ⟨hF, by omega, rfl⟩⟩, rfl⟩
end Go.Proofs.YtejlpdbiacmfcaaGreatDoor
end
section
set_option linter.unusedSimpArgs false
set_option linter.unusedVariables false
set_option maxHeartbeats 1000000
namespace Go.Proofs.YtejlpdbiacmfcaaGreatDoor
open Go Go.Proofs Go.RowKit Go.Lib

def i64n (n : Nat) : Value := .int .i64 (n : Int)

/-- A slice of limbs that reads as this list. -/
def RdI (w : World) (a : Option Addr) (c : Nat) (xs : List Nat) : Prop := Sl w a (xs.map i64n) ∧ xs.length ≤ c ∧ ∀ g, ab a = some g → Tg w 3 g

theorem RdI.below {w w' : World} {a : Option Addr} {c : Nat} {xs : List Nat} (h : RdI w a c xs) (hb : Below w.heap.size w w') : RdI w' a c xs :=
  ⟨h.1.below hb (fun g hg => (h.2.2 g hg).lt), h.2.1, fun g hg => (h.2.2 g hg).below hb⟩

theorem getI {xs : List Nat} {j : Nat} (h : j < xs.length) : (xs.map i64n)[j]? = some (i64n (xs.getD j 0)) := by simp [h, List.getD]

/-- A fresh slice of limbs, as a result. -/
def OwnI (w w' : World) (v : Value) (zs : List Nat) : Prop := ∃ a c, v = .slice a zs.length c ∧ w'.ownsRow w.heap.size 3 1 (.slice a zs.length c) zs.length (zs.map i64n) ∧ Below w.heap.size w w'

theorem ownI_rd {w : World} {base : Nat} {a : Option Addr} {m c : Nat} {xs : List Nat} (h : w.ownsRow base 3 1 (.slice a m c) m (xs.map i64n)) : RdI w a c xs := by
  have hl := own_len h
  simp at hl
  refine ⟨own_sl h, ?_, own_tag h⟩
  rcases h.2 with ⟨h1, h2⟩ | ⟨g, cap, cur, h1, _, _, h4, _⟩
  · omega
  · simp at h1; omega

theorem rtrim_calls (xs : List Nat) (a : Option Addr) (c : Nat) (w : World) (h : RdI w a c xs) (hl : xs.length ≤ 1099511627776) :
    Calls Tryz.prog 105 #[.slice a xs.length c] w (Ret fun v w' => v = .slice a (trimN xs).length c ∧ w = w') := by
  obtain ⟨hs, hc, _⟩ := h
  refine enter Tryz.func105 rfl Tryz.ntmps105 (Nat.le_of_ble_eq_true rfl) ?_
  refine dr U 600 rfl trivial ?_
  refine loopR (fun l w' m => ∃ j, l = [(0, .slice a j c)] ∧ w = w' ∧ j ≤ xs.length ∧ trimN (xs.take j) = trimN xs ∧ j = m) ⟨xs.length, rfl, rfl, Nat.le_refl _, by simp, rfl⟩ ⟨rfl, trivial⟩ ?_
  rintro l w' m ⟨j, rfl, rfl, hj, ht, rfl⟩
  refine dr U 600 rfl (by first | exact True.intro | (simp only [AllP, InR, List.nil_append, List.cons_append, and_true]; omega)) ?_
  refine cS rfl rfl rfl rfl (fun hq => ?_) (fun hq => ?_)
  · refine dr U 600 rfl (by first | exact True.intro | (simp only [AllP, InR, List.nil_append, List.cons_append, and_true]; omega)) ?_
    obtain ⟨i, rfl⟩ : ∃ i, j = i + 1 := ⟨j - 1, by omega⟩
    rw [take_snoc xs i hj] at ht
    refine il U rfl rfl rfl rfl rfl rfl rfl (fun _ => rfl) rfl i (by omega) (by omega) hs (getI hj) ?_
    refine cS rfl rfl rfl rfl (fun hq => ?_) (fun hq => ?_)
    · refine dr U 600 rfl (by first | exact True.intro | (simp only [AllP, InR, List.nil_append, List.cons_append, and_true]; omega)) ?_
      rw [trimN_snoc0 _ _ (by omega)] at ht
      exact rend _ _ ⟨_, rfl, rfl, by omega, by rw [show (((i + 1 : Nat) : Int) - 1).toNat = i from by omega]; exact ht, rfl⟩ (by omega) ⟨rfl, trivial⟩
    · refine dr U 600 rfl (by first | exact True.intro | (simp only [AllP, InR, List.nil_append, List.cons_append, and_true]; omega)) ?_
      rw [trimN_snoc _ _ (by omega), ← take_snoc xs i hj] at ht
      refine ret Tryz.results105 rfl ⟨_, rfl, ?_, rfl⟩
      rw [← ht]; simp [pack]; omega
  · refine dr U 600 rfl (by first | exact True.intro | (simp only [AllP, InR, List.nil_append, List.cons_append, and_true]; omega)) ?_
    obtain rfl : j = 0 := by omega
    refine ret Tryz.results105 rfl ⟨_, rfl, ?_, rfl⟩
    rw [← ht]; rfl

theorem rtrim_own (xs : List Nat) (a : Option Addr) (c base : Nat) (w : World) (h : w.ownsRow base 3 1 (.slice a xs.length c) xs.length (xs.map i64n)) (hx : Lm xs) (hl : xs.length ≤ 1099511627776) :
    Calls Tryz.prog 105 #[.slice a xs.length c] w (Ret fun v w' => v = .slice a (lim (val xs)).length c ∧ w = w' ∧ w.ownsRow base 3 1 (.slice a (lim (val xs)).length c) (lim (val xs)).length ((lim (val xs)).map i64n)) := by
  refine (rtrim_calls xs a c w (ownI_rd h) hl).mono ?_
  rintro e w' ⟨v, rfl, rfl, rfl⟩
  rw [trimN_eq hx]
  refine ⟨_, rfl, rfl, rfl, ?_⟩
  obtain ⟨t, ht⟩ := trimN_prefix xs
  rw [trimN_eq hx] at ht
  generalize lim (val xs) = zs at ht
  have h1 := own_take h (k := zs.length) (by rw [ht]; simp)
  have h2 : (xs.map i64n).take zs.length = zs.map i64n := by
    rw [ht, List.map_append, List.take_left' (by simp)]
  rw [h2] at h1
  exact h1

theorem set_i64n (cs : List Nat) (j x : Nat) : (cs.map i64n).set j (i64n x) = (cs.set j x).map i64n := by rw [List.map_set]
theorem rep_i64n (k : Nat) : List.replicate k (Value.int .i64 0) = (List.replicate k 0).map i64n := by simp [i64n]

theorem rtrim_ownN (n : Nat) (xs : List Nat) (hn : xs.length = n) (a : Option Addr) (c base : Nat) (w : World) (h : w.ownsRow base 3 1 (.slice a n c) n (xs.map i64n)) (hx : Lm xs) (hl : n ≤ 1099511627776) :
    Calls Tryz.prog 105 #[.slice a n c] w (Ret fun v w' => v = .slice a (lim (val xs)).length c ∧ w = w' ∧ w.ownsRow base 3 1 (.slice a (lim (val xs)).length c) (lim (val xs)).length ((lim (val xs)).map i64n)) := by
  subst hn; exact rtrim_own xs a c base w h hx hl


theorem OwnI.rd {w w' : World} {v : Value} {zs : List Nat} (h : OwnI w w' v zs) : ∃ a c, v = .slice a zs.length c ∧ RdI w' a c zs ∧ Below w.heap.size w w' := by
  obtain ⟨a, c, rfl, h1, h2⟩ := h
  exact ⟨a, c, rfl, ownI_rd h1, h2⟩

theorem read_in {s : List UInt8} {lo i : Nat} (h1 : lo ≤ i) (h2 : i < s.length) : (s.take (i + 1)).drop lo = (s.take i).drop lo ++ [s[i]] := by
  rw [List.take_succ_eq_append_getElem h2, List.drop_append_of_le_length (by simp; omega)]

theorem read_calls (s : List UInt8) (h : Dgs s) (hl : s.length ≤ 1099511627776) (w : World) :
    Calls Tryz.prog 62 #[.string ⟨⟨s⟩⟩] w (Ret fun v w' => OwnI w w' v (lim (dval s))) := by
  refine enter Tryz.func62 rfl Tryz.ntmps62 (Nat.le_of_ble_eq_true rfl) ?_
  refine dr U 600 rfl trivial ?_
  refine loopR (fun l w' m => ∃ z : Int, ∃ zs a c, l = [(0, .string ⟨⟨s⟩⟩), (3, .slice a zs.length c), (4, .int .i64 z)] ∧ z ≤ s.length ∧ -9 ≤ z ∧ zs.length + z.toNat ≤ s.length ∧ Lm zs ∧ val zs + pw zs.length * dval (s.take z.toNat) = dval s ∧ w'.ownsRow w.heap.size 3 1 (.slice a zs.length c) zs.length (zs.map i64n) ∧ Below w.heap.size w w' ∧ m = z.toNat)
    (l0 := [(0, .string ⟨⟨s⟩⟩), (3, .slice none 0 0), (4, .int .i64 (s.length : Nat))]) ⟨(s.length : Int), ([] : List Nat), none, 0, rfl, by omega, by omega, by simp, Lm.nil, by simp [val, pw_zero], ⟨rfl, .inl ⟨rfl, rfl⟩⟩, Below.refl _ _, rfl⟩ ⟨rfl, rfl, rfl, trivial⟩ ?_
  rintro l w1 m ⟨z, zs, a, c, rfl, hz, hz9, hzs, hzl, hv, ho, hB, rfl⟩
  refine dr U 600 rfl trivial ?_
  refine cS rfl rfl rfl rfl (fun hq => ?_) (fun hq => ?_)
  · obtain ⟨e, rfl⟩ : ∃ e : Nat, z = e := ⟨z.toNat, by omega⟩
    rw [Int.toNat_natCast] at hv hzs
    have hel : e ≤ s.length := by omega
    have hstep := parse_step (by omega) rfl hv hel
    have hch : Dgs ((s.take e).drop (e - 9)) := (h.take e).drop _
    have hcl : ((s.take e).drop (e - 9)).length ≤ 9 := by simp; omega
    have hclt : dval ((s.take e).drop (e - 9)) < 1000000000 := by
      have h1 := dval_lt hch
      have h2 := Nat.pow_le_pow_right (n := 10) (by omega) hcl
      omega
    refine dr U 600 rfl (by first | exact True.intro | (simp only [AllP, InR, List.nil_append, List.cons_append, and_true]; omega)) ?_
    refine loopR (fun l w' m => ∃ i : Nat, l = [(5, .int .i64 (dval ((s.take i).drop (e - 9)) : Nat)), (6, .int .i64 (i : Nat)), (0, .string ⟨⟨s⟩⟩), (3, .slice a zs.length c), (4, .int .i64 (e : Nat))] ∧ e - 9 ≤ i ∧ i ≤ e ∧ w' = w1 ∧ m = e - i)
      (l0 := [(5, .int .i64 (0 : Nat)), (6, .int .i64 ((e - 9 : Nat) : Nat)), (0, .string ⟨⟨s⟩⟩), (3, .slice a zs.length c), (4, .int .i64 (e : Nat))])
      ⟨e - 9, by rw [List.drop_eq_nil_of_le (by simp; omega)]; rfl, Nat.le_refl _, by omega, rfl, rfl⟩ ⟨rfl, iv (by omega), rfl, rfl, rfl, trivial⟩ ?_
    rintro l w2 m ⟨i, rfl, hi1, hi2, rfl, rfl⟩
    refine dr U 600 rfl trivial ?_
    refine cS rfl rfl rfl rfl (fun hq => ?_) (fun hq => ?_)
    · have hi3 : i < e := by omega
      have hil : i < s.length := by omega
      have hgd : s.getD i 0 = s[i] := by simp [List.getD, hil]
      have hdg : isD s[i] := h _ (List.getElem_mem hil)
      have hdr := read_in hi1 hil
      have hdl : dval ((s.take i).drop (e - 9)) < 1000000000 := by
        have h1 := dval_lt ((h.take i).drop (e - 9))
        have h3 : ((s.take i).drop (e - 9)).length ≤ 9 := by simp; omega
        have h2 := Nat.pow_le_pow_right (n := 10) (by omega) h3
        omega
      have hds : dval ((s.take (i + 1)).drop (e - 9)) = dval ((s.take i).drop (e - 9)) * 10 + (s[i].toNat - 48) := by rw [hdr, dval_snoc]
      generalize dval ((s.take i).drop (e - 9)) = n at *
      unfold isD at hdg
      refine dr U 600 rfl ?_ ?_
      · simp only [AllP, InR, List.nil_append, List.cons_append, and_true, Int.toNat_natCast, hgd]
        omega
      refine rend [(5, .int .i64 (dval ((s.take (i + 1)).drop (e - 9)) : Nat)), (6, .int .i64 ((i + 1 : Nat) : Nat)), (0, .string ⟨⟨s⟩⟩), (3, .slice a zs.length c), (4, .int .i64 (e : Nat))] _ ⟨i + 1, rfl, by omega, by omega, rfl, rfl⟩ (by omega) ⟨?_, iv (by omega), rfl, rfl, rfl, trivial⟩
      refine iv ?_
      rw [hds, Int.toNat_natCast, hgd]
      omega
    · obtain rfl : i = e := by omega
      generalize hchk : (s.take i).drop (i - 9) = ch at *
      refine dr U 600 rfl (by first | exact True.intro | (simp only [AllP, InR, List.nil_append, List.cons_append, and_true]; omega)) ?_
      refine ap U (v := (i64n (dval ch))) rfl rfl rfl rfl rfl rfl (fun _ => rfl) rfl (fun _ => rfl) rfl rfl rfl ho hB.size (by omega) (by decide) ?_
      intro a1 c1 w3 ho3 hg3
      refine dr U 600 rfl (by first | exact True.intro | (simp only [AllP, InR, List.nil_append, List.cons_append, and_true]; omega)) ?_
      refine rend [(0, .string ⟨⟨s⟩⟩), (3, .slice a1 (zs.length + 1) c1), (4, .int .i64 ((i : Int) - 9))] _ ⟨(i : Int) - 9, zs ++ [dval ch], a1, c1, by simp, by omega, by omega, by simp; omega, hzl.snoc hclt, by rw [show ((i : Int) - 9).toNat = i - 9 by omega, List.length_append]; exact hstep, by simpa using ho3, hB.grown hg3 hB.size (fun g hg => (own_block ho g hg).1), rfl⟩ (by omega) ⟨rfl, rfl, rfl, trivial⟩
  · have hz0 : z.toNat = 0 := by omega
    rw [hz0, List.take_zero, show dval [] = 0 from rfl] at hv
    refine dr U 600 rfl trivial ?_
    refine call (f := 105) rfl rfl cb105 (rtrim_own zs a c w.heap.size w1 ho hzl (by omega)) ?_
    rintro v w2 ⟨rfl, rfl, ho2⟩
    refine ⟨_, rfl, ?_⟩
    refine dr U 600 rfl trivial ?_
    rw [show val zs = dval s by omega] at ho2 ⊢
    exact ret Tryz.results62 rfl ⟨_, rfl, a, c, rfl, ho2, hB⟩
end Go.Proofs.YtejlpdbiacmfcaaGreatDoor
end
section
set_option linter.unusedSimpArgs false
set_option linter.unusedVariables false
set_option maxHeartbeats 1000000
namespace Go.Proofs.YtejlpdbiacmfcaaGreatDoor
open Go Go.Proofs Go.RowKit Go.Lib

theorem plus_step {zs : List Nat} {A B A' B' i cy x y s : Nat} (hz : zs.length = i) (hs : s = cy + x + y) (hA : A' = A + pw i * x) (hB : B' = B + pw i * y) (h : val zs + cy * pw i = A + B) :
    val (zs ++ [s % 1000000000]) + s / 1000000000 * pw (i + 1) = A' + B' := by
  rw [val_snoc, hz, pw_succ, hA, hB]
  have e : pw i * (s % 1000000000) + s / 1000000000 * (1000000000 * pw i) = pw i * s := by
    have h1 : s / 1000000000 * (1000000000 * pw i) = pw i * (1000000000 * (s / 1000000000)) := by
      rw [← Nat.mul_assoc, Nat.mul_comm, Nat.mul_comm (s / 1000000000)]
    rw [h1, ← Nat.mul_add, Nat.mod_add_div]
  rw [hs] at e ⊢
  rw [Nat.mul_add, Nat.mul_add] at e
  rw [Nat.mul_comm cy] at h
  omega

theorem plus_can {zs : List Nat} {p q : Nat} (hz : Lm zs) (hv : val zs = p + q) (hl : zs.length ≤ max (lim p).length (lim q).length ∨ ∃ k, zs.length = k + 1 ∧ pw k ≤ val zs) : zs = lim (p + q) := by
  rw [← hv]
  refine (lim_val hz (fun k hk => ?_)).symm
  rcases hl with hl | ⟨k', h1, h2⟩
  · rcases Nat.le_total (lim p).length (lim q).length with h | h
    · rw [Nat.max_eq_right h] at hl
      obtain ⟨j, hj⟩ : ∃ j, (lim q).length = j + 1 := ⟨(lim q).length - 1, by omega⟩
      have := lim_len_ge hj
      have := pw_le (show k ≤ j by omega)
      omega
    · rw [Nat.max_eq_left h] at hl
      obtain ⟨j, hj⟩ : ∃ j, (lim p).length = j + 1 := ⟨(lim p).length - 1, by omega⟩
      have := lim_len_ge hj
      have := pw_le (show k ≤ j by omega)
      omega
  · obtain rfl : k = k' := by omega
    exact h2


theorem plus_calls (p q : Nat) (a b : Option Addr) (c d : Nat) (w : World) (ha : RdI w a c (lim p)) (hb : RdI w b d (lim q)) (hpl : (lim p).length ≤ 1099511627776) (hql : (lim q).length ≤ 1099511627776) :
    Calls Tryz.prog 61 #[.slice a (lim p).length c, .slice b (lim q).length d] w (Ret fun v w' => OwnI w w' v (lim (p + q))) := by
  have hxl := lim_Lm p
  have hyl := lim_Lm q
  have hvp := val_lim p
  have hvq := val_lim q
  have hcan := fun zs h1 h2 h3 => @plus_can zs p q h1 h2 h3
  generalize hxs : lim p = xs at *
  generalize hys : lim q = ys at *
  refine enter Tryz.func61 rfl Tryz.ntmps61 (Nat.le_of_ble_eq_true rfl) ?_
  refine dr U 600 rfl trivial ?_
  refine loopR (fun l w' m => ∃ i zs cy ao co, l = [(0, .slice a xs.length c), (1, .slice b ys.length d), (5, .slice ao i co), (6, .int .i64 (cy : Nat)), (7, .int .i64 (i : Nat))] ∧ i ≤ max xs.length ys.length + 1 ∧ zs.length = i ∧ Lm zs ∧ cy ≤ 1 ∧
    val zs + cy * pw i = val (xs.take i) + val (ys.take i) ∧ (i ≤ max xs.length ys.length ∨ (cy = 0 ∧ ∃ k, i = k + 1 ∧ pw k ≤ val zs)) ∧ w'.ownsRow w.heap.size 3 1 (.slice ao i co) i (zs.map i64n) ∧ Below w.heap.size w w' ∧ m = max xs.length ys.length + 1 - i)
    ⟨0, [], 0, none, 0, rfl, by omega, rfl, Lm.nil, by omega, by simp [val], .inl (by omega), ⟨rfl, .inl ⟨rfl, rfl⟩⟩, Below.refl _ _, rfl⟩ ⟨rfl, rfl, rfl, rfl, rfl, trivial⟩ ?_
  rintro l w' m ⟨i, zs, cy, ao, co, rfl, hi, hz, hzl, hcy, hv, hd, ho, hB, rfl⟩
  refine dr U 600 rfl trivial ?_
  refine cS rfl rfl rfl rfl (fun hq => ?_) (fun hq => ?_)
  · have hi' : i < xs.length := by omega
    have hx1 := hxl.getD i
    have hs1 := val_take_succ xs i hi'
    refine dr U 600 rfl trivial ?_
    refine cT rfl rfl rfl (by omega) ?_
    refine dr U 600 rfl trivial ?_
    refine il U rfl rfl rfl rfl rfl rfl rfl (fun _ => rfl) rfl i (by omega) (by omega) (ha.below hB).1 (getI hi') ?_
    generalize hx2 : xs.getD i 0 = x at *
    refine dr U 600 rfl (by first | exact True.intro | (simp only [AllP, InR, List.nil_append, List.cons_append, and_true]; omega)) ?_
    refine cS rfl rfl rfl rfl (fun hq => ?_) (fun hq => ?_)
    · have hj : i < ys.length := by omega
      have hy1 := hyl.getD i
      have hs2 := val_take_succ ys i hj
      refine dr U 600 rfl trivial ?_
      refine il U rfl rfl rfl rfl rfl rfl rfl (fun _ => rfl) rfl i (by omega) (by omega) (hb.below hB).1 (getI hj) ?_
      generalize hy2 : ys.getD i 0 = y at *
      refine dr U 600 rfl (by first | exact True.intro | (simp only [AllP, InR, List.nil_append, List.cons_append, and_true]; omega)) ?_
      refine ap U (v := (i64n ((cy + x + y) % 1000000000))) (iv (by omega)) rfl rfl rfl rfl rfl (fun _ => rfl) rfl (fun _ => rfl) rfl rfl rfl ho hB.size (by omega) (by decide) ?_
      intro a1 c1 w1 ho1 hg1
      refine dr U 600 rfl (by first | exact True.intro | (simp only [AllP, InR, List.nil_append, List.cons_append, and_true]; omega)) ?_
      refine rend _ _ ⟨i + 1, zs ++ [(cy + x + y) % 1000000000], (cy + x + y) / 1000000000, a1, c1, rfl, by omega, by simp [hz], hzl.snoc (by omega), by omega, plus_step hz rfl hs1 hs2 hv, ?_, by simpa using ho1, hB.grown hg1 hB.size (fun g hg => (own_block ho g hg).1), rfl⟩ (by omega) ⟨rfl, rfl, rfl, iv (by omega), iv (by omega), trivial⟩
      exact .inl (by omega)
    · have hs2 := val_take_beyond ys i (by omega)
      refine dr U 600 rfl (by first | exact True.intro | (simp only [AllP, InR, List.nil_append, List.cons_append, and_true]; omega)) ?_
      refine ap U (v := (i64n ((cy + x) % 1000000000))) (iv (by omega)) rfl rfl rfl rfl rfl (fun _ => rfl) rfl (fun _ => rfl) rfl rfl rfl ho hB.size (by omega) (by decide) ?_
      intro a1 c1 w1 ho1 hg1
      refine dr U 600 rfl (by first | exact True.intro | (simp only [AllP, InR, List.nil_append, List.cons_append, and_true]; omega)) ?_
      refine rend _ _ ⟨i + 1, zs ++ [(cy + x) % 1000000000], (cy + x) / 1000000000, a1, c1, rfl, by omega, by simp [hz], hzl.snoc (by omega), by omega, plus_step hz (by omega) hs1 hs2 hv, ?_, by simpa using ho1, hB.grown hg1 hB.size (fun g hg => (own_block ho g hg).1), rfl⟩ (by omega) ⟨rfl, rfl, rfl, iv (by omega), iv (by omega), trivial⟩
      exact .inl (by omega)
  · have hs1 := val_take_beyond xs i (by omega)
    have hx0 : ¬ i < xs.length := by omega
    refine dr U 600 rfl trivial ?_
    refine cS rfl rfl rfl rfl (fun hq => ?_) (fun hq => ?_)
    · have hj : i < ys.length := by omega
      have hy1 := hyl.getD i
      have hs2 := val_take_succ ys i hj
      refine dr U 600 rfl trivial ?_
      refine cF rfl rfl rfl (by omega) ?_
      refine dr U 600 rfl trivial ?_
      refine cT rfl rfl rfl (by omega) ?_
      refine dr U 600 rfl trivial ?_
      refine il U rfl rfl rfl rfl rfl rfl rfl (fun _ => rfl) rfl i (by omega) (by omega) (hb.below hB).1 (getI hj) ?_
      generalize hy2 : ys.getD i 0 = y at *
      refine dr U 600 rfl (by first | exact True.intro | (simp only [AllP, InR, List.nil_append, List.cons_append, and_true]; omega)) ?_
      refine ap U (v := (i64n ((cy + y) % 1000000000))) (iv (by omega)) rfl rfl rfl rfl rfl (fun _ => rfl) rfl (fun _ => rfl) rfl rfl rfl ho hB.size (by omega) (by decide) ?_
      intro a1 c1 w1 ho1 hg1
      refine dr U 600 rfl (by first | exact True.intro | (simp only [AllP, InR, List.nil_append, List.cons_append, and_true]; omega)) ?_
      refine rend _ _ ⟨i + 1, zs ++ [(cy + y) % 1000000000], (cy + y) / 1000000000, a1, c1, rfl, by omega, by simp [hz], hzl.snoc (by omega), by omega, plus_step hz (by omega) hs1 hs2 hv, ?_, by simpa using ho1, hB.grown hg1 hB.size (fun g hg => (own_block ho g hg).1), rfl⟩ (by omega) ⟨rfl, rfl, rfl, iv (by omega), iv (by omega), trivial⟩
      exact .inl (by omega)
    · have hs2 := val_take_beyond ys i (by omega)
      have hy0 : ¬ i < ys.length := by omega
      refine dr U 600 rfl trivial ?_
      refine cS rfl rfl rfl rfl (fun hq => ?_) (fun hq => ?_)
      · obtain rfl : cy = 1 := by omega
        have hi2 : i = max xs.length ys.length := by
          rcases hd with h | ⟨h, _⟩
          · omega
          · omega
        refine dr U 600 rfl trivial ?_
        refine cF rfl rfl rfl (by omega) ?_
        refine dr U 600 rfl trivial ?_
        refine cF rfl rfl rfl (by omega) ?_
        refine dr U 600 rfl (by first | exact True.intro | (simp only [AllP, InR, List.nil_append, List.cons_append, and_true]; omega)) ?_
        refine ap U (v := (i64n (1 % 1000000000))) (iv (by omega)) rfl rfl rfl rfl rfl (fun _ => rfl) rfl (fun _ => rfl) rfl rfl rfl ho hB.size (by omega) (by decide) ?_
        intro a1 c1 w1 ho1 hg1
        refine dr U 600 rfl (by first | exact True.intro | (simp only [AllP, InR, List.nil_append, List.cons_append, and_true]; omega)) ?_
        refine rend _ _ ⟨i + 1, zs ++ [1 % 1000000000], 1 / 1000000000, a1, c1, rfl, by omega, by simp [hz], hzl.snoc (by omega), by omega, plus_step hz (by omega) hs1 hs2 hv, ?_, by simpa using ho1, hB.grown hg1 hB.size (fun g hg => (own_block ho g hg).1), rfl⟩ (by omega) ⟨rfl, rfl, rfl, iv (by omega), iv (by omega), trivial⟩
        refine .inr ⟨rfl, i, rfl, ?_⟩
        rw [val_snoc, hz]
        have := pw_pos i
        omega
      · obtain rfl : cy = 0 := by omega
        refine dr U 600 rfl trivial ?_
        refine ret Tryz.results61 rfl ⟨_, rfl, ?_⟩
        have e := hcan zs hzl (by rw [take_all (by omega), take_all (by omega)] at hv; omega) (by
          rcases hd with h | ⟨_, k, h1, h2⟩
          · exact .inl (by omega)
          · exact .inr ⟨k, by omega, h2⟩)
        have e2 : (lim (p + q)).length = i := by rw [← e]; exact hz
        refine ⟨ao, co, by rw [e2]; rfl, ?_, hB⟩
        rw [e2, ← e]; exact ho


theorem minus_calls (p q : Nat) (hpq : q ≤ p) (a b : Option Addr) (c d : Nat) (w : World) (ha : RdI w a c (lim p)) (hb : RdI w b d (lim q)) (hpl : (lim p).length ≤ 1099511627776) :
    Calls Tryz.prog 104 #[.slice a (lim p).length c, .slice b (lim q).length d] w (Ret fun v w' => OwnI w w' v (lim (p - q))) := by
  have hxl := lim_Lm p
  have hyl := lim_Lm q
  have hvp := val_lim p
  have hvq := val_lim q
  have hll := lim_len_mono hpq
  have hres : ∀ zs bo, Lm zs → zs.length = (lim p).length → bo ≤ 1 → val zs + val (lim q) = val (lim p) + bo * pw (lim p).length → val zs = p - q := by
    intro zs bo h1 h2 h3 h4
    have := val_lt h1
    rw [h2] at this
    obtain rfl | rfl : bo = 0 ∨ bo = 1 := by omega
    · omega
    · omega
  generalize hxs : lim p = xs at *
  generalize hys : lim q = ys at *
  refine enter Tryz.func104 rfl Tryz.ntmps104 (Nat.le_of_ble_eq_true rfl) ?_
  refine dr U 600 rfl trivial ?_
  refine loopR (fun l w' m => ∃ i zs bo ao co, l = [(0, .slice a xs.length c), (1, .slice b ys.length d), (5, .slice ao i co), (6, .int .i64 (bo : Nat)), (7, .int .i64 (i : Nat))] ∧ i ≤ xs.length ∧ zs.length = i ∧ Lm zs ∧ bo ≤ 1 ∧
    val zs + val (ys.take i) = val (xs.take i) + bo * pw i ∧ w'.ownsRow w.heap.size 3 1 (.slice ao i co) i (zs.map i64n) ∧ Below w.heap.size w w' ∧ m = xs.length - i)
    ⟨0, [], 0, none, 0, rfl, by omega, rfl, Lm.nil, by omega, by simp [val], ⟨rfl, .inl ⟨rfl, rfl⟩⟩, Below.refl _ _, rfl⟩ ⟨rfl, rfl, rfl, rfl, rfl, trivial⟩ ?_
  rintro l w' m ⟨i, zs, bo, ao, co, rfl, hi, hz, hzl, hcy, hv, ho, hB, rfl⟩
  refine dr U 600 rfl trivial ?_
  refine cS rfl rfl rfl rfl (fun hq => ?_) (fun hq => ?_)
  · have hi' : i < xs.length := by omega
    have hx1 := hxl.getD i
    refine dr U 600 rfl trivial ?_
    refine il U rfl rfl rfl rfl rfl rfl rfl (fun _ => rfl) rfl i (by omega) (by omega) (ha.below hB).1 (getI hi') ?_
    refine dr U 600 rfl (by first | exact True.intro | (simp only [AllP, InR, List.nil_append, List.cons_append, and_true]; omega)) ?_
    refine cS rfl rfl rfl rfl (fun hq => ?_) (fun hq => ?_)
    · have hj : i < ys.length := by omega
      have hy1 := hyl.getD i
      have hyt := val_take_succ ys i hj
      refine dr U 600 rfl trivial ?_
      refine il U rfl rfl rfl rfl rfl rfl rfl (fun _ => rfl) rfl i (by omega) (by omega) (hb.below hB).1 (getI hj) ?_
      have hs := @sub_step zs xs ys i bo hi' hz hxl _ hy1 hcy hyt hv
      generalize hx2 : xs.getD i 0 = x at *
      generalize hy2 : ys.getD i 0 = y at *
      refine dr U 600 rfl (by first | exact True.intro | (simp only [AllP, InR, List.nil_append, List.cons_append, and_true]; omega)) ?_
      refine cS rfl rfl rfl rfl (fun hq => ?_) (fun hq => ?_)
      · refine dr U 600 rfl (by first | exact True.intro | (simp only [AllP, InR, List.nil_append, List.cons_append, and_true]; omega)) ?_
        refine ap U (v := (i64n (x + 1000000000 - (bo + y)))) (iv (by omega)) rfl rfl rfl rfl rfl (fun _ => rfl) rfl (fun _ => rfl) rfl rfl rfl ho hB.size (by omega) (by decide) ?_
        intro a1 c1 w1 ho1 hg1
        refine dr U 600 rfl (by first | exact True.intro | (simp only [AllP, InR, List.nil_append, List.cons_append, and_true]; omega)) ?_
        refine rend _ _ ⟨i + 1, zs ++ [x + 1000000000 - (bo + y)], 1, a1, c1, rfl, by omega, by simp [hz], hzl.snoc (by omega), by omega, hs _ 1 (by omega), by simpa using ho1, hB.grown hg1 hB.size (fun g hg => (own_block ho g hg).1), rfl⟩ (by omega) ⟨rfl, rfl, rfl, rfl, iv (by omega), trivial⟩
      · refine dr U 600 rfl (by first | exact True.intro | (simp only [AllP, InR, List.nil_append, List.cons_append, and_true]; omega)) ?_
        refine ap U (v := (i64n (x - (bo + y)))) (iv (by omega)) rfl rfl rfl rfl rfl (fun _ => rfl) rfl (fun _ => rfl) rfl rfl rfl ho hB.size (by omega) (by decide) ?_
        intro a1 c1 w1 ho1 hg1
        refine dr U 600 rfl (by first | exact True.intro | (simp only [AllP, InR, List.nil_append, List.cons_append, and_true]; omega)) ?_
        refine rend _ _ ⟨i + 1, zs ++ [x - (bo + y)], 0, a1, c1, rfl, by omega, by simp [hz], hzl.snoc (by omega), by omega, hs _ 0 (by omega), by simpa using ho1, hB.grown hg1 hB.size (fun g hg => (own_block ho g hg).1), rfl⟩ (by omega) ⟨rfl, rfl, rfl, rfl, iv (by omega), trivial⟩
    · have hyt := val_take_beyond ys i (by omega)
      have hy1 : 0 < 1000000000 := by omega
      have hs := @sub_step zs xs ys i bo hi' hz hxl 0 hy1 hcy hyt hv
      generalize hx2 : xs.getD i 0 = x at *
      refine dr U 600 rfl (by first | exact True.intro | (simp only [AllP, InR, List.nil_append, List.cons_append, and_true]; omega)) ?_
      refine cS rfl rfl rfl rfl (fun hq => ?_) (fun hq => ?_)
      · refine dr U 600 rfl (by first | exact True.intro | (simp only [AllP, InR, List.nil_append, List.cons_append, and_true]; omega)) ?_
        refine ap U (v := (i64n (x + 1000000000 - (bo + 0)))) (iv (by omega)) rfl rfl rfl rfl rfl (fun _ => rfl) rfl (fun _ => rfl) rfl rfl rfl ho hB.size (by omega) (by decide) ?_
        intro a1 c1 w1 ho1 hg1
        refine dr U 600 rfl (by first | exact True.intro | (simp only [AllP, InR, List.nil_append, List.cons_append, and_true]; omega)) ?_
        refine rend _ _ ⟨i + 1, zs ++ [x + 1000000000 - (bo + 0)], 1, a1, c1, rfl, by omega, by simp [hz], hzl.snoc (by omega), by omega, hs _ 1 (by omega), by simpa using ho1, hB.grown hg1 hB.size (fun g hg => (own_block ho g hg).1), rfl⟩ (by omega) ⟨rfl, rfl, rfl, rfl, iv (by omega), trivial⟩
      · refine dr U 600 rfl (by first | exact True.intro | (simp only [AllP, InR, List.nil_append, List.cons_append, and_true]; omega)) ?_
        refine ap U (v := (i64n (x - (bo + 0)))) (iv (by omega)) rfl rfl rfl rfl rfl (fun _ => rfl) rfl (fun _ => rfl) rfl rfl rfl ho hB.size (by omega) (by decide) ?_
        intro a1 c1 w1 ho1 hg1
        refine dr U 600 rfl (by first | exact True.intro | (simp only [AllP, InR, List.nil_append, List.cons_append, and_true]; omega)) ?_
        refine rend _ _ ⟨i + 1, zs ++ [x - (bo + 0)], 0, a1, c1, rfl, by omega, by simp [hz], hzl.snoc (by omega), by omega, hs _ 0 (by omega), by simpa using ho1, hB.grown hg1 hB.size (fun g hg => (own_block ho g hg).1), rfl⟩ (by omega) ⟨rfl, rfl, rfl, rfl, iv (by omega), trivial⟩
  · obtain rfl : i = xs.length := by omega
    refine dr U 600 rfl trivial ?_
    rw [take_all (Nat.le_refl _), take_all (show ys.length ≤ xs.length by omega)] at hv
    have e := hres zs bo hzl hz hcy hv
    refine call (f := 105) rfl rfl cb105 (rtrim_ownN xs.length zs hz ao co w.heap.size w' ho hzl (by omega)) ?_
    rintro v w1 ⟨rfl, rfl, ho1⟩
    refine ⟨_, rfl, ?_⟩
    refine dr U 600 rfl trivial ?_
    refine ret Tryz.results104 rfl ⟨_, rfl, ?_⟩
    rw [e] at ho1
    exact ⟨_, _, by rw [e]; rfl, ho1, hB⟩
end Go.Proofs.YtejlpdbiacmfcaaGreatDoor
end
