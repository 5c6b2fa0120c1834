/-
  Walks of package limbs: Parse and Form.
  Conditions: Parse is asked of a text of digits alone; texts take fewer than 2^40 bytes.

  Walk of package limbs: Form, which tells texts of numbers.
  Conditions: texts take fewer than 2^40 bytes.
-/
import Derived.Test.YtfdekppnilffeaaGreatDoorYNum
import Derived.Test.YtfdekppnilffeaaGreatDoorYBld
import Derived.Lib.AtoiErrMem
import Derived.Shelf.Strings.SlTrimAscii
section
set_option linter.unusedSimpArgs false
set_option linter.unusedVariables false
set_option maxHeartbeats 1000000
namespace Go.Proofs.YtfdekppnilffeaaGreatDoor
open Go Go.Proofs Go.RowKit Go.Lib

theorem parseUint_calls (l : List UInt8) (h : Dgs l) (hne : l ≠ []) (hl : l.length ≤ 9) (w : World) :
    Calls Tryz.prog 143 #[.string ⟨⟨l⟩⟩, .int .i64 10, .int .i64 64] w (Ret fun v w' => v = .tuple ⟨[u64 (dval l), .nilIface]⟩ ∧ Below w.heap.size w w') :=
  (Tryz.strconv_ParseUint_10_at64_ok ⟨⟨l⟩⟩ (show l.length ≤ _ by omega) (dval l) (parse_chunk h hne hl) w).mono (by
    rintro e w' ⟨rfl, rfl | rfl⟩
    · exact ⟨_, rfl, rfl, Below.refl _ _⟩
    · exact ⟨_, rfl, rfl, bytesWorld_below _ _ _⟩)

theorem parse_step {s : List UInt8} {zs : List Nat} {k e : Nat} (he : 0 < e) (hk : zs.length = k) (h : val zs + pw k * dval (s.take e) = dval s) (hel : e ≤ s.length) :
    val (zs ++ [dval ((s.take e).drop (e - 9))]) + pw (k + 1) * dval (s.take (e - 9)) = dval s := by
  rw [val_snoc, hk, pw_succ]
  have h1 : s.take e = s.take (e - 9) ++ (s.take e).drop (e - 9) := by
    have := (List.take_append_drop (e - 9) (s.take e)).symm
    rw [List.take_take, Nat.min_eq_left (by omega)] at this
    exact this
  have h2 : dval (s.take e) = dval (s.take (e - 9)) * 10 ^ ((s.take e).drop (e - 9)).length + dval ((s.take e).drop (e - 9)) := by
    conv => lhs; rw [h1]
    exact dval_append _ _
  rcases Nat.lt_or_ge e 9 with h9 | h9
  · have h3 : e - 9 = 0 := by omega
    rw [h3] at h2 ⊢
    simp only [List.take_zero, List.drop_zero] at h2 ⊢
    have : dval [] = 0 := rfl
    rw [this]; omega
  · have h3 : ((s.take e).drop (e - 9)).length = 9 := by simp; omega
    rw [h3] at h2
    rw [h2, Nat.mul_add] at h
    have h4 : 1000000000 * pw k * dval (s.take (e - 9)) = pw k * (dval (s.take (e - 9)) * 10 ^ 9) := by
      rw [Nat.mul_comm 1000000000, Nat.mul_assoc, Nat.mul_comm 1000000000]
    omega

theorem parse_calls (s : List UInt8) (h : Dgs s) (hl : s.length ≤ 1099511627776) (w : World) :
    Calls Tryz.prog 124 #[.string ⟨⟨s⟩⟩] w (Ret fun v w' => Own w w' v (lim (dval s))) := by
  refine enter Tryz.func124 rfl Tryz.ntmps124 (Nat.le_of_ble_eq_true rfl) ?_
  refine dr U 600 rfl trivial ?_
  refine loopR (fun l w' m => ∃ z : Int, ∃ zs a c, l = [(0, .string ⟨⟨s⟩⟩), (3, .slice a zs.length c), (4, .int .i64 z)] ∧ z ≤ s.length ∧ -9 ≤ z ∧ zs.length + z.toNat ≤ s.length ∧ Lm zs ∧ val zs + pw zs.length * dval (s.take z.toNat) = dval s ∧ w'.ownsRow w.heap.size 142 1 (.slice a zs.length c) zs.length (zs.map u64) ∧ Below w.heap.size w w' ∧ m = z.toNat)
    (l0 := [(0, .string ⟨⟨s⟩⟩), (3, .slice none 0 0), (4, .int .i64 (s.length : Nat))]) ⟨(s.length : Int), ([] : List Nat), none, 0, rfl, by omega, by omega, by simp, Lm.nil, by simp [val, pw_zero], ⟨rfl, .inl ⟨rfl, rfl⟩⟩, Below.refl _ _, rfl⟩ ⟨rfl, rfl, rfl, trivial⟩ ?_
  rintro l w1 m ⟨z, zs, a, c, rfl, hz, hz9, hzs, hzl, hv, ho, hB, rfl⟩
  refine dr U 600 rfl trivial ?_
  refine cS rfl rfl rfl rfl (fun hq => ?_) (fun hq => ?_)
  · obtain ⟨e, rfl⟩ : ∃ e : Nat, z = e := ⟨z.toNat, by omega⟩
    rw [Int.toNat_natCast] at hv hzs
    have hel : e ≤ s.length := by omega
    have hstep := parse_step (by omega) rfl hv hel
    have hch : Dgs ((s.take e).drop (e - 9)) := (h.take e).drop _
    have hcl : ((s.take e).drop (e - 9)).length ≤ 9 := by simp; omega
    have hcne : (s.take e).drop (e - 9) ≠ [] := fun e1 => by have := congrArg List.length e1; simp at this; omega
    have hclt : dval ((s.take e).drop (e - 9)) < 1000000000 := by
      have h1 := dval_lt hch
      have h2 := Nat.pow_le_pow_right (n := 10) (by omega) hcl
      omega
    refine dr U 600 rfl (by first | exact True.intro | (simp only [AllP, InR, List.nil_append, List.cons_append, and_true]; omega)) ?_
    rw [show (max 0 ((e : Int) - 9)).toNat = e - 9 by omega, Int.toNat_natCast]
    generalize hchk : (s.take e).drop (e - 9) = ch at *
    refine call (f := 143) rfl rfl cb143 (parseUint_calls ch hch hcne hcl w1) ?_
    rintro v w2 ⟨rfl, hB2⟩
    refine ⟨_, rfl, ?_⟩
    have ho2 : w2.ownsRow w.heap.size 142 1 (.slice a zs.length c) zs.length (zs.map u64) := by
      refine ⟨ho.1, ?_⟩
      rcases ho.2 with h | ⟨g, cap, cur, e1, e2, e3, e4⟩
      · exact .inl h
      · exact .inr ⟨g, cap, cur, e1, e2, by rw [hB2.block g (Array.getElem?_eq_some_iff.1 e3).1]; exact e3, e4⟩
    have hBW := bl_tr hB hB2 hB.size
    refine dr U 600 rfl trivial ?_
    refine ap U (v := (u64 (dval ch))) rfl rfl rfl rfl rfl rfl (fun _ => rfl) rfl (fun _ => rfl) rfl rfl rfl ho2 hBW.size (by omega) (by decide) ?_
    intro a1 c1 w3 ho3 hg3
    refine dr U 600 rfl (by first | exact True.intro | (simp only [AllP, InR, List.nil_append, List.cons_append, and_true]; omega)) ?_
    refine rend [(0, .string ⟨⟨s⟩⟩), (3, .slice a1 (zs.length + 1) c1), (4, .int .i64 ((e : Int) - 9))] _ ⟨(e : Int) - 9, zs ++ [dval ch], a1, c1, by simp, by omega, by omega, by simp; omega, hzl.snoc hclt, by rw [show ((e : Int) - 9).toNat = e - 9 by omega, List.length_append]; exact hstep, by simpa using ho3, hBW.grown hg3 hBW.size (fun g hg => (own_block ho2 g hg).1), rfl⟩ (by omega) ⟨rfl, rfl, rfl, trivial⟩
  · have hz0 : z.toNat = 0 := by omega
    rw [hz0, List.take_zero, show dval [] = 0 from rfl] at hv
    refine dr U 600 rfl trivial ?_
    refine call (f := 134) rfl rfl cb134 (trim_own zs a c w.heap.size w1 ho hzl (by omega)) ?_
    rintro v w2 ⟨rfl, rfl, ho2⟩
    refine ⟨_, rfl, ?_⟩
    refine dr U 600 rfl trivial ?_
    rw [show val zs = dval s by omega] at ho2 ⊢
    exact ret Tryz.results124 rfl ⟨_, rfl, a, c, rfl, ho2, hB⟩
end Go.Proofs.YtfdekppnilffeaaGreatDoor
end
section
set_option linter.unusedSimpArgs false
set_option linter.unusedVariables false
set_option maxHeartbeats 1000000
namespace Go.Proofs.YtfdekppnilffeaaGreatDoor
open Go Go.Proofs Go.RowKit Go.Lib

/-- A text of a number. -/
def Form (l : List UInt8) : Prop := l ≠ [] ∧ (l = [48] ∨ l.head? ≠ some 48) ∧ Dgs l

theorem form_iff {l : List UInt8} : Form l ↔ ∃ n, l = decDigits n :=
  ⟨fun ⟨h1, h2, h3⟩ => ⟨_, dec_of h3 h1 h2⟩, by
    rintro ⟨n, rfl⟩
    exact ⟨fun e => by have := decDigits_length n; rw [e] at this; have := nDigits_pos n; simp at *; omega, dec_head, (dec_dval n).1⟩⟩

theorem dropW_nil {p : UInt8 → Bool} : ∀ (l : List UInt8), l.dropWhile p = [] ↔ ∀ c ∈ l, p c = true
  | [] => by simp
  | c :: l => by
    rw [List.dropWhile_cons]
    split
    · rename_i h
      rw [dropW_nil l]; simp [h]
    · rename_i h
      simp only [List.cons_ne_nil, List.mem_cons, forall_eq_or_imp, false_iff]
      exact fun ⟨h1, _⟩ => h h1

theorem trim_nil (l cs : List UInt8) : trimS l cs = [] ↔ ∀ c ∈ l, cs.contains c = true := by
  unfold trimS trimLeftS trimRightS
  rw [dropW_nil]
  constructor
  · intro h
    have h1 : l.reverse.dropWhile (cs.contains ·) = [] := by
      cases hd : l.reverse.dropWhile (cs.contains ·) with
      | nil => rfl
      | cons x t =>
        exfalso
        have h2 := h x (by rw [hd]; simp)
        have h3 := List.head?_dropWhile_not (cs.contains ·) l.reverse
        rw [hd] at h3
        simp at h3
        simp at h2
        exact h3 h2
    rw [dropW_nil] at h1
    intro c hc
    exact h1 c (by simpa using hc)
  · intro h c hc
    have h1 : l.reverse.dropWhile (cs.contains ·) = [] := (dropW_nil _).2 (fun c hc => h c (by simpa using hc))
    rw [h1] at hc
    cases hc

theorem digs_cut (c : UInt8) : ([48, 49, 50, 51, 52, 53, 54, 55, 56, 57] : List UInt8).contains c = true ↔ isD c := by
  have key : ∀ n : Fin 256, ([48, 49, 50, 51, 52, 53, 54, 55, 56, 57] : List UInt8).contains (UInt8.ofNat n.val) = decide (48 ≤ n.val ∧ n.val ≤ 57) := by decide +kernel
  have h := key ⟨c.toNat, c.toNat_lt⟩
  simp only [UInt8.ofNat_toNat] at h
  rw [h]
  simp [isD]

theorem trimstr_calls (l : List UInt8) (hl : l.length ≤ 1099511627776) (w : World) :
    Calls Tryz.prog 142 #[.string ⟨⟨l⟩⟩, .string ⟨⟨[48, 49, 50, 51, 52, 53, 54, 55, 56, 57]⟩⟩] w (Ret fun v w' => (∃ t, v = .string ⟨⟨t⟩⟩ ∧ (t = [] ↔ Dgs l)) ∧ Below w.heap.size w w') :=
  (Any.strings_Trim_laid Tryz.lays160 (by kernel_rfl) ⟨⟨l⟩⟩ ⟨⟨[48, 49, 50, 51, 52, 53, 54, 55, 56, 57]⟩⟩ w (show l.length ≤ _ by omega) (by decide) (ascii_of_all (by decide))).mono (by
    rintro e w' ⟨rfl, hB⟩
    refine ⟨_, rfl, ⟨_, rfl, ?_⟩, hB⟩
    rw [trim_nil]
    exact ⟨fun h c hc => (digs_cut c).1 (h c hc), fun h c hc => (digs_cut c).2 (h c hc)⟩)


theorem form_calls (l : List UInt8) (hl : l.length ≤ 1099511627776) (w : World) :
    Calls Tryz.prog 123 #[.string ⟨⟨l⟩⟩] w (Ret fun v w' => (∃ b, v = .bool b ∧ (b = true ↔ Form l)) ∧ Below w.heap.size w w') := by
  refine enter Tryz.func123 rfl Tryz.ntmps123 (Nat.le_of_ble_eq_true rfl) ?_
  refine dr U 600 rfl trivial ?_
  refine cS rfl rfl rfl rfl (fun hq => ?_) (fun hq => ?_)
  · have hne : l ≠ [] := hq
    have hpos := List.length_pos_iff.2 hne
    refine dr U 600 rfl trivial ?_
    refine cS rfl rfl rfl rfl (fun hq => ?_) (fun hq => ?_)
    · have hhd : l = [48] ∨ l.head? ≠ some 48 := .inl hq
      refine dr U 600 rfl trivial ?_
      refine call (f := 142) rfl rfl cb142 (trimstr_calls l hl w) ?_
      rintro v w1 ⟨⟨t, rfl, ht⟩, hB⟩
      refine ⟨_, rfl, ?_⟩
      refine cS rfl rfl rfl rfl (fun hq => ?_) (fun hq => ?_)
      · refine dr U 600 rfl trivial ?_
        exact ret Tryz.results123 rfl ⟨_, rfl, ⟨true, rfl, fun _ => ⟨hne, hhd, ht.1 hq⟩, fun _ => rfl⟩, hB⟩
      · refine dr U 600 rfl trivial ?_
        exact ret Tryz.results123 rfl ⟨_, rfl, ⟨false, rfl, fun h => (by cases h), fun h => absurd (ht.2 h.2.2) hq⟩, hB⟩
    · have hn48 := hq
      refine dr U 600 rfl (by first | exact True.intro | (simp only [AllP, InR, List.nil_append, List.cons_append, and_true]; omega)) ?_
      refine cS rfl rfl rfl rfl (fun hq => ?_) (fun hq => ?_)
      · have hhd : l = [48] ∨ l.head? ≠ some 48 := .inr (fun e => by
          cases l with
          | nil => cases e
          | cons c r =>
            simp at e; subst e
            exact hq rfl)
        refine dr U 600 rfl trivial ?_
        refine call (f := 142) rfl rfl cb142 (trimstr_calls l hl w) ?_
        rintro v w1 ⟨⟨t, rfl, ht⟩, hB⟩
        refine ⟨_, rfl, ?_⟩
        refine cS rfl rfl rfl rfl (fun hq => ?_) (fun hq => ?_)
        · refine dr U 600 rfl trivial ?_
          exact ret Tryz.results123 rfl ⟨_, rfl, ⟨true, rfl, fun _ => ⟨hne, hhd, ht.1 hq⟩, fun _ => rfl⟩, hB⟩
        · refine dr U 600 rfl trivial ?_
          exact ret Tryz.results123 rfl ⟨_, rfl, ⟨false, rfl, fun h => (by cases h), fun h => absurd (ht.2 h.2.2) hq⟩, hB⟩
      · have hno : ¬ (l = [48] ∨ l.head? ≠ some 48) := by
          rintro (h | h)
          · exact hn48 h
          · cases l with
            | nil => exact hne rfl
            | cons c r =>
              refine h ?_
              have h8 : c.toNat = 48 := by
                have h9 := Classical.not_not.1 hq
                simp at h9; omega
              show some c = some 48
              rw [show c = 48 from UInt8.toNat_inj.1 h8]
        refine dr U 600 rfl trivial ?_
        exact ret Tryz.results123 rfl ⟨_, rfl, ⟨false, rfl, fun h => (by cases h), fun h => absurd h.2.1 hno⟩, Below.refl _ _⟩
  · have h0 : l = [] := Classical.not_not.1 hq
    refine dr U 600 rfl trivial ?_
    exact ret Tryz.results123 rfl ⟨_, rfl, ⟨false, rfl, fun h => (by cases h), fun h => absurd h0 h.1⟩, Below.refl _ _⟩
end Go.Proofs.YtfdekppnilffeaaGreatDoor
end
