/-
  Walks of package limbs: Parse and Form.
  Conditions: Parse is asked of a text of digits alone; texts take fewer than 2^40 bytes.
-/
import Derived.Test.YtnohojjjfconfaaDoorLmK
import Derived.Test.YtnohojjjfconfaaDoorNumE
import Derived.Lib.AtoiErrMem
import Derived.Shelf.Strings.SlTrimAscii
set_option linter.unusedSimpArgs false
set_option linter.unusedVariables false
set_option maxHeartbeats 1000000
namespace Go.Proofs.YtnohojjjfconfaaDoor
open Go Go.Proofs Go.RowKit Go.Lib

theorem parseUint_calls (l : List UInt8) (h : Dgs l) (hne : l ≠ []) (hl : l.length ≤ 9) (w : World) :
    Calls Tryd.prog 40 #[.string ⟨⟨l⟩⟩, .int .i64 10, .int .i64 64] w (Ret fun v w' => v = .tuple ⟨[u64 (dval l), .nilIface]⟩ ∧ Below w.heap.size w w') :=
  (Tryd.strconv_ParseUint_10_at64_ok ⟨⟨l⟩⟩ (show l.length ≤ _ by omega) (dval l) (parse_chunk h hne hl) w).mono (by
    rintro e w' ⟨rfl, rfl | rfl⟩
    · exact ⟨_, rfl, rfl, Below.refl _ _⟩
    · exact ⟨_, rfl, rfl, bytesWorld_below _ _ _⟩)

theorem parse_step {s : List UInt8} {zs : List Nat} {k e : Nat} (he : 0 < e) (hk : zs.length = k) (h : val zs + pw k * dval (s.take e) = dval s) (hel : e ≤ s.length) :
    val (zs ++ [dval ((s.take e).drop (e - 9))]) + pw (k + 1) * dval (s.take (e - 9)) = dval s := by
  rw [val_snoc, hk, pw_succ]
  have h1 : s.take e = s.take (e - 9) ++ (s.take e).drop (e - 9) := by
    have := (List.take_append_drop (e - 9) (s.take e)).symm
    rw [List.take_take, Nat.min_eq_left (by omega)] at this
    exact this
  have h2 : dval (s.take e) = dval (s.take (e - 9)) * 10 ^ ((s.take e).drop (e - 9)).length + dval ((s.take e).drop (e - 9)) := by
    conv => lhs; rw [h1]
    exact dval_append _ _
  rcases Nat.lt_or_ge e 9 with h9 | h9
  · have h3 : e - 9 = 0 := by omega
    rw [h3] at h2 ⊢
    simp only [List.take_zero, List.drop_zero] at h2 ⊢
    have : dval [] = 0 := rfl
    rw [this]; omega
  · have h3 : ((s.take e).drop (e - 9)).length = 9 := by simp; omega
    rw [h3] at h2
    rw [h2, Nat.mul_add] at h
    have h4 : 1000000000 * pw k * dval (s.take (e - 9)) = pw k * (dval (s.take (e - 9)) * 10 ^ 9) := by
      rw [Nat.mul_comm 1000000000, Nat.mul_assoc, Nat.mul_comm 1000000000]
    omega

theorem parse_calls (s : List UInt8) (h : Dgs s) (hl : s.length ≤ 1099511627776) (w : World) :
    Calls Tryd.prog 21 #[.string ⟨⟨s⟩⟩] w (Ret fun v w' => Own w w' v (lim (dval s))) := by
  refine enter Tryd.func21 rfl Tryd.ntmps21 (Nat.le_of_ble_eq_true rfl) ?_
  refine dr U 600 rfl trivial ?_
  refine loopR (fun l w' m => ∃ z : Int, ∃ zs a c, l = [(0, .string ⟨⟨s⟩⟩), (3, .slice a zs.length c), (4, .int .i64 z)] ∧ z ≤ s.length ∧ -9 ≤ z ∧ zs.length + z.toNat ≤ s.length ∧ Lm zs ∧ val zs + pw zs.length * dval (s.take z.toNat) = dval s ∧ w'.ownsRow w.heap.size 44 1 (.slice a zs.length c) zs.length (zs.map u64) ∧ Below w.heap.size w w' ∧ m = z.toNat)
    (l0 := [(0, .string ⟨⟨s⟩⟩), (3, .slice none 0 0), (4, .int .i64 (s.length : Nat))]) ⟨(s.length : Int), ([] : List Nat), none, 0, rfl, by omega, by omega, by simp, Lm.nil, by simp [val, pw_zero], ⟨rfl, .inl ⟨rfl, rfl⟩⟩, Below.refl _ _, rfl⟩ ⟨rfl, rfl, rfl, trivial⟩ ?_
  rintro l w1 m ⟨z, zs, a, c, rfl, hz, hz9, hzs, hzl, hv, ho, hB, rfl⟩
  refine dr U 600 rfl trivial ?_
  refine cS rfl rfl rfl rfl (fun hq => ?_) (fun hq => ?_)
  · obtain ⟨e, rfl⟩ : ∃ e : Nat, z = e := ⟨z.toNat, by omega⟩
    rw [Int.toNat_natCast] at hv hzs
    have hel : e ≤ s.length := by omega
    have hstep := parse_step (by omega) rfl hv hel
    have hch : Dgs ((s.take e).drop (e - 9)) := (h.take e).drop _
    have hcl : ((s.take e).drop (e - 9)).length ≤ 9 := by simp; omega
    have hcne : (s.take e).drop (e - 9) ≠ [] := fun e1 => by have := congrArg List.length e1; simp at this; omega
    have hclt : dval ((s.take e).drop (e - 9)) < 1000000000 := by
      have h1 := dval_lt hch
      have h2 := Nat.pow_le_pow_right (n := 10) (by omega) hcl
      omega
    refine dr U 600 rfl (by first | exact True.intro | (simp only [AllP, InR, List.nil_append, List.cons_append, and_true]; omega)) ?_
    rw [show (max 0 ((e : Int) - 9)).toNat = e - 9 by omega, Int.toNat_natCast]
    generalize hchk : (s.take e).drop (e - 9) = ch at *
    refine call (f := 40) rfl rfl cb40 (parseUint_calls ch hch hcne hcl w1) ?_
    rintro v w2 ⟨rfl, hB2⟩
    refine ⟨_, rfl, ?_⟩
    have ho2 : w2.ownsRow w.heap.size 44 1 (.slice a zs.length c) zs.length (zs.map u64) := by
      refine ⟨ho.1, ?_⟩
      rcases ho.2 with h | ⟨g, cap, cur, e1, e2, e3, e4⟩
      · exact .inl h
      · exact .inr ⟨g, cap, cur, e1, e2, by rw [hB2.block g (Array.getElem?_eq_some_iff.1 e3).1]; exact e3, e4⟩
    have hBW := bl_tr hB hB2 hB.size
    refine dr U 600 rfl trivial ?_
    refine ap U (v := (u64 (dval ch))) rfl rfl rfl rfl rfl rfl (fun _ => rfl) rfl (fun _ => rfl) rfl rfl rfl ho2 hBW.size (by omega) (by decide) ?_
    intro a1 c1 w3 ho3 hg3
    refine dr U 600 rfl (by first | exact True.intro | (simp only [AllP, InR, List.nil_append, List.cons_append, and_true]; omega)) ?_
    refine rend [(0, .string ⟨⟨s⟩⟩), (3, .slice a1 (zs.length + 1) c1), (4, .int .i64 ((e : Int) - 9))] _ ⟨(e : Int) - 9, zs ++ [dval ch], a1, c1, by simp, by omega, by omega, by simp; omega, hzl.snoc hclt, by rw [show ((e : Int) - 9).toNat = e - 9 by omega, List.length_append]; exact hstep, by simpa using ho3, hBW.grown hg3 hBW.size (fun g hg => (own_block ho2 g hg).1), rfl⟩ (by omega) ⟨rfl, rfl, rfl, trivial⟩
  · have hz0 : z.toNat = 0 := by omega
    rw [hz0, List.take_zero, show dval [] = 0 from rfl] at hv
    refine dr U 600 rfl trivial ?_
    refine call (f := 41) rfl rfl cb41 (trim_own zs a c w.heap.size w1 ho hzl (by omega)) ?_
    rintro v w2 ⟨rfl, rfl, ho2⟩
    refine ⟨_, rfl, ?_⟩
    refine dr U 600 rfl trivial ?_
    rw [show val zs = dval s by omega] at ho2 ⊢
    exact ret Tryd.results21 rfl ⟨_, rfl, a, c, rfl, ho2, hB⟩
end Go.Proofs.YtnohojjjfconfaaDoor
