/-
  Walks of package nat: FromInt, ToInt, Bits.
  Conditions: texts take fewer than 2^40 bytes; the library's table of powers of ten is laid, and its error of range.
-/
import Derived.Test.YtnohojjjfconfaaGreatDoorYRG
import Derived.WalkSmall
import Derived.WideLaws
set_option linter.unusedSimpArgs false
set_option linter.unusedVariables false
set_option maxHeartbeats 1000000
namespace Go.Proofs.YtnohojjjfconfaaGreatDoor
open Go Go.Proofs Go.RowKit Go.Lib Go.Sort

theorem grow_below (w : World) (k : Nat) (os : Array Obj) : Below w.heap.size w (grow (w.drewN k) os) :=
  (below_drewN (Below.refl _ w) k).trans ⟨rfl, rfl, rfl, by simp [grow], fun i hi => by
    have : i < (w.drewN k).heap.size := hi
    simp only [grow]
    rw [Array.getElem?_append_left this]⟩

theorem itoa_calls (n : Nat) (hn : n ≤ 9223372036854775807) (w : World) (ht : TabOk w) :
    Calls Tryz.prog 77 #[.int .i64 (n : Nat)] w (Ret fun v w' => v = .string ⟨⟨decDigits n⟩⟩ ∧ Below w.heap.size w w') :=
  (Tryz.strconv_Itoa (n : Int) (by omega) (by omega) w (ht.tab (by kernel_rfl))).mono (by
    rintro e w' ⟨rfl, k, os, rfl⟩
    refine ⟨_, rfl, ?_, grow_below w k os⟩
    rw [itoa_nonneg])

/-- The bytes of a builder that is not empty, as a string. -/
theorem bstring_calls (base b : Nat) (bs : List UInt8) (w : World) (h : Bld w base b bs) (hne : bs ≠ []) :
    Calls Tryz.prog 78 #[.pointer (some ⟨b, 0, none⟩)] w (Ret fun v w' => v = .string ⟨⟨bs⟩⟩ ∧ Below base w w') := by
  have hib : Lib.IsBuilder 88 5 base b (byteCells bs) w := by
    obtain ⟨h1, p, a2, m, c2, h2, h3, h4, h5⟩ := h
    have hm2 := own_len h4
    subst hm2
    rcases h2 with rfl | rfl
    · exact .inl ⟨h1, _, h3, h4, by rw [ownBlock_ab]; exact fun e => h5 b e rfl⟩
    · exact .inr ⟨h1, _, h3, h4, by rw [ownBlock_ab]; exact fun e => h5 b e rfl⟩
  exact (Any.Builder_String_k Tryz.lays169 Tryz.Builder_Extra_169 base b bs w (IsBuilderF.of hib) hne).mono (by rintro e w' ⟨rfl, _, h, hk⟩; exact ⟨_, rfl, rfl, h⟩)

theorem natdigits_calls (n : Nat) (hn : n ≤ 9223372036854775807) (w : World) (ht : TabOk w) :
    Calls Tryz.prog 41 #[.int .i64 (n : Nat)] w (Ret fun v w' => v = .string ⟨⟨decDigits n⟩⟩ ∧ Below w.heap.size w w') := by
  have hk19 := nD_le 19 n (by omega) (by omega)
  have hkl := decDigits_length n
  have hkp := nDigits_pos n
  refine enter Tryz.func41 rfl Tryz.ntmps41 (Nat.le_of_ble_eq_true rfl) ?_
  refine dr U 600 rfl trivial ?_
  refine al U rfl rfl rfl rfl ?_
  intro b w1 hb hs1 hk1 hg1
  have hB1 : Below w.heap.size w w1 := (Below.refl _ w).grown hg1 (Nat.le_refl _) (fun k e => by cases e)
  have hbld : Bld w1 w.heap.size b [] := ⟨by omega, _, _, _, _, .inl rfl, hk1, ⟨rfl, .inl ⟨rfl, rfl⟩⟩, fun g e => by cases e⟩
  refine dr U 600 rfl trivial ?_
  refine call (f := 77) rfl rfl cb77 (itoa_calls n hn w1 (ht.new hg1)) ?_
  rintro v w2 ⟨rfl, hB2⟩
  refine ⟨_, rfl, ?_⟩
  have hB2' := bl_tr hB1 hB2 hB1.size
  refine dr U 600 rfl trivial ?_
  refine call (f := 76) rfl rfl cb76 (write_calls w.heap.size b [] _ w2 (hbld.below hB2) (by simp only [List.length_nil]; omega) hB2'.size) ?_
  rintro v w3 ⟨rfl, hbld3, hB3, hK3⟩
  refine ⟨_, rfl, ?_⟩
  refine dr U 600 rfl trivial ?_
  refine call (f := 78) rfl rfl cb78 (bstring_calls w.heap.size b (decDigits n) w3 hbld3 (fun e => by rw [e] at hkl; simp at hkl; omega)) ?_
  rintro v w4 ⟨rfl, hB4⟩
  refine ⟨_, rfl, ?_⟩
  refine dr U 600 rfl trivial ?_
  exact ret Tryz.results41 rfl ⟨_, rfl, rfl, (hB2'.trans hB3).trans hB4⟩

theorem natFromInt_calls (n : Int) (hn : n ≤ 9223372036854775807) (w : World) (ht : TabOk w) :
    Calls Tryz.prog 11 #[.int .i64 n] w (Ret fun v w' => OutF n v ∧ Below w.heap.size w w') := by
  refine enter Tryz.func11 rfl Tryz.ntmps11 (Nat.le_of_ble_eq_true rfl) ?_
  refine dr U 600 rfl trivial ?_
  refine cS rfl rfl rfl rfl (fun hq => ?_) (fun hq => ?_)
  · refine dr U 600 rfl trivial ?_
    exact ret Tryz.results11 rfl ⟨_, rfl, .inl ⟨hq, rfl⟩, Below.refl _ _⟩
  · obtain ⟨k, rfl⟩ : ∃ k : Nat, n = k := ⟨n.toNat, by omega⟩
    refine dr U 600 rfl trivial ?_
    refine call (f := 41) rfl rfl cb41 (natdigits_calls k (by omega) w ht) ?_
    rintro v w1 ⟨rfl, hB1⟩
    refine ⟨_, rfl, ?_⟩
    refine dr U 600 rfl trivial ?_
    exact ret Tryz.results11 rfl ⟨_, rfl, .inr ⟨by omega, rfl⟩, hB1⟩

theorem dvalA_ge (a : Nat) (l : List UInt8) : a ≤ dvalA a l := by
  rw [dvalA_eq]
  have := Nat.le_mul_of_pos_right a (Nat.pow_pos (n := l.length) (show 0 < 10 by omega))
  omega
theorem parse10 : ∀ (l : List UInt8) (acc : Nat), Dgs l → acc < 18446744073709551616 → (dvalA acc l < 18446744073709551616 → parseUint10 acc l = .ok (dvalA acc l)) ∧ (18446744073709551616 ≤ dvalA acc l → parseUint10 acc l = .range)
  | [], acc, _, ha => by
    rw [dvalA_nil, parseUint10]
    exact ⟨fun _ => rfl, fun h => by omega⟩
  | c :: r, acc, h, ha => by
    have hc : isD c := h c (by simp)
    have hr : Dgs r := fun b hb => h b (by simp [hb])
    unfold isD at hc
    have hge := dvalA_ge (acc * 10 + (c.toNat - 48)) r
    rw [dvalA_cons, parseUint10, if_pos hc]
    by_cases h1 : 1844674407370955162 ≤ acc
    · rw [if_pos h1]
      exact ⟨fun h2 => by omega, fun _ => rfl⟩
    · rw [if_neg h1]
      by_cases h2 : 18446744073709551616 ≤ acc * 10 + (c.toNat - 48)
      · rw [if_pos h2]
        exact ⟨fun h3 => by omega, fun _ => rfl⟩
      · rw [if_neg h2]
        exact parse10 r _ hr (by omega)
theorem atoi_form {x : List UInt8} (h : Form x) : (dval x ≤ 9223372036854775807 → atoiAll x = .ok (dval x : Nat)) ∧ (9223372036854775807 < dval x → atoiAll x = .range) := by
  obtain ⟨hne, _, hd⟩ := h
  cases x with
  | nil => exact absurd rfl hne
  | cons c r =>
    have hc := hd c (by simp)
    unfold isD at hc
    rw [atoiAll_plain c r (by omega) (by omega)]
    unfold parseMag
    rw [if_neg (by simp)]
    obtain ⟨h1, h2⟩ := parse10 (c :: r) 0 hd (by omega)
    change (dval (c :: r) < _ → _ = NumEnd.ok (dval (c :: r))) at h1
    change (_ ≤ dval (c :: r) → _) at h2
    generalize dval (c :: r) = n at *
    refine ⟨fun hn => ?_, fun hn => ?_⟩
    · rw [h1 (by omega)]
      simp only [signless]
      rw [if_neg (by omega)]
    · rcases Nat.lt_or_ge n 18446744073709551616 with h3 | h3
      · rw [h1 h3]
        simp only [signless]
        rw [if_pos (by omega)]
      · rw [h2 h3]; rfl

/-- The library's error of range is laid. -/
def ErrOk (w : World) : Prop := ∃ ev, w.cell? ⟨1, 0, none⟩ = some ev ∧ (ev = .nilIface ∨ ∃ te pe, ev = .iface te pe)
theorem ErrOk.below {w w' : World} (h : ErrOk w) (hb : Below w.heap.size w w') : ErrOk w' := by
  obtain ⟨ev, h1, h2⟩ := h
  exact ⟨ev, by rw [hb.cell (World.block_lt_of_cell? w _ h1)]; exact h1, h2⟩

section
variable {P : Program} {ro : Option Nat} {n : Nat} {ds : List Deferred} {Q : PT} {l l' : Fr} {w w' : World} {arr : Array Oper} {r : List Oper} {k : List It}
/-- An error that is one, compared with nil. -/
theorem neqE {d : Nat} {t t2 ty : TypeId} {x : Operand} {ps : String} {af : Array Edge} {g : Option (Nat × Bool)} {u : TypeId} {z : Value} (hx : ev l x = some (.iface u z)) (hm : P.underlying t = some (.interface (P.methodsAt t))) (hg : gd arr l g = some true) (hd : Nat.blt d n = true)
    (t' : T P ro n ds Q ((d, .bool true) :: l) w (.ops arr r) k) : T P ro n ds Q l w (.ops arr (⟨some d, .binOp .neq t x (.const .nilIface) t2, ty, ps, af, g⟩ :: r)) k :=
  op1 (v := .bool true) (by intro c h; cases h) hg (put1_some hd) (fun a hf => by
    have h1 := run_equal_held_nil (P := P) w t u z hm
    have h2 : a.eval (.const .nilIface) = .nilIface := rfl
    simp [execOp, hf.ev hx, h2, eqGuard_at_iface, binOp, h1]) t'
theorem neqN {d : Nat} {t t2 ty : TypeId} {x : Operand} {ps : String} {af : Array Edge} {g : Option (Nat × Bool)} (hx : ev l x = some .nilIface) (hm : P.underlying t = some (.interface (P.methodsAt t))) (hg : gd arr l g = some true) (hd : Nat.blt d n = true)
    (t' : T P ro n ds Q ((d, .bool false) :: l) w (.ops arr r) k) : T P ro n ds Q l w (.ops arr (⟨some d, .binOp .neq t x (.const .nilIface) t2, ty, ps, af, g⟩ :: r)) k :=
  op1 (v := .bool false) (by intro c h; cases h) hg (put1_some hd) (fun a hf => by
    have h1 := run_equal_nil_nil (P := P) w t hm
    have h2 : a.eval (.const .nilIface) = .nilIface := rfl
    simp [execOp, hf.ev hx, h2, eqGuard_nil_constR, binOp, h1]) t'
end

theorem natToInt_calls (x : List UInt8) (hx : x.length ≤ 1099511627776) (w : World) (he : ErrOk w) :
    Calls Tryz.prog 13 #[.string ⟨⟨x⟩⟩] w (Ret fun v w' => OutT x v ∧ Below w.heap.size w w') := by
  have herr : Tryz.prog.underlying 58 = some (.interface (Tryz.prog.methodsAt 58)) := by unfold Program.methodsAt; rw [Tryz.underlying58]
  refine enter Tryz.func13 rfl Tryz.ntmps13 (Nat.le_of_ble_eq_true rfl) ?_
  refine dr U 600 rfl trivial ?_
  refine call (f := 25) rfl rfl cb25 (check_calls x hx w) ?_
  rintro v w1 ⟨⟨e, rfl, hc⟩, hB1⟩
  refine ⟨_, rfl, ?_⟩
  refine dr U 600 rfl trivial ?_
  refine cS rfl rfl rfl rfl (fun hq => ?_) (fun hq => ?_)
  · refine dr U 600 rfl trivial ?_
    exact ret Tryz.results13 rfl ⟨_, rfl, .inl ⟨e, hq, hc, rfl⟩, hB1⟩
  · obtain rfl := Classical.not_not.1 hq
    have hox := chk_ok hc
    obtain ⟨hok, hrange⟩ := atoi_form hox.1
    have hsz : (ByteArray.mk ⟨x⟩).size ≤ 4000 := hox.2
    refine dr U 600 rfl trivial ?_
    rcases Nat.lt_or_ge 9223372036854775807 (dval x) with hlt | hle
    · obtain ⟨ev, h1, h2⟩ := he.below hB1
      refine call (f := 42) rfl rfl cb42 (Post := fun v w' => (∃ v1 u z, v = .tuple ⟨[v1, .iface u z]⟩) ∧ Below w1.heap.size w1 w')
        ((Tryz.strconv_Atoi_range ⟨⟨x⟩⟩ (by omega) (hrange hlt) ev w1 h1 h2).mono (by rintro e w' ⟨N, rfl, _, _, h⟩; exact ⟨_, rfl, ⟨_, _, _, rfl⟩, h⟩)) ?_
      rintro v w2 ⟨⟨v1, u, z, rfl⟩, hB2⟩
      refine ⟨_, rfl, ?_⟩
      refine dr U 600 rfl trivial ?_
      refine neqE rfl herr rfl rfl ?_
      refine dr U 600 rfl trivial ?_
      exact ret Tryz.results13 rfl ⟨_, rfl, .inr (.inl ⟨hc, hlt, rfl⟩), bl_tr hB1 hB2 hB1.size⟩
    · refine call (f := 42) rfl rfl cb42 (Post := fun v w' => v = .tuple ⟨[.int .i64 (dval x : Nat), .nilIface]⟩ ∧ Below w1.heap.size w1 w')
        ((Tryz.strconv_Atoi_ok ⟨⟨x⟩⟩ (by omega) _ (hok hle) w1).mono (by
          rintro e w' ⟨rfl, rfl | ⟨t, rfl⟩⟩
          · exact ⟨_, rfl, rfl, Below.refl _ _⟩
          · exact ⟨_, rfl, rfl, bytesWorld_below _ _ _⟩)) ?_
      rintro v w2 ⟨rfl, hB2⟩
      refine ⟨_, rfl, ?_⟩
      refine dr U 600 rfl trivial ?_
      refine neqN rfl herr rfl rfl ?_
      refine dr U 600 rfl trivial ?_
      exact ret Tryz.results13 rfl ⟨_, rfl, .inr (.inr ⟨hc, hle, rfl⟩), bl_tr hB1 hB2 hB1.size⟩

theorem limbsBits_calls (N : Nat) (a : Option Addr) (c : Nat) (w : World) (ha : Rd w a c (lim N)) (hl : (lim N).length ≤ 68719476736) (hb : blen N ≤ 1000000000) :
    Calls Tryz.prog 43 #[.slice a (lim N).length c] w (Ret fun v w' => v = .int .i64 (blen N : Nat) ∧ Below w.heap.size w w') := by
  refine enter Tryz.func43 rfl Tryz.ntmps43 (Nat.le_of_ble_eq_true rfl) ?_
  refine dr U 600 rfl trivial ?_
  refine loopR (fun l w' m => ∃ (k : Nat) (a2 : Option Addr) (c2 : Nat), l = [(0, .slice a2 (lim m).length c2), (3, .int .i64 (k : Nat))] ∧ k + blen m = blen N ∧ m ≤ N ∧ Rd w' a2 c2 (lim m) ∧ Below w.heap.size w w') (m0 := N) ⟨0, a, c, rfl, by omega, Nat.le_refl _, ha, Below.refl _ _⟩ ⟨rfl, rfl, trivial⟩ ?_
  rintro l w2 m ⟨k, a2, c2, rfl, hk, hm, hr2, hB2⟩
  have hml := lim_len_mono hm
  refine dr U 600 rfl trivial ?_
  refine cS rfl rfl rfl rfl (fun hq => ?_) (fun hq => ?_)
  · have hbig : 1000000000 ≤ m := by
      rcases Nat.lt_or_ge m 1000000000 with h | h
      · have := lim_len_le (k := 1) (show m < pw 1 by rw [show pw 1 = 1000000000 from rfl]; exact h)
        omega
      · exact h
    have hsh : blen m = blen (m / 1048576) + 20 := blen_shift 20 m (by omega)
    refine dr U 600 rfl trivial ?_
    refine call (f := 81) rfl rfl cb81 (small_calls m 1048576 (by omega) (by omega) a2 c2 w2 hr2 (by omega)) ?_
    rintro v w3 ⟨v1, rfl, hown⟩
    obtain ⟨a3, c3, rfl, ho3, hB3⟩ := hown
    refine ⟨_, rfl, ?_⟩
    refine dr U 600 rfl (by first | exact True.intro | (simp only [AllP, InR, List.nil_append, List.cons_append, and_true]; omega)) ?_
    refine rend _ (m / 1048576) ⟨k + 20, a3, c3, rfl, by omega, Nat.le_trans (Nat.div_le_self _ _) hm, own_rd ho3, bl_tr hB2 hB3 hB2.size⟩ (by omega) ⟨rfl, iv (by omega), trivial⟩
  · refine dr U 600 rfl trivial ?_
    refine cS rfl rfl rfl rfl (fun hq => ?_) (fun hq => ?_)
    · have hmB : m < 1000000000 := by have := lim_len_lt m; rw [show (lim m).length = 1 by omega] at this; exact this
      have hm0 : m ≠ 0 := fun e => by rw [e, lim_zero] at hq; simp at hq
      have hls := lim_small hm0 hmB
      refine dr U 600 rfl trivial ?_
      refine il U rfl rfl rfl rfl rfl rfl rfl (fun _ => rfl) rfl 0 (by omega) (by omega) hr2.1 (show _ = some (u64 m) by rw [hls]; rfl) ?_
      refine dr U 600 rfl trivial ?_
      refine loopR (fun l w' j => ∃ (i : Nat), l = [(3, .int .i64 (i : Nat)), (4, .int .u64 (j : Nat))] ∧ i + blen j = blen N ∧ j ≤ m ∧ w' = w2) (m0 := m) ⟨k, rfl, hk, Nat.le_refl _, rfl⟩ ⟨rfl, rfl, trivial⟩ ?_
      rintro l w3 j ⟨i, rfl, hi, hj, rfl⟩
      refine dr U 600 rfl trivial ?_
      refine cS rfl rfl rfl rfl (fun hq => ?_) (fun hq => ?_)
      · have hbp := blen_pos (n := j) (by omega)
        refine dr U 600 rfl (by first | exact True.intro | (simp only [AllP, InR, List.nil_append, List.cons_append, and_true]; omega)) ?_
        refine shr1 j 1 rfl rfl (by omega) rfl rfl ?_
        refine dr U 600 rfl trivial ?_
        refine rend _ (j / 2) ⟨i + 1, rfl, by omega, by omega, rfl⟩ (by omega) ⟨iv (by omega), iv (by simp), trivial⟩
      · obtain rfl : j = 0 := by omega
        rw [blen_zero] at hi
        refine dr U 600 rfl trivial ?_
        refine ret Tryz.results43 rfl ⟨_, rfl, ?_, hB2⟩
        rw [← hi]; rfl
    · have hm0 : m = 0 := lim_eq_nil.1 (List.length_eq_zero_iff.1 (by omega))
      subst hm0
      rw [blen_zero] at hk
      refine dr U 600 rfl trivial ?_
      refine ret Tryz.results43 rfl ⟨_, rfl, ?_, hB2⟩
      rw [← hk]; rfl

theorem natBits_calls (x : List UInt8) (hx : x.length ≤ 1099511627776) (w : World) :
    Calls Tryz.prog 14 #[.string ⟨⟨x⟩⟩] w (Ret fun v w' => OutB x v ∧ Below w.heap.size w w') := by
  refine enter Tryz.func14 rfl Tryz.ntmps14 (Nat.le_of_ble_eq_true rfl) ?_
  refine dr U 600 rfl trivial ?_
  refine call (f := 25) rfl rfl cb25 (check_calls x hx w) ?_
  rintro v w1 ⟨⟨e, rfl, hc⟩, hB1⟩
  refine ⟨_, rfl, ?_⟩
  refine dr U 600 rfl trivial ?_
  refine cS rfl rfl rfl rfl (fun hq => ?_) (fun hq => ?_)
  · refine dr U 600 rfl trivial ?_
    exact ret Tryz.results14 rfl ⟨_, rfl, .inl ⟨e, hq, hc, rfl⟩, hB1⟩
  · obtain rfl := Classical.not_not.1 hq
    have hox := chk_ok hc
    have hlx := form_len hox
    have hbl := blen_digits hlx.1
    refine dr U 600 rfl trivial ?_
    refine call (f := 35) rfl rfl cb35 (parse_calls x hox.1.2.2 hx w1) ?_
    rintro v w2 ⟨a2, c2, rfl, ho2, hB2⟩
    refine ⟨_, rfl, ?_⟩
    have hB2' := bl_tr hB1 hB2 hB1.size
    refine dr U 600 rfl trivial ?_
    refine call (f := 43) rfl rfl cb43 (limbsBits_calls (dval x) a2 c2 w2 (own_rd ho2) (by omega) (by omega)) ?_
    rintro v w3 ⟨rfl, hB3⟩
    refine ⟨_, rfl, ?_⟩
    refine dr U 600 rfl trivial ?_
    exact ret Tryz.results14 rfl ⟨_, rfl, .inr ⟨hc, rfl⟩, bl_tr hB2' hB3 hB2'.size⟩
end Go.Proofs.YtnohojjjfconfaaGreatDoor
