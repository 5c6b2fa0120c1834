/-
  Walks of the reference: Write, number, both, Add, Sub, Mul, DivMod, Gcd, Cmp.
  Conditions: fewer than 2^36 limbs; texts are no longer than an int can tell.

  Walks of the reference: number, both, Add, Sub, Mul, DivMod, Gcd, Cmp.
  Conditions: texts are no longer than an int can tell.

  Walks of the reference: Power, Pow, FromInt, ToInt, Bits.
  Conditions: texts are no longer than an int can tell.

  Walks of the reference: FromInt, ToInt, Bits.
  Conditions: texts are no longer than an int can tell.
-/
import Derived.Test.YtnohojjjfconfaaGreatDoorYRE
import Derived.Test.YtnohojjjfconfaaGreatDoorYLives
section
set_option linter.unusedSimpArgs false
set_option linter.unusedVariables false
set_option maxHeartbeats 1000000
namespace Go.Proofs.YtnohojjjfconfaaGreatDoor
open Go Go.Proofs Go.RowKit Go.Lib

section
variable {P : Program} (U : Tys P) {ro : Option Nat} {n : Nat} {ds : List Deferred} {Q : PT} {l l' : Fr} {w w' : World} {arr : Array Oper} {r : List Oper} {k : List It}
/-- Bytes to a string, wherever they lie. -/
theorem bstrS {d : Nat} {t t2 e ty : TypeId} {x : Operand} {ps : String} {af : Array Edge} {g : Option (Nat × Bool)} {a : Option Addr} {c m : Nat} {bs : List UInt8}
    (hx : ev l x = some (.slice a m c)) (ht : U.tb.u t = some (.slice e)) (he : U.tb.u e = some (.int .u8)) (h2 : U.tb.u t2 = some .string) (hg : gd arr l g = some true) (hd : Nat.blt d n = true)
    (hm : bs.length = m) (hne : bs ≠ []) (hc : Sl w a (byteCells bs))
    (t' : T P ro n ds Q ((d, .string ⟨⟨bs⟩⟩) :: l) w (.ops arr r) k) : T P ro n ds Q l w (.ops arr (⟨some d, .convert t t2 x, ty, ps, af, g⟩ :: r)) k := by
  subst hm
  have hb : ∀ j (hj : j < bs.length), (byteCells bs)[j]? = some (.int .u8 (bs[j].toNat : Int)) := fun j hj => by simp [byteCells, hj]
  obtain ⟨g0, off, rfl, _⟩ := hc 0 _ (hb 0 (List.length_pos_iff.2 hne))
  have := run_convert_bytes_back (P := P) w t t2 e ⟨g0, off, none⟩ c bs (U.hu _ _ ht) (U.hu _ _ he) (U.hu _ _ h2) (fun j hj => by
    obtain ⟨g1, o1, e1, hc1⟩ := hc j _ (hb j hj)
    cases e1
    rw [add_plain]; exact hc1)
  exact op1 (w' := w) (by intro c h; cases h) hg (put1_some hd) (fun a hf => by simp [execOp, hf.ev hx, this]) t'
end

theorem rep_u8 (k : Nat) : List.replicate k (Value.int .u8 0) = byteCells (List.replicate k 0) := by simp [byteCells]
theorem wr_set (P S R : List UInt8) (i q : Nat) (c : UInt8) (hP : P.length = i) : (byteCells (P ++ (List.replicate (q + 1) 0 ++ (S ++ R)))).set (i + q) (.int .u8 (c.toNat : Int)) = byteCells (P ++ (List.replicate q 0 ++ (c :: S ++ R))) := by
  unfold byteCells
  rw [show (Value.int .u8 (c.toNat : Int)) = (fun b : UInt8 => Value.int .u8 (b.toNat : Int)) c from rfl, ← List.map_set]
  congr 1
  subst hP
  rw [List.set_append_right _ _ (by omega), show P.length + q - P.length = q by omega, List.replicate_succ', List.append_assoc, List.set_append_right _ _ (by simp)]
  simp
theorem dval_cons48 (t : List UInt8) : dval (48 :: t) = dval t := by unfold dval; rw [dvalA_cons]; rfl
theorem dval_cons (c : UInt8) (t : List UInt8) : dval (c :: t) = (c.toNat - 48) * 10 ^ t.length + dval t := by
  unfold dval; rw [dvalA_cons, dvalA_eq]; simp [dval]
theorem byteCells_len (l : List UInt8) : (byteCells l).length = l.length := by simp [byteCells]

theorem write_ref (n : Nat) (a : Option Addr) (c : Nat) (w : World) (ha : RdI w a c (lim n)) (hl : (lim n).length ≤ 68719476736) :
    Calls Tryz.prog 67 #[.slice a (lim n).length c] w (Ret fun v w' => v = .string ⟨⟨decDigits n⟩⟩ ∧ Below w.heap.size w w') := by
  have hxl := lim_Lm n
  have hvn := val_lim n
  have hnil := @lim_eq_nil n
  generalize hxs : lim n = xs at *
  refine enter Tryz.func67 rfl Tryz.ntmps67 (Nat.le_of_ble_eq_true rfl) ?_
  refine dr U 600 rfl trivial ?_
  refine cS rfl rfl rfl rfl (fun hq => ?_) (fun hq => ?_)
  · have h0 : n = 0 := hnil.1 (List.length_eq_zero_iff.1 (by omega))
    refine dr U 600 rfl trivial ?_
    refine ret Tryz.results67 rfl ⟨_, rfl, ?_, Below.refl _ _⟩
    rw [h0]
    show Value.string _ = Value.string _
    rw [decDigits, dif_pos (by omega)]; rfl
  · have hL : 0 < xs.length := by omega
    refine dr U 600 rfl (by first | exact True.intro | (simp only [AllP, InR, List.nil_append, List.cons_append, and_true]; omega)) ?_
    refine mkn U rfl rfl rfl rfl rfl rfl rfl (9 * xs.length) (by omega) (by omega) (by omega) (by omega) w.heap.size (Nat.le_refl _) ?_
    intro a0 w0 ho0 hg0
    rw [rep_u8] at ho0
    refine dr U 600 rfl trivial ?_
    refine loopR (fun l w' m => ∃ (i : Nat) (P : List UInt8), l = [(0, .slice a xs.length c), (3, .slice a0 (9 * xs.length) (9 * xs.length)), (4, .int .i64 (i : Nat))] ∧ i ≤ xs.length ∧ P.length = 9 * i ∧ Dgs P ∧ dval P = val (xs.drop (xs.length - i)) ∧
        w'.ownsRow w.heap.size 5 1 (.slice a0 (9 * xs.length) (9 * xs.length)) (9 * xs.length) (byteCells (P ++ List.replicate (9 * xs.length - 9 * i) 0)) ∧ Below w.heap.size w w' ∧ m = xs.length - i)
      ⟨0, [], rfl, by omega, rfl, fun c h => (by cases h), by simp [val, dval, dvalA_nil], by simpa using ho0, (Below.refl _ _).grown hg0 (Nat.le_refl _) (fun k e => by cases e), rfl⟩ ⟨rfl, rfl, rfl, trivial⟩ ?_
    rintro l w1 m ⟨i, P, rfl, hi, hPl, hPd, hPv, ho, hB, rfl⟩
    refine dr U 600 rfl trivial ?_
    refine cS rfl rfl rfl rfl (fun hq => ?_) (fun hq => ?_)
    · have hi' : i < xs.length := by omega
      have hx1 := hxl.getD (xs.length - 1 - i)
      have hdr : val (xs.drop (xs.length - (i + 1))) = xs.getD (xs.length - 1 - i) 0 + 1000000000 * val (xs.drop (xs.length - i)) := by
        rw [show xs.length - (i + 1) = xs.length - 1 - i by omega, List.drop_eq_getElem_cons (by omega), val_cons, show xs.length - 1 - i + 1 = xs.length - i by omega]
        simp [List.getD, show xs.length - 1 - i < xs.length by omega]
      have hgx := getI (xs := xs) (j := xs.length - 1 - i) (by omega)
      generalize xs.getD (xs.length - 1 - i) 0 = x at *
      refine dr U 600 rfl (by first | exact True.intro | (simp only [AllP, InR, List.nil_append, List.cons_append, and_true]; omega)) ?_
      refine il U rfl rfl rfl rfl rfl rfl rfl (fun _ => rfl) rfl (xs.length - 1 - i) (by omega) (by omega) (ha.below hB).1 hgx ?_
      refine dr U 600 rfl trivial ?_
      refine loopR (fun l w' m => ∃ (j : Nat) (S : List UInt8), l = [(0, .slice a xs.length c), (3, .slice a0 (9 * xs.length) (9 * xs.length)), (4, .int .i64 (i : Nat)), (5, .int .i64 ((x / 10 ^ j : Nat) : Nat)), (6, .int .i64 (8 - (j : Int)))] ∧ j ≤ 9 ∧ S.length = j ∧ Dgs S ∧ dval S = x % 10 ^ j ∧
          w'.ownsRow w.heap.size 5 1 (.slice a0 (9 * xs.length) (9 * xs.length)) (9 * xs.length) (byteCells (P ++ (List.replicate (9 - j) 0 ++ (S ++ List.replicate (9 * xs.length - 9 * i - 9) 0)))) ∧ Below w.heap.size w w' ∧ m = 9 - j)
        (l0 := [(0, .slice a xs.length c), (3, .slice a0 (9 * xs.length) (9 * xs.length)), (4, .int .i64 (i : Nat)), (5, .int .i64 ((x / 10 ^ 0 : Nat) : Nat)), (6, .int .i64 (8 - ((0 : Nat) : Int)))])
        ⟨0, [], rfl, by omega, rfl, fun c h => (by cases h), by simp [dval, dvalA_nil, Nat.mod_one], ?_, hB, rfl⟩ ⟨rfl, rfl, rfl, iv (by simp), rfl, trivial⟩ ?_
      · rw [show 9 * xs.length - 9 * i = 9 + (9 * xs.length - 9 * i - 9) by omega, ← List.replicate_append_replicate] at ho
        simpa using ho
      clear ho hB
      rintro l w2 m ⟨j, S, rfl, hj, hSl, hSd, hSv, ho, hB, rfl⟩
      refine dr U 600 rfl trivial ?_
      refine cS rfl rfl rfl rfl (fun hq => ?_) (fun hq => ?_)
      · have hj' : j < 9 := by omega
        have hms : x % 10 ^ (j + 1) = x % 10 ^ j + 10 ^ j * (x / 10 ^ j % 10) := Nat.mod_pow_succ
        have hds : x / 10 ^ (j + 1) = x / 10 ^ j / 10 := by rw [Nat.pow_succ, Nat.div_div_eq_div_mul]
        have hxj : x / 10 ^ j ≤ x := Nat.div_le_self _ _
        generalize x / 10 ^ j = n1 at *
        have hd10 := ofNat_d (k := n1 % 10) (by omega)
        generalize hcc : UInt8.ofNat (48 + n1 % 10) = ch at *
        obtain ⟨q, hq9⟩ : ∃ q, 9 - j = q + 1 := ⟨9 - j - 1, by omega⟩
        rw [hq9] at ho
        refine dr U 600 rfl (by first | exact True.intro | (simp only [AllP, InR, List.nil_append, List.cons_append, and_true]; omega)) ?_
        refine is U (v := (.int .u8 (ch.toNat : Int))) rfl rfl rfl rfl rfl rfl rfl (fun _ => rfl) (fun _ => iv (by omega)) (fun _ => rfl) rfl rfl (9 * i + q) (by omega) (by omega) ho ?_
        intro p0 w3 ho3 hg3 _
        rw [wr_set P S _ _ q ch hPl] at ho3
        refine dr U 600 rfl (by first | exact True.intro | (simp only [AllP, InR, List.nil_append, List.cons_append, and_true]; omega)) ?_
        refine rend [(0, .slice a xs.length c), (3, .slice a0 (9 * xs.length) (9 * xs.length)), (4, .int .i64 (i : Nat)), (5, .int .i64 ((x / 10 ^ (j + 1) : Nat) : Nat)), (6, .int .i64 (8 - ((j + 1 : Nat) : Int)))] _
          ⟨j + 1, ch :: S, rfl, by omega, by simp [hSl], fun c hc => ?_, ?_, ?_, hB.grown hg3 hB.size (fun g hg => (own_block ho g hg).1), rfl⟩ (by omega) ⟨rfl, rfl, rfl, iv (by rw [hds]; omega), iv (by omega), trivial⟩
        · rcases List.mem_cons.1 hc with h | h
          · subst h; unfold isD; omega
          · exact hSd c h
        · rw [dval_cons, hd10, hSl, hms, hSv, Nat.mul_comm (10 ^ j)]
          rw [show 48 + n1 % 10 - 48 = n1 % 10 by omega]; omega
        · rw [show 9 - (j + 1) = q by omega]; exact ho3
      · obtain rfl : j = 9 := by omega
        refine dr U 600 rfl (by first | exact True.intro | (simp only [AllP, InR, List.nil_append, List.cons_append, and_true]; omega)) ?_
        refine rend _ _ ⟨i + 1, P ++ S, rfl, by omega, by simp [hPl, hSl]; omega, fun c hc => ?_, ?_, ?_, hB, rfl⟩ (by omega) ⟨rfl, rfl, iv (by omega), trivial⟩
        · rcases List.mem_append.1 hc with h | h
          · exact hPd c h
          · exact hSd c h
        · rw [dval_append, hSl, hSv, Nat.mod_eq_of_lt (by omega), hPv, hdr]; omega
        · rw [show 9 * xs.length - 9 * (i + 1) = 9 * xs.length - 9 * i - 9 by omega]
          simpa using ho
    · obtain rfl : i = xs.length := by omega
      rw [Nat.sub_self, List.drop_zero, hvn] at hPv
      rw [Nat.sub_self] at ho
      simp only [List.replicate_zero, List.append_nil] at ho
      have hsl := own_sl ho
      refine dr U 600 rfl (by first | exact True.intro | (simp only [AllP, InR, List.nil_append, List.cons_append, and_true]; omega)) ?_
      refine loopR (fun l w' m => ∃ (B : List UInt8) (a1 : Option Addr) (c1 : Nat), l = [(3, .slice a1 B.length c1)] ∧ B ≠ [] ∧ Dgs B ∧ dval B = n ∧ Sl w1 a1 (byteCells B) ∧ B.length ≤ c1 ∧ B.length ≤ 9 * xs.length ∧ w' = w1 ∧ m = B.length)
        (l0 := [(3, .slice a0 P.length (9 * xs.length))]) ⟨P, a0, 9 * xs.length, rfl, fun e => by rw [e] at hPl; simp at hPl; omega, hPd, hPv, hsl, by omega, by omega, rfl, rfl⟩ ⟨by rw [hPl]; rfl, trivial⟩ ?_
      rintro l w2 m ⟨B, a1, c1, rfl, hne, hBd, hBv, hS, hBc, hBL, rfl, rfl⟩
      have hpos := List.length_pos_iff.2 hne
      refine dr U 600 rfl trivial ?_
      refine cS rfl rfl rfl rfl (fun hq => ?_) (fun hq => ?_)
      · have hlen := hq
        obtain ⟨b0, t, rfl⟩ : ∃ b0 t, B = b0 :: t := by
          cases B with
          | nil => exact absurd rfl hne
          | cons b t => exact ⟨b, t, rfl⟩
        refine dr U 600 rfl trivial ?_
        refine il U rfl rfl rfl rfl rfl rfl rfl (fun _ => rfl) rfl 0 (by omega) (by simp) hS (show (byteCells (b0 :: t))[0]? = some (.int .u8 (b0.toNat : Int)) by simp [byteCells]) ?_
        refine dr U 600 rfl trivial ?_
        refine cS rfl rfl rfl rfl (fun hq => ?_) (fun hq => ?_)
        · have hb0 : b0 = 48 := UInt8.toNat_inj.1 (by simp; omega)
          subst hb0
          have hS1 := hS.drop 1 c1 (by rw [byteCells_len]; exact hBc)
          refine dr U 600 rfl (by first | exact True.intro | (simp only [AllP, InR, List.nil_append, List.cons_append, and_true]; omega)) ?_
          refine rend _ _ ⟨t, sadd a1 c1 1 1, c1 - 1, rfl, fun e => by rw [e] at hlen; simp at hlen, fun c hc => hBd c (List.mem_cons_of_mem _ hc), by rw [← hBv, dval_cons48], by simpa [byteCells] using hS1, by simp at hBc; omega, by simp at hBL; omega, rfl, rfl⟩ (by simp) ⟨?_, trivial⟩
          rfl
        · refine dr U 600 rfl trivial ?_
          refine bstrS U rfl rfl rfl rfl rfl rfl rfl hne hS ?_
          refine dr U 600 rfl trivial ?_
          refine ret Tryz.results67 rfl ⟨_, rfl, ?_, hB⟩
          rw [← hBv, ← dec_of hBd hne (.inr (fun e => ?_))]
          · rfl
          · have : b0 = 48 := Option.some.inj e
            subst this
            exact hq rfl
      · refine dr U 600 rfl trivial ?_
        refine bstrS U rfl rfl rfl rfl rfl rfl rfl hne hS ?_
        refine dr U 600 rfl trivial ?_
        refine ret Tryz.results67 rfl ⟨_, rfl, ?_, hB⟩
        rw [← hBv, ← dec_of hBd hne ?_]
        · rfl
        · obtain ⟨b0, hb0⟩ := List.length_eq_one_iff.1 (show B.length = 1 by omega)
          subst hb0
          by_cases h48 : b0 = 48
          · exact .inl (by rw [h48])
          · exact .inr (fun e => h48 (Option.some.inj e))
end Go.Proofs.YtnohojjjfconfaaGreatDoor
end
section
set_option linter.unusedSimpArgs false
set_option linter.unusedVariables false
set_option maxHeartbeats 1000000
namespace Go.Proofs.YtnohojjjfconfaaGreatDoor
open Go Go.Proofs Go.RowKit Go.Lib

theorem number_calls (n : Nat) (a : Option Addr) (c : Nat) (w : World) (ha : RdI w a c (lim n)) (hl : (lim n).length ≤ 68719476736) :
    Calls Tryz.prog 40 #[.slice a (lim n).length c] w (Ret fun v w' => Res n v ∧ Below w.heap.size w w') := by
  refine enter Tryz.func40 rfl Tryz.ntmps40 (Nat.le_of_ble_eq_true rfl) ?_
  refine dr U 600 rfl trivial ?_
  refine call (f := 67) rfl rfl cb67 (write_ref n a c w ha hl) ?_
  rintro v w1 ⟨rfl, hB1⟩
  refine ⟨_, rfl, ?_⟩
  have hdl := decDigits_length n
  refine dr U 600 rfl trivial ?_
  refine cS rfl rfl rfl rfl (fun hq => ?_) (fun hq => ?_)
  · refine dr U 600 rfl trivial ?_
    exact ret Tryz.results40 rfl ⟨_, rfl, .inr ⟨by omega, rfl⟩, hB1⟩
  · refine dr U 600 rfl trivial ?_
    exact ret Tryz.results40 rfl ⟨_, rfl, .inl ⟨by omega, rfl⟩, hB1⟩

theorem both_calls (x y : List UInt8) (hx : x.length ≤ 9223372036854775806) (hy : y.length ≤ 9223372036854775806) (w : World) :
    Calls Tryz.prog 61 #[.string ⟨⟨x⟩⟩, .string ⟨⟨y⟩⟩] w (Ret fun v w' => (∃ e, v = .int .i64 e ∧ Chk2 x y e) ∧ w = w') := by
  refine enter Tryz.func61 rfl Tryz.ntmps61 (Nat.le_of_ble_eq_true rfl) ?_
  refine dr U 600 rfl trivial ?_
  refine call (f := 33) rfl rfl cb33 (refCheck_calls x hx w) ?_
  rintro v w1 ⟨⟨e1, rfl, hc1⟩, rfl⟩
  refine ⟨_, rfl, ?_⟩
  refine dr U 600 rfl trivial ?_
  have hex := refCheck_calls y hy w
  refine cS rfl rfl rfl rfl (fun hq => ?_) (fun hq => ?_)
  · refine dr U 600 rfl trivial ?_
    obtain ⟨e2, hc2⟩ : ∃ e2, Chk y e2 := by
      by_cases hf : Form y
      · by_cases hl : y.length ≤ 4000
        · exact ⟨0, .inl ⟨hf, hl, rfl⟩⟩
        · exact ⟨5, .inr (.inl ⟨hf, by omega, rfl⟩)⟩
      · exact ⟨3, .inr (.inr ⟨hf, rfl⟩)⟩
    exact ret Tryz.results61 rfl ⟨_, rfl, ⟨_, rfl, e1, e2, hc1, hc2, by rw [if_pos hq]⟩, rfl⟩
  · refine dr U 600 rfl trivial ?_
    refine call (f := 33) rfl rfl cb33 hex ?_
    rintro v w1 ⟨⟨e2, rfl, hc2⟩, rfl⟩
    refine ⟨_, rfl, ?_⟩
    refine dr U 600 rfl trivial ?_
    exact ret Tryz.results61 rfl ⟨_, rfl, ⟨_, rfl, e1, e2, hc1, hc2, by rw [if_neg hq]⟩, rfl⟩

/-- A text's limbs as the reference reads them. -/
theorem readN_calls (x : List UInt8) (h : Form x ∧ x.length ≤ 4000) (w : World) :
    Calls Tryz.prog 39 #[.string ⟨⟨x⟩⟩] w (Ret fun v w' => ∃ a c, v = .slice a (lim (dval x)).length c ∧ RdI w' a c (lim (dval x)) ∧ Below w.heap.size w w') := by
  refine (read_calls x h.1.2.2 (by omega) w).mono ?_
  rintro e w' ⟨v, rfl, h⟩
  exact ⟨v, rfl, h.rd⟩


theorem refAdd_calls (x y : List UInt8) (hx : x.length ≤ 9223372036854775806) (hy : y.length ≤ 9223372036854775806) (w : World) :
    Calls Tryz.prog 26 #[.string ⟨⟨x⟩⟩, .string ⟨⟨y⟩⟩] w (Ret fun v w' => Out x y (dval x + dval y) v ∧ Below w.heap.size w w') := by
  refine enter Tryz.func26 rfl Tryz.ntmps26 (Nat.le_of_ble_eq_true rfl) ?_
  refine dr U 600 rfl trivial ?_
  refine call (f := 61) rfl rfl cb61 (both_calls x y hx hy w) ?_
  rintro v w1 ⟨⟨e, rfl, hc⟩, rfl⟩
  refine ⟨_, rfl, ?_⟩
  refine dr U 600 rfl trivial ?_
  refine cS rfl rfl rfl rfl (fun hq => ?_) (fun hq => ?_)
  · refine dr U 600 rfl trivial ?_
    exact ret Tryz.results26 rfl ⟨_, rfl, .inl ⟨e, hq, hc, rfl⟩, Below.refl _ _⟩
  · obtain rfl := Classical.not_not.1 hq
    obtain ⟨hox, hoy⟩ := chk2_ok hc
    have hlx := form_len hox
    have hly := form_len hoy
    refine dr U 600 rfl trivial ?_
    skip
    refine call (f := 39) rfl rfl cb39 (readN_calls x hox w) ?_
    rintro v w1 ⟨a1, c1, rfl, hr1, hB1⟩
    refine ⟨_, rfl, ?_⟩
    refine dr U 600 rfl trivial ?_
    refine call (f := 39) rfl rfl cb39 (readN_calls y hoy w1) ?_
    rintro v w2 ⟨a2, c2, rfl, hr2, hB2⟩
    refine ⟨_, rfl, ?_⟩
    have hr1 := hr1.below hB2
    have hB2' := bl_tr hB1 hB2 hB1.size
    refine dr U 600 rfl trivial ?_
    refine call (f := 62) rfl rfl cb62 (plus_calls _ _ a1 a2 c1 c2 w2 hr1 hr2 (by omega) (by omega)) ?_
    rintro v w3 ⟨a3, c3, rfl, ho3, hB3⟩
    refine ⟨_, rfl, ?_⟩
    have hB3' := bl_tr hB2' hB3 hB2'.size
    refine dr U 600 rfl trivial ?_
    refine call (f := 40) rfl rfl cb40 (number_calls _ a3 c3 w3 (ownI_rd ho3) (lenadd hlx.2 hly.2)) ?_
    rintro v w4 ⟨hres, hB4⟩
    have hres' := hres
    obtain ⟨u1, u2, rfl⟩ := hres'.tup
    refine ⟨_, rfl, ?_⟩
    refine dr U 600 rfl trivial ?_
    exact ret Tryz.results26 rfl ⟨_, rfl, .inr ⟨hc, hres⟩, bl_tr hB3' hB4 hB3'.size⟩
theorem refMul_calls (x y : List UInt8) (hx : x.length ≤ 9223372036854775806) (hy : y.length ≤ 9223372036854775806) (w : World) :
    Calls Tryz.prog 28 #[.string ⟨⟨x⟩⟩, .string ⟨⟨y⟩⟩] w (Ret fun v w' => Out x y (dval x * dval y) v ∧ Below w.heap.size w w') := by
  refine enter Tryz.func28 rfl Tryz.ntmps28 (Nat.le_of_ble_eq_true rfl) ?_
  refine dr U 600 rfl trivial ?_
  refine call (f := 61) rfl rfl cb61 (both_calls x y hx hy w) ?_
  rintro v w1 ⟨⟨e, rfl, hc⟩, rfl⟩
  refine ⟨_, rfl, ?_⟩
  refine dr U 600 rfl trivial ?_
  refine cS rfl rfl rfl rfl (fun hq => ?_) (fun hq => ?_)
  · refine dr U 600 rfl trivial ?_
    exact ret Tryz.results28 rfl ⟨_, rfl, .inl ⟨e, hq, hc, rfl⟩, Below.refl _ _⟩
  · obtain rfl := Classical.not_not.1 hq
    obtain ⟨hox, hoy⟩ := chk2_ok hc
    have hlx := form_len hox
    have hly := form_len hoy
    refine dr U 600 rfl trivial ?_
    skip
    refine call (f := 39) rfl rfl cb39 (readN_calls x hox w) ?_
    rintro v w1 ⟨a1, c1, rfl, hr1, hB1⟩
    refine ⟨_, rfl, ?_⟩
    refine dr U 600 rfl trivial ?_
    refine call (f := 39) rfl rfl cb39 (readN_calls y hoy w1) ?_
    rintro v w2 ⟨a2, c2, rfl, hr2, hB2⟩
    refine ⟨_, rfl, ?_⟩
    have hr1 := hr1.below hB2
    have hB2' := bl_tr hB1 hB2 hB1.size
    refine dr U 600 rfl trivial ?_
    refine call (f := 65) rfl rfl cb65 (times_calls _ _ a1 a2 c1 c2 w2 hr1 hr2 (by omega) (by omega)) ?_
    rintro v w3 ⟨a3, c3, rfl, ho3, hB3⟩
    refine ⟨_, rfl, ?_⟩
    have hB3' := bl_tr hB2' hB3 hB2'.size
    refine dr U 600 rfl trivial ?_
    refine call (f := 40) rfl rfl cb40 (number_calls _ a3 c3 w3 (ownI_rd ho3) (lenmul hlx.2 hly.2)) ?_
    rintro v w4 ⟨hres, hB4⟩
    have hres' := hres
    obtain ⟨u1, u2, rfl⟩ := hres'.tup
    refine ⟨_, rfl, ?_⟩
    refine dr U 600 rfl trivial ?_
    exact ret Tryz.results28 rfl ⟨_, rfl, .inr ⟨hc, hres⟩, bl_tr hB3' hB4 hB3'.size⟩
theorem refGcd_calls (x y : List UInt8) (hx : x.length ≤ 9223372036854775806) (hy : y.length ≤ 9223372036854775806) (w : World) :
    Calls Tryz.prog 30 #[.string ⟨⟨x⟩⟩, .string ⟨⟨y⟩⟩] w (Ret fun v w' => Out x y (Nat.gcd (dval x) (dval y)) v ∧ Below w.heap.size w w') := by
  refine enter Tryz.func30 rfl Tryz.ntmps30 (Nat.le_of_ble_eq_true rfl) ?_
  refine dr U 600 rfl trivial ?_
  refine call (f := 61) rfl rfl cb61 (both_calls x y hx hy w) ?_
  rintro v w1 ⟨⟨e, rfl, hc⟩, rfl⟩
  refine ⟨_, rfl, ?_⟩
  refine dr U 600 rfl trivial ?_
  refine cS rfl rfl rfl rfl (fun hq => ?_) (fun hq => ?_)
  · refine dr U 600 rfl trivial ?_
    exact ret Tryz.results30 rfl ⟨_, rfl, .inl ⟨e, hq, hc, rfl⟩, Below.refl _ _⟩
  · obtain rfl := Classical.not_not.1 hq
    obtain ⟨hox, hoy⟩ := chk2_ok hc
    have hlx := form_len hox
    have hly := form_len hoy
    refine dr U 600 rfl trivial ?_
    skip
    refine call (f := 39) rfl rfl cb39 (readN_calls x hox w) ?_
    rintro v w1 ⟨a1, c1, rfl, hr1, hB1⟩
    refine ⟨_, rfl, ?_⟩
    refine dr U 600 rfl trivial ?_
    refine call (f := 39) rfl rfl cb39 (readN_calls y hoy w1) ?_
    rintro v w2 ⟨a2, c2, rfl, hr2, hB2⟩
    refine ⟨_, rfl, ?_⟩
    have hr1 := hr1.below hB2
    have hB2' := bl_tr hB1 hB2 hB1.size
    refine dr U 600 rfl trivial ?_
    refine call (f := 68) rfl rfl cb68 (common_calls _ _ a1 a2 c1 c2 w2 hr1 hr2 (by omega) (by omega)) ?_
    rintro v w3 ⟨⟨a3, c3, rfl, hr3⟩, hB3⟩
    refine ⟨_, rfl, ?_⟩
    have hB3' := bl_tr hB2' hB3 hB2'.size
    refine dr U 600 rfl trivial ?_
    refine call (f := 40) rfl rfl cb40 (number_calls _ a3 c3 w3 hr3 (lengcd hlx.2 hly.2)) ?_
    rintro v w4 ⟨hres, hB4⟩
    have hres' := hres
    obtain ⟨u1, u2, rfl⟩ := hres'.tup
    refine ⟨_, rfl, ?_⟩
    refine dr U 600 rfl trivial ?_
    exact ret Tryz.results30 rfl ⟨_, rfl, .inr ⟨hc, hres⟩, bl_tr hB3' hB4 hB3'.size⟩
theorem refSub_calls (x y : List UInt8) (hx : x.length ≤ 9223372036854775806) (hy : y.length ≤ 9223372036854775806) (w : World) :
    Calls Tryz.prog 27 #[.string ⟨⟨x⟩⟩, .string ⟨⟨y⟩⟩] w (Ret fun v w' => OutS x y v ∧ Below w.heap.size w w') := by
  refine enter Tryz.func27 rfl Tryz.ntmps27 (Nat.le_of_ble_eq_true rfl) ?_
  refine dr U 600 rfl trivial ?_
  refine call (f := 61) rfl rfl cb61 (both_calls x y hx hy w) ?_
  rintro v w1 ⟨⟨e, rfl, hc⟩, rfl⟩
  refine ⟨_, rfl, ?_⟩
  refine dr U 600 rfl trivial ?_
  refine cS rfl rfl rfl rfl (fun hq => ?_) (fun hq => ?_)
  · refine dr U 600 rfl trivial ?_
    exact ret Tryz.results27 rfl ⟨_, rfl, .inl ⟨e, hq, hc, rfl⟩, Below.refl _ _⟩
  · obtain rfl := Classical.not_not.1 hq
    obtain ⟨hox, hoy⟩ := chk2_ok hc
    have hlx := form_len hox
    have hly := form_len hoy
    refine dr U 600 rfl trivial ?_
    skip
    refine call (f := 39) rfl rfl cb39 (readN_calls x hox w) ?_
    rintro v w1 ⟨a1, c1, rfl, hr1, hB1⟩
    refine ⟨_, rfl, ?_⟩
    refine dr U 600 rfl trivial ?_
    refine call (f := 39) rfl rfl cb39 (readN_calls y hoy w1) ?_
    rintro v w2 ⟨a2, c2, rfl, hr2, hB2⟩
    refine ⟨_, rfl, ?_⟩
    have hr1 := hr1.below hB2
    have hB2' := bl_tr hB1 hB2 hB1.size
    refine dr U 600 rfl trivial ?_
    refine call (f := 63) rfl rfl cb63 (order_calls _ _ a1 a2 c1 c2 w2 hr1 hr2 (by omega) (by omega)) ?_
    rintro v w3 ⟨rfl, hB3⟩
    refine ⟨_, rfl, ?_⟩
    have hB3' := bl_tr hB2' hB3 hB2'.size
    have hr1 := hr1.below hB3
    have hr2 := hr2.below hB3
    refine dr U 600 rfl trivial ?_
    refine cS rfl rfl rfl rfl (fun hq => ?_) (fun hq => ?_)
    · refine dr U 600 rfl trivial ?_
      exact ret Tryz.results27 rfl ⟨_, rfl, .inr ⟨hc, .inl ⟨cmpN_neg.1 hq, rfl⟩⟩, hB3'⟩
    · have hle : dval y ≤ dval x := by
        rcases Nat.lt_or_ge (dval x) (dval y) with h | h
        · exact absurd (cmpN_neg.2 h) hq
        · exact h
      refine dr U 600 rfl trivial ?_
      refine call (f := 64) rfl rfl cb64 (minus_calls _ _ hle a1 a2 c1 c2 w3 hr1 hr2 (by omega)) ?_
      rintro v w4 ⟨a3, c3, rfl, ho3, hB4⟩
      refine ⟨_, rfl, ?_⟩
      have hB3' := bl_tr hB3' hB4 hB3'.size
      refine dr U 600 rfl trivial ?_
      refine call (f := 40) rfl rfl cb40 (number_calls _ a3 c3 w4 (ownI_rd ho3) (by have := lim_len_mono (show dval x - dval y ≤ dval x by omega); omega)) ?_
      rintro v w4 ⟨hres, hB4⟩
      have hres' := hres
      obtain ⟨u1, u2, rfl⟩ := hres'.tup
      refine ⟨_, rfl, ?_⟩
      refine dr U 600 rfl trivial ?_
      exact ret Tryz.results27 rfl ⟨_, rfl, .inr ⟨hc, .inr ⟨hle, hres⟩⟩, bl_tr hB3' hB4 hB3'.size⟩
theorem form_zero {y : List UInt8} (h : Form y) : y = [48] ↔ dval y = 0 := by
  constructor
  · rintro rfl; rfl
  · intro h0
    rw [dec_of h.2.2 h.1 h.2.1, h0, decDigits, dif_pos (by omega)]; rfl
theorem refDivMod_calls (x y : List UInt8) (hx : x.length ≤ 9223372036854775806) (hy : y.length ≤ 9223372036854775806) (w : World) :
    Calls Tryz.prog 29 #[.string ⟨⟨x⟩⟩, .string ⟨⟨y⟩⟩] w (Ret fun v w' => OutD x y v ∧ Below w.heap.size w w') := by
  refine enter Tryz.func29 rfl Tryz.ntmps29 (Nat.le_of_ble_eq_true rfl) ?_
  refine dr U 600 rfl trivial ?_
  refine call (f := 61) rfl rfl cb61 (both_calls x y hx hy w) ?_
  rintro v w1 ⟨⟨e, rfl, hc⟩, rfl⟩
  refine ⟨_, rfl, ?_⟩
  refine dr U 600 rfl trivial ?_
  refine cS rfl rfl rfl rfl (fun hq => ?_) (fun hq => ?_)
  · refine dr U 600 rfl trivial ?_
    exact ret Tryz.results29 rfl ⟨_, rfl, .inl ⟨e, hq, hc, rfl⟩, Below.refl _ _⟩
  · obtain rfl := Classical.not_not.1 hq
    obtain ⟨hox, hoy⟩ := chk2_ok hc
    have hlx := form_len hox
    have hly := form_len hoy
    refine dr U 600 rfl trivial ?_
    (refine cS rfl rfl rfl rfl (fun hq => ?_) (fun hq => ?_); refine dr U 600 rfl trivial ?_; exact ret Tryz.results29 rfl ⟨_, rfl, .inr (.inl ⟨hc, (form_zero hoy.1).1 hq, rfl⟩), Below.refl _ _⟩; have hy0 := fun h => hq ((form_zero hoy.1).2 h); refine dr U 600 rfl trivial ?_)
    refine call (f := 39) rfl rfl cb39 (readN_calls x hox w) ?_
    rintro v w1 ⟨a1, c1, rfl, hr1, hB1⟩
    refine ⟨_, rfl, ?_⟩
    refine dr U 600 rfl trivial ?_
    refine call (f := 39) rfl rfl cb39 (readN_calls y hoy w1) ?_
    rintro v w2 ⟨a2, c2, rfl, hr2, hB2⟩
    refine ⟨_, rfl, ?_⟩
    have hr1 := hr1.below hB2
    have hB2' := bl_tr hB1 hB2 hB1.size
    refine dr U 600 rfl trivial ?_
    refine call (f := 66) rfl rfl cb66 (divide_calls _ _ (Nat.pos_of_ne_zero hy0) a1 a2 c1 c2 w2 hr1 hr2 (by omega) (by omega)) ?_
    rintro v w3 ⟨v1, v2, rfl, ⟨a3, c3, rfl, hr3⟩, ⟨a4, c4, rfl, hr4⟩, hB3⟩
    refine ⟨_, rfl, ?_⟩
    have hB3' := bl_tr hB2' hB3 hB2'.size
    have hql := lim_len_mono (Nat.div_le_self (dval x) (dval y))
    have hrl := lim_len_mono (Nat.mod_le (dval x) (dval y))
    refine dr U 600 rfl trivial ?_
    refine call (f := 67) rfl rfl cb67 (write_ref _ a3 c3 w3 hr3 (by omega)) ?_
    rintro v w4 ⟨rfl, hB4⟩
    refine ⟨_, rfl, ?_⟩
    have hB4' := bl_tr hB3' hB4 hB3'.size
    refine dr U 600 rfl trivial ?_
    refine call (f := 67) rfl rfl cb67 (write_ref _ a4 c4 w4 (hr4.below hB4) (by omega)) ?_
    rintro v w5 ⟨rfl, hB5⟩
    refine ⟨_, rfl, ?_⟩
    refine dr U 600 rfl trivial ?_
    exact ret Tryz.results29 rfl ⟨_, rfl, .inr (.inr ⟨hc, hy0, rfl⟩), bl_tr hB4' hB5 hB4'.size⟩
theorem refCmp_calls (x y : List UInt8) (hx : x.length ≤ 9223372036854775806) (hy : y.length ≤ 9223372036854775806) (w : World) :
    Calls Tryz.prog 34 #[.string ⟨⟨x⟩⟩, .string ⟨⟨y⟩⟩] w (Ret fun v w' => (∃ e, Chk2 x y e ∧ v = .int .i64 (if e ≠ 0 then 0 else cmpN (dval x) (dval y))) ∧ Below w.heap.size w w') := by
  refine enter Tryz.func34 rfl Tryz.ntmps34 (Nat.le_of_ble_eq_true rfl) ?_
  refine dr U 600 rfl trivial ?_
  refine call (f := 61) rfl rfl cb61 (both_calls x y hx hy w) ?_
  rintro v w1 ⟨⟨e, rfl, hc⟩, rfl⟩
  refine ⟨_, rfl, ?_⟩
  refine dr U 600 rfl trivial ?_
  refine cS rfl rfl rfl rfl (fun hq => ?_) (fun hq => ?_)
  · refine dr U 600 rfl trivial ?_
    exact ret Tryz.results34 rfl ⟨_, rfl, ⟨e, hc, by rw [if_pos hq]; rfl⟩, Below.refl _ _⟩
  · obtain rfl := Classical.not_not.1 hq
    obtain ⟨hox, hoy⟩ := chk2_ok hc
    have hlx := form_len hox
    have hly := form_len hoy
    refine dr U 600 rfl trivial ?_
    refine call (f := 39) rfl rfl cb39 (readN_calls x hox w) ?_
    rintro v w1 ⟨a1, c1, rfl, hr1, hB1⟩
    refine ⟨_, rfl, ?_⟩
    refine dr U 600 rfl trivial ?_
    refine call (f := 39) rfl rfl cb39 (readN_calls y hoy w1) ?_
    rintro v w2 ⟨a2, c2, rfl, hr2, hB2⟩
    refine ⟨_, rfl, ?_⟩
    have hr1 := hr1.below hB2
    have hB2' := bl_tr hB1 hB2 hB1.size
    refine dr U 600 rfl trivial ?_
    refine call (f := 63) rfl rfl cb63 (order_calls _ _ a1 a2 c1 c2 w2 hr1 hr2 (by omega) (by omega)) ?_
    rintro v w3 ⟨rfl, hB3⟩
    refine ⟨_, rfl, ?_⟩
    refine dr U 600 rfl trivial ?_
    exact ret Tryz.results34 rfl ⟨_, rfl, ⟨0, hc, by rw [if_neg hq]; rfl⟩, bl_tr hB2' hB3 hB2'.size⟩
end Go.Proofs.YtnohojjjfconfaaGreatDoor
end
section
set_option linter.unusedSimpArgs false
set_option linter.unusedVariables false
set_option maxHeartbeats 1000000
namespace Go.Proofs.YtnohojjjfconfaaGreatDoor
open Go Go.Proofs Go.RowKit Go.Lib

section
variable {P : Program} (U : Tys P) {ro : Option Nat} {n : Nat} {ds : List Deferred} {Q : PT} {l l' : Fr} {w w' : World} {arr : Array Oper} {r : List Oper} {k : List It}
theorem and1i {d : Nat} {t t2 ty : TypeId} {x y : Operand} {ps : String} {af : Array Edge} {g : Option (Nat × Bool)} (m : Nat) (hx : ev l x = some (.int .i64 (m : Nat))) (hy : ev l y = some (.int .i64 1)) (hm : m < 9223372036854775808) (hg : gd arr l g = some true) (hd : Nat.blt d n = true)
    (t' : T P ro n ds Q ((d, .int .i64 ((m % 2 : Nat) : Int)) :: l) w (.ops arr r) k) : T P ro n ds Q l w (.ops arr (⟨some d, .binOp .and t x y t2, ty, ps, af, g⟩ :: r)) k := by
  have h1 : (BitVec.ofInt 64 (m : Int) &&& BitVec.ofInt 64 1).toNat = m % 2 := by
    rw [BitVec.toNat_and]
    have h2 : (BitVec.ofInt 64 (m : Int)).toNat = m := by simp [BitVec.toNat_ofInt]; omega
    have h3 : (BitVec.ofInt 64 1).toNat = 1 := by decide
    rw [h2, h3, Nat.and_one_is_mod]
  have h4 : IntKind.i64.wrap (((m % 2 : Nat) : Int)) = ((m % 2 : Nat) : Int) := wrap_in (by simp only [InR]; omega)
  refine op1 (w' := w) (v := .int .i64 ((m % 2 : Nat) : Int)) (by intro c h; cases h) hg (by simp only [put1, hd]) (fun a hf => ?_) t'
  have h5 : (binOp .and t (.int .i64 (m : Nat)) (.int .i64 1)).run P w = .ok (.int .i64 ((m % 2 : Nat) : Int)) w := by
    simp only [binOp_and, Op.intBits]
    show (pure _ : Sem Value).run P w = _
    simp only [Sem.run_pure]
    show Result.ok (Value.int .i64 (IntKind.i64.wrap ((BitVec.ofInt 64 (m : Int) &&& BitVec.ofInt 64 1).toNat : Int))) w = _
    rw [h1, h4]
  simp [execOp, hf.ev hx, hf.ev hy, eqGuard, h5]

theorem shr1i {d : Nat} {t t2 ty : TypeId} {x y : Operand} {ps : String} {af : Array Edge} {g : Option (Nat × Bool)} {kk : IntKind} (m s : Nat) (hx : ev l x = some (.int .i64 (m : Nat))) (hy : ev l y = some (.int kk (s : Nat))) (hs : s ≤ 64) (hg : gd arr l g = some true) (hd : Nat.blt d n = true)
    (t' : T P ro n ds Q ((d, .int .i64 ((m / 2 ^ s : Nat) : Int)) :: l) w (.ops arr r) k) : T P ro n ds Q l w (.ops arr (⟨some d, .binOp .shr t x y t2, ty, ps, af, g⟩ :: r)) k := by
  refine op1 (w' := w) (v := .int .i64 ((m / 2 ^ s : Nat) : Int)) (by intro c h; cases h) hg (by simp only [put1, hd]) (fun a hf => ?_) t'
  have h5 : (binOp .shr t (.int .i64 (m : Nat)) (.int kk (s : Nat))).run P w = .ok (.int .i64 ((m / 2 ^ s : Nat) : Int)) w := by
    simp only [binOp, Op.shift]
    rw [if_neg (by omega)]
    have hmin : min ((s : Nat) : Int).toNat IntKind.i64.bits = s := by
      show min ((s : Nat) : Int).toNat 64 = s
      rw [Int.toNat_natCast]; omega
    rw [hmin]
    simp only [Sem.run_pure]
    congr 2
    rw [show ((2 : Int) ^ s) = ((2 ^ s : Nat) : Int) by simp, Int.fdiv_eq_ediv_of_nonneg _ (Int.natCast_nonneg _)]
    rfl
  simp [execOp, hf.ev hx, hf.ev hy, eqGuard, h5]

/-- A rune of ASCII as a string. -/
theorem rstr {d : Nat} {t t2 ty : TypeId} {x : Operand} {ps : String} {af : Array Edge} {g : Option (Nat × Bool)} {kk : IntKind} {z : Int} (c : UInt8) (hx : ev l x = some (.int kk z)) (hz : z = (c.toNat : Int)) (hc : c.toNat < 128) {u : TypeDesc} (hs : U.tb.u t = some u) (h2 : U.tb.u t2 = some .string) (hg : gd arr l g = some true) (hd : Nat.blt d n = true)
    (t' : T P ro n ds Q ((d, str [c]) :: l) w (.ops arr r) k) : T P ro n ds Q l w (.ops arr (⟨some d, .convert t t2 x, ty, ps, af, g⟩ :: r)) k := by
  subst hz
  have h1 := run_convert_int_string (P := P) w t t2 kk (c.toNat : Int) (by rw [U.hu _ _ hs]; rfl) (U.hu _ _ h2)
  have h2 : Utf8.encode (c.toNat : Int) = ⟨⟨[c]⟩⟩ := by
    unfold Utf8.encode
    have hv : Utf8.valid (c.toNat : Int) = true := by unfold Utf8.valid; simp; omega
    simp [hv, hc]
  rw [h2] at h1
  exact op1 (w' := w) (by intro c h; cases h) hg (put1_some hd) (fun a hf => by simp [execOp, hf.ev hx, h1, str]) t'
end

theorem half_pow (n j : Nat) : n / 2 ^ j = 2 * (n / 2 ^ (j + 1)) + n / 2 ^ j % 2 := by
  rw [Nat.pow_succ, ← Nat.div_div_eq_div_mul]; omega
theorem pow_half (p n j : Nat) : p ^ (n / 2 ^ j) = p ^ (n / 2 ^ (j + 1)) * p ^ (n / 2 ^ (j + 1)) * p ^ (n / 2 ^ j % 2) := by
  conv => lhs; rw [half_pow n j]
  rw [Nat.pow_add, Nat.two_mul, Nat.pow_add]
theorem pow_low {p n j : Nat} (hp : 1 ≤ p) : p ^ (n / 2 ^ j) ≤ p ^ n := Nat.pow_le_pow_right hp (Nat.div_le_self _ _)
theorem pow_big {p n j : Nat} (hp : 1 ≤ p) (h : 4000 < nDigits (p ^ (n / 2 ^ j))) : ¬ nDigits (p ^ n) ≤ 4000 := by
  have := nD_mono (pow_low (n := n) (j := j) hp); omega


theorem power_calls (p n : Nat) (hn : n < 9223372036854775808) (a : Option Addr) (c : Nat) (w : World) (ha : RdI w a c (lim p)) (hp : nDigits p ≤ 4000) :
    Calls Tryz.prog 38 #[.slice a (lim p).length c, .int .i64 (n : Nat)] w
      (Ret fun v w' => ∃ v1, v = .tuple ⟨[v1, .bool (decide (nDigits (p ^ n) ≤ 4000))]⟩ ∧ (nDigits (p ^ n) ≤ 4000 → RedI w' v1 (lim (p ^ n))) ∧ Below w.heap.size w w') := by
  have hd1 : nDigits 1 = 1 := nDigits_small (by omega)
  have hpl := Nat.le_trans (lim_le_nD p) hp
  refine enter Tryz.func38 rfl Tryz.ntmps38 (Nat.le_of_ble_eq_true rfl) ?_
  refine dr U 600 rfl trivial ?_
  refine bs1 U (v := i64n 1) rfl rfl rfl rfl rfl rfl rfl ?_
  intro w1 hk1 hs1 hg1
  have hB1 : Below w.heap.size w w1 := (Below.refl _ _).grown hg1 (Nat.le_refl _) (fun k e => by cases e)
  have ho1 : RdI w1 (some ⟨w.heap.size, 0, none⟩) 1 (lim 1) := by rw [lim_one]; exact ⟨by simpa using hk1.sl 0, by simp, fun g hg => by simp [ab] at hg; omega⟩
  have hl1 : (lim 1).length = 1 := by rw [lim_one]; rfl
  have ha1 := ha.below hB1
  refine dr U 600 rfl trivial ?_
  refine cS rfl rfl rfl rfl (fun hq => ?_) (fun hq => ?_)
  · have hn0 : n = 0 := by omega
    subst hn0
    refine dr U 600 rfl trivial ?_
    refine cT rfl rfl rfl rfl ?_
    refine dr U 600 rfl trivial ?_
    refine ret Tryz.results38 rfl ⟨_, rfl, .slice (some ⟨w.heap.size, 0, none⟩) 1 1, by rw [Nat.pow_zero, hd1]; rfl, fun _ => ⟨some ⟨w.heap.size, 0, none⟩, 1, by rw [Nat.pow_zero, hl1], by rw [Nat.pow_zero]; exact ho1⟩, hB1⟩
  · have hn0 : n ≠ 0 := by omega
    refine dr U 600 rfl trivial ?_
    have hord := order_calls p 1 a (some ⟨w.heap.size, 0, none⟩) c 1 w1 ha1 ho1 (by omega) (by omega)
    rw [hl1] at hord
    refine call (f := 63) rfl rfl cb63 hord ?_
    rintro v w2 ⟨rfl, hB2⟩
    refine ⟨_, rfl, ?_⟩
    have hB2' := bl_tr hB1 hB2 hB1.size
    have ha2 := ha1.below hB2
    have ho2 := ho1.below hB2
    refine cS rfl rfl rfl rfl (fun hq => ?_) (fun hq => ?_)
    · have hp1 : p ≤ 1 := by
        rcases Nat.lt_or_ge 1 p with h | h
        · unfold cmpN at hq; rw [if_neg (by omega), if_pos h] at hq; omega
        · exact h
      have hpn : p ^ n = p := by
        rcases (show p = 0 ∨ p = 1 by omega) with h | h
        · rw [h, Nat.zero_pow (by omega)]
        · rw [h, Nat.one_pow]
      refine dr U 600 rfl trivial ?_
      refine cF rfl rfl rfl (by omega) ?_
      refine dr U 600 rfl trivial ?_
      exact ret Tryz.results38 rfl ⟨_, rfl, .slice a (lim p).length c, by rw [hpn, decide_eq_true hp]; rfl, fun _ => ⟨a, c, by rw [hpn], by rw [hpn]; exact ha2⟩, hB2'⟩
    · have hp1 : 1 ≤ p := by
        rcases Nat.eq_zero_or_pos p with h | h
        · exfalso; apply hq; rw [h]; decide
        · exact h
      clear hord
      refine dr U 600 rfl trivial ?_
      refine loopR (fun l w' m => ∃ (j : Nat) (a3 : Option Addr) (c3 : Nat), l = [(0, .slice a (lim p).length c), (1, .int .i64 (n : Nat)), (7, .slice a3 (lim (p ^ (n / 2 ^ j))).length c3), (8, .int .i64 ((j : Int) - 1))] ∧ j ≤ 63 ∧ RdI w' a3 c3 (lim (p ^ (n / 2 ^ j))) ∧ nDigits (p ^ (n / 2 ^ j)) ≤ 4000 ∧ Below w.heap.size w w' ∧ m = j)
        (l0 := [(0, .slice a (lim p).length c), (1, .int .i64 (n : Nat)), (7, .slice (some ⟨w.heap.size, 0, none⟩) 1 1), (8, .int .i64 62)])
        ⟨63, some ⟨w.heap.size, 0, none⟩, 1, ?_, by omega, ?_, ?_, hB2', rfl⟩ ⟨rfl, rfl, rfl, rfl, trivial⟩ ?_
      · rw [Nat.div_eq_of_lt (by omega), Nat.pow_zero, hl1]; rfl
      · rw [Nat.div_eq_of_lt (by omega), Nat.pow_zero]; exact ho2
      · rw [Nat.div_eq_of_lt (by omega), Nat.pow_zero, hd1]; omega
      rintro l w3 m ⟨j1, a3, c3, rfl, hj, hr3, hd3, hB3, hm⟩
      have ha3 : RdI w3 a c (lim p) := ha.below hB3
      refine dr U 600 rfl trivial ?_
      refine cS rfl rfl rfl rfl (fun hq => ?_) (fun hq => ?_)
      · obtain ⟨j, rfl⟩ : ∃ j, j1 = j + 1 := ⟨j1 - 1, by omega⟩
        have hph := pow_half p n j
        have hl3 := lim_le_nD (p ^ (n / 2 ^ (j + 1)))
        have hlm := lim_len_mul (p ^ (n / 2 ^ (j + 1))) (p ^ (n / 2 ^ (j + 1)))
        rw [show (((j + 1 : Nat) : Int) - 1) = (j : Int) by omega]
        generalize p ^ (n / 2 ^ (j + 1)) = o at *
        refine dr U 600 rfl trivial ?_
        refine call (f := 65) rfl rfl cb65 (times_calls o o a3 a3 c3 c3 w3 hr3 hr3 (by omega) (by omega)) ?_
        rintro v w4 ⟨a4, c4, rfl, ho4, hB4⟩
        refine ⟨_, rfl, ?_⟩
        have hB4' := bl_tr hB3 hB4 hB3.size
        have hr4 := ownI_rd ho4
        have hdl : n / 2 ^ j ≤ n := Nat.div_le_self _ _
        refine dr U 600 rfl trivial ?_
        refine shr1i n j rfl rfl (by omega) rfl rfl ?_
        refine and1i _ rfl rfl (by omega) rfl rfl ?_
        refine dr U 600 rfl trivial ?_
        refine cS rfl rfl rfl rfl (fun hq => ?_) (fun hq => ?_)
        · have hval : o * o * p = p ^ (n / 2 ^ j) := by rw [hph, show n / 2 ^ j % 2 = 1 by omega, Nat.pow_one]
          have hl5 := lim_len_mul (o * o) p
          refine dr U 600 rfl trivial ?_
          refine call (f := 65) rfl rfl cb65 (times_calls (o * o) p a4 a c4 c w4 hr4 (ha3.below hB4) (by omega) (by omega)) ?_
          rintro v w6 ⟨a4, c4, rfl, ho4, hB6⟩
          refine ⟨_, rfl, ?_⟩
          have hBB := bl_tr hB4' hB6 hB4'.size
          have hr4 := ownI_rd ho4
          have hl4 : (lim (o * o * p)).length ≤ 68719476736 := by omega
          rw [hval] at hr4 hl4 ⊢
          refine dr U 600 rfl trivial ?_
          refine call (f := 67) rfl rfl cb67 (write_ref _ a4 c4 w6 hr4 hl4) ?_
          rintro v w5 ⟨rfl, hB5⟩
          refine ⟨_, rfl, ?_⟩
          have hBW := bl_tr hBB hB5 hBB.size
          have hdl := decDigits_length (p ^ (n / 2 ^ j))
          refine dr U 600 rfl trivial ?_
          refine cS rfl rfl rfl rfl (fun hq => ?_) (fun hq => ?_)
          · have hno := pow_big (n := n) (j := j) hp1 (by omega)
            refine dr U 600 rfl trivial ?_
            exact ret Tryz.results38 rfl ⟨_, rfl, .slice none 0 0, by rw [decide_eq_false hno]; rfl, fun h => absurd h hno, hBW⟩
          · refine dr U 600 rfl (by first | exact True.intro | (simp only [AllP, InR, List.nil_append, List.cons_append, and_true]; omega)) ?_
            exact rend [(0, .slice a (lim p).length c), (1, .int .i64 (n : Nat)), (7, .slice a4 (lim (p ^ (n / 2 ^ j))).length c4), (8, .int .i64 ((j : Int) - 1))] j ⟨j, a4, c4, rfl, by omega, hr4.below hB5, by omega, hBW, rfl⟩ (by omega) ⟨rfl, rfl, rfl, iv (by omega), trivial⟩
        · have hval : o * o = p ^ (n / 2 ^ j) := by rw [hph, show n / 2 ^ j % 2 = 0 by omega, Nat.pow_zero, Nat.mul_one]
          have hl4 : (lim (o * o)).length ≤ 68719476736 := by omega
          have hBB := hB4'
          rw [hval] at hr4 hl4 ⊢
          refine dr U 600 rfl trivial ?_
          refine call (f := 67) rfl rfl cb67 (write_ref _ a4 c4 w4 hr4 hl4) ?_
          rintro v w5 ⟨rfl, hB5⟩
          refine ⟨_, rfl, ?_⟩
          have hBW := bl_tr hBB hB5 hBB.size
          have hdl := decDigits_length (p ^ (n / 2 ^ j))
          refine dr U 600 rfl trivial ?_
          refine cS rfl rfl rfl rfl (fun hq => ?_) (fun hq => ?_)
          · have hno := pow_big (n := n) (j := j) hp1 (by omega)
            refine dr U 600 rfl trivial ?_
            exact ret Tryz.results38 rfl ⟨_, rfl, .slice none 0 0, by rw [decide_eq_false hno]; rfl, fun h => absurd h hno, hBW⟩
          · refine dr U 600 rfl (by first | exact True.intro | (simp only [AllP, InR, List.nil_append, List.cons_append, and_true]; omega)) ?_
            exact rend [(0, .slice a (lim p).length c), (1, .int .i64 (n : Nat)), (7, .slice a4 (lim (p ^ (n / 2 ^ j))).length c4), (8, .int .i64 ((j : Int) - 1))] j ⟨j, a4, c4, rfl, by omega, hr4.below hB5, by omega, hBW, rfl⟩ (by omega) ⟨rfl, rfl, rfl, iv (by omega), trivial⟩
      · obtain rfl : j1 = 0 := by omega
        rw [show n / 2 ^ 0 = n by simp] at *
        refine dr U 600 rfl trivial ?_
        exact ret Tryz.results38 rfl ⟨_, rfl, .slice a3 (lim (p ^ n)).length c3, by rw [decide_eq_true hd3]; rfl, fun _ => ⟨a3, c3, rfl, hr3⟩, hB3⟩

theorem refPow_calls (x : List UInt8) (n : Int) (hx : x.length ≤ 9223372036854775806) (hn : n ≤ 9223372036854775807) (w : World) :
    Calls Tryz.prog 10 #[.string ⟨⟨x⟩⟩, .int .i64 n] w (Ret fun v w' => OutP x n v ∧ Below w.heap.size w w') := by
  refine enter Tryz.func10 rfl Tryz.ntmps10 (Nat.le_of_ble_eq_true rfl) ?_
  refine dr U 600 rfl trivial ?_
  refine call (f := 33) rfl rfl cb33 (refCheck_calls x hx w) ?_
  rintro v w1 ⟨⟨e, rfl, hc⟩, rfl⟩
  refine ⟨_, rfl, ?_⟩
  refine dr U 600 rfl trivial ?_
  refine cS rfl rfl rfl rfl (fun hq => ?_) (fun hq => ?_)
  · refine dr U 600 rfl trivial ?_
    exact ret Tryz.results10 rfl ⟨_, rfl, .inl ⟨e, hq, hc, rfl⟩, Below.refl _ _⟩
  · obtain rfl := Classical.not_not.1 hq
    have hox := chk_ok hc
    have hlx := form_len hox
    refine dr U 600 rfl trivial ?_
    refine cS rfl rfl rfl rfl (fun hq => ?_) (fun hq => ?_)
    · refine dr U 600 rfl trivial ?_
      exact ret Tryz.results10 rfl ⟨_, rfl, .inr (.inl ⟨hc, hq, rfl⟩), Below.refl _ _⟩
    · obtain ⟨k, rfl⟩ : ∃ k : Nat, n = k := ⟨n.toNat, by omega⟩
      refine dr U 600 rfl trivial ?_
      refine call (f := 39) rfl rfl cb39 (readN_calls x hox w) ?_
      rintro v w2 ⟨a2, c2, rfl, hr2, hB2⟩
      refine ⟨_, rfl, ?_⟩
      refine dr U 600 rfl trivial ?_
      refine call (f := 38) rfl rfl cb38 (power_calls (dval x) k (by omega) a2 c2 w2 hr2 hlx.1) ?_
      rintro v w3 ⟨v1, rfl, hred, hB3⟩
      refine ⟨_, rfl, ?_⟩
      have hB3' := bl_tr hB2 hB3 hB2.size
      by_cases hd : nDigits (dval x ^ k) ≤ 4000
      · rw [decide_eq_true hd]
        obtain ⟨a3, c3, rfl, hr3⟩ := hred hd
        refine dr U 600 rfl trivial ?_
        refine call (f := 40) rfl rfl cb40 (number_calls (dval x ^ k) a3 c3 w3 hr3 (Nat.le_trans (lim_le_nD _) (by omega))) ?_
        rintro v w4 ⟨hres, hB4⟩
        have hres' := hres
        obtain ⟨u1, u2, rfl⟩ := hres'.tup
        refine ⟨_, rfl, ?_⟩
        refine dr U 600 rfl trivial ?_
        exact ret Tryz.results10 rfl ⟨_, rfl, .inr (.inr ⟨hc, by omega, hres⟩), bl_tr hB3' hB4 hB3'.size⟩
      · rw [decide_eq_false hd]
        refine dr U 600 rfl trivial ?_
        exact ret Tryz.results10 rfl ⟨_, rfl, .inr (.inr ⟨hc, by omega, .inr ⟨by show 4000 < nDigits (dval x ^ k); omega, rfl⟩⟩), hB3'⟩
end Go.Proofs.YtnohojjjfconfaaGreatDoor
end
section
set_option linter.unusedSimpArgs false
set_option linter.unusedVariables false
set_option maxHeartbeats 1000000
namespace Go.Proofs.YtnohojjjfconfaaGreatDoor
open Go Go.Proofs Go.RowKit Go.Lib

theorem dec_small {u : Nat} (h : u < 10) : decDigits u = [UInt8.ofNat (48 + u)] := by rw [decDigits, dif_pos h]

/-- What FromInt returns. -/
def OutF (n : Int) (v : Value) : Prop := (n < 0 ∧ v = .tuple ⟨[.string ⟨⟨[]⟩⟩, .int .i64 2]⟩) ∨ (0 ≤ n ∧ v = .tuple ⟨[.string ⟨⟨decDigits n.toNat⟩⟩, .int .i64 0]⟩)
theorem refFromInt_calls (n : Int) (hn : n ≤ 9223372036854775807) (w : World) :
    Calls Tryz.prog 12 #[.int .i64 n] w (Ret fun v w' => OutF n v ∧ w = w') := by
  refine enter Tryz.func12 rfl Tryz.ntmps12 (Nat.le_of_ble_eq_true rfl) ?_
  refine dr U 600 rfl trivial ?_
  refine cS rfl rfl rfl rfl (fun hq => ?_) (fun hq => ?_)
  · refine dr U 600 rfl trivial ?_
    exact ret Tryz.results12 rfl ⟨_, rfl, .inl ⟨hq, rfl⟩, rfl⟩
  · obtain ⟨k, rfl⟩ : ∃ k : Nat, n = k := ⟨n.toNat, by omega⟩
    have hk19 := nD_le 19 k (by omega) (by omega)
    have hkl := decDigits_length k
    refine dr U 600 rfl trivial ?_
    refine loopR (fun l w' m => ∃ s : List UInt8, l = [(0, .int .i64 (m : Nat)), (4, .string ⟨⟨s⟩⟩)] ∧ decDigits k = decDigits m ++ s ∧ m ≤ k ∧ w = w') (m0 := k) ⟨[], rfl, by simp, Nat.le_refl _, rfl⟩ ⟨rfl, rfl, trivial⟩ ?_
    rintro l w1 m ⟨s, rfl, hs, hm, rfl⟩
    have hsl := congrArg List.length hs
    rw [List.length_append] at hsl
    refine dr U 600 rfl trivial ?_
    refine cS rfl rfl rfl rfl (fun hq => ?_) (fun hq => ?_)
    · have hbig := dec_big (u := m) (by omega)
      have hd := ofNat_d (k := m % 10) (by omega)
      have h1 : [UInt8.ofNat (48 + m % 10)].length = 1 := rfl
      refine dr U 600 rfl (by first | exact True.intro | (simp only [AllP, InR, List.nil_append, List.cons_append, and_true]; omega)) ?_
      refine rstr U (UInt8.ofNat (48 + m % 10)) rfl (by rw [hd]; omega) (by rw [hd]; omega) rfl rfl rfl rfl ?_
      refine dr U 600 rfl (by first | exact True.intro | (simp only [AllP, InR, List.nil_append, List.cons_append, and_true]; omega)) ?_
      refine rend _ (m / 10) ⟨UInt8.ofNat (48 + m % 10) :: s, rfl, by rw [hs, hbig]; simp, by omega, rfl⟩ (by omega) ⟨iv (by omega), rfl, trivial⟩
    · have hsm := dec_small (u := m) (by omega)
      have hd := ofNat_d (k := m) (by omega)
      have h1 : [UInt8.ofNat (48 + m)].length = 1 := rfl
      refine dr U 600 rfl (by first | exact True.intro | (simp only [AllP, InR, List.nil_append, List.cons_append, and_true]; omega)) ?_
      refine rstr U (UInt8.ofNat (48 + m)) rfl (by rw [hd]; omega) (by rw [hd]; omega) rfl rfl rfl rfl ?_
      refine dr U 600 rfl (by first | exact True.intro | (simp only [AllP, InR, List.nil_append, List.cons_append, and_true]; omega)) ?_
      refine ret Tryz.results12 rfl ⟨_, rfl, .inr ⟨by omega, ?_⟩, rfl⟩
      rw [Int.toNat_natCast, hs, hsm]; rfl

/-- What ToInt returns. -/
def OutT (x : List UInt8) (v : Value) : Prop := (∃ e, e ≠ 0 ∧ Chk x e ∧ v = .tuple ⟨[.int .i64 0, .int .i64 e]⟩) ∨ (Chk x 0 ∧ 9223372036854775807 < dval x ∧ v = .tuple ⟨[.int .i64 0, .int .i64 2]⟩) ∨ (Chk x 0 ∧ dval x ≤ 9223372036854775807 ∧ v = .tuple ⟨[.int .i64 (dval x : Nat), .int .i64 0]⟩)
theorem dval_take_le (x : List UInt8) (i : Nat) : dval (x.take i) ≤ dval x := by
  have h := dval_append (x.take i) (x.drop i)
  rw [List.take_append_drop] at h
  have := Nat.le_mul_of_pos_right (dval (x.take i)) (Nat.pow_pos (n := (x.drop i).length) (show 0 < 10 by omega))
  omega
theorem refToInt_calls (x : List UInt8) (hx : x.length ≤ 9223372036854775806) (w : World) :
    Calls Tryz.prog 31 #[.string ⟨⟨x⟩⟩] w (Ret fun v w' => OutT x v ∧ Below w.heap.size w w') := by
  refine enter Tryz.func31 rfl Tryz.ntmps31 (Nat.le_of_ble_eq_true rfl) ?_
  refine dr U 600 rfl trivial ?_
  refine call (f := 33) rfl rfl cb33 (refCheck_calls x hx w) ?_
  rintro v w1 ⟨⟨e, rfl, hc⟩, rfl⟩
  refine ⟨_, rfl, ?_⟩
  refine dr U 600 rfl trivial ?_
  refine cS rfl rfl rfl rfl (fun hq => ?_) (fun hq => ?_)
  · refine dr U 600 rfl trivial ?_
    exact ret Tryz.results31 rfl ⟨_, rfl, .inl ⟨e, hq, hc, rfl⟩, Below.refl _ _⟩
  · obtain rfl := Classical.not_not.1 hq
    have hox := chk_ok hc
    have hlit := lit_num (l := [57, 50, 50, 51, 51, 55, 50, 48, 51, 54, 56, 53, 52, 55, 55, 53, 56, 48, 55]) (by decide)
    have hlf := hlit.form (by decide)
    refine dr U 600 rfl trivial ?_
    refine call (f := 34) rfl rfl cb34 (refCmp_calls x _ hx (by decide) w) ?_
    rintro v w1 ⟨⟨e, hc2, rfl⟩, hB1⟩
    refine ⟨_, rfl, ?_⟩
    obtain rfl := chk2_zero hox ⟨hlf.1, hlf.2.1⟩ hc2
    rw [if_neg (by simp), show dval [57, 50, 50, 51, 51, 55, 50, 48, 51, 54, 56, 53, 52, 55, 55, 53, 56, 48, 55] = 9223372036854775807 by decide]
    refine cS rfl rfl rfl rfl (fun hq => ?_) (fun hq => ?_)
    · have hgt : 9223372036854775807 < dval x := by
        unfold cmpN at hq
        split at hq
        · omega
        · split at hq
          · assumption
          · omega
      refine dr U 600 rfl trivial ?_
      exact ret Tryz.results31 rfl ⟨_, rfl, .inr (.inl ⟨hc, hgt, rfl⟩), hB1⟩
    · have hle : dval x ≤ 9223372036854775807 := by
        rcases Nat.lt_or_ge 9223372036854775807 (dval x) with h | h
        · exfalso; apply hq; unfold cmpN; rw [if_neg (by omega), if_pos h]; omega
        · exact h
      have hd := hox.1.2.2
      refine dr U 600 rfl trivial ?_
      refine loopR (fun l w' m => ∃ i : Nat, l = [(0, .string ⟨⟨x⟩⟩), (5, .int .i64 (dval (x.take i) : Nat)), (6, .int .i64 (i : Nat))] ∧ i ≤ x.length ∧ w1 = w' ∧ m = x.length - i)
        (l0 := [(0, .string ⟨⟨x⟩⟩), (5, .int .i64 (dval (x.take 0) : Nat)), (6, .int .i64 ((0 : Nat) : Nat))]) ⟨0, rfl, by omega, rfl, rfl⟩ ⟨rfl, rfl, rfl, trivial⟩ ?_
      rintro l w2 m ⟨i, rfl, hi, rfl, rfl⟩
      refine dr U 600 rfl trivial ?_
      refine cS rfl rfl rfl rfl (fun hq => ?_) (fun hq => ?_)
      · have hil : i < x.length := by omega
        have hgd : x.getD i 0 = x[i] := by simp [List.getD, hil]
        have hdg : isD x[i] := hd _ (List.getElem_mem hil)
        have hds : dval (x.take (i + 1)) = dval (x.take i) * 10 + (x[i].toNat - 48) := by rw [List.take_succ_eq_append_getElem hil, dval_snoc]
        have hdl := dval_take_le x (i + 1)
        have hgoal : ∀ z, dval (x.take (i + 1)) = z → z ≤ 9223372036854775807 := fun z h => by omega
        generalize dval (x.take i) = n at *
        unfold isD at hdg
        refine dr U 600 rfl ?_ ?_
        · simp only [AllP, InR, List.nil_append, List.cons_append, and_true, Int.toNat_natCast, hgd]
          omega
        refine rend [(0, .string ⟨⟨x⟩⟩), (5, .int .i64 (dval (x.take (i + 1)) : Nat)), (6, .int .i64 ((i + 1 : Nat) : Nat))] _ ⟨i + 1, rfl, by omega, rfl, rfl⟩ (by omega) ⟨rfl, ?_, iv (by omega), trivial⟩
        refine iv ?_
        rw [hds, Int.toNat_natCast, hgd]
        omega
      · obtain rfl : i = x.length := by omega
        rw [List.take_length]
        refine dr U 600 rfl trivial ?_
        exact ret Tryz.results31 rfl ⟨_, rfl, .inr (.inr ⟨hc, hle, rfl⟩), hB1⟩

/-- The number of binary digits. -/
def blen (n : Nat) : Nat := if h : n = 0 then 0 else blen (n / 2) + 1
termination_by n
theorem blen_zero : blen 0 = 0 := by rw [blen]; simp
theorem blen_pos {n : Nat} (h : n ≠ 0) : blen n = blen (n / 2) + 1 := by rw [blen, dif_neg h]
theorem blen_le : ∀ (k n : Nat), n < 2 ^ k → blen n ≤ k
  | 0, n, h => by
    have : n = 0 := by simpa using h
    rw [this, blen_zero]; omega
  | k + 1, n, h => by
    by_cases h0 : n = 0
    · rw [h0, blen_zero]; omega
    · rw [blen_pos h0]
      have := blen_le k (n / 2) (by rw [Nat.pow_succ] at h; omega)
      omega
theorem blen_shift : ∀ (k n : Nat), 2 ^ k ≤ n → blen n = blen (n / 2 ^ k) + k
  | 0, n, _ => by simp
  | k + 1, n, h => by
    have h1 : 2 ^ k ≤ n / 2 := by rw [Nat.pow_succ] at h; omega
    have h0 : 0 < 2 ^ k := Nat.pow_pos (by omega)
    rw [blen_pos (by omega), blen_shift k (n / 2) h1, Nat.div_div_eq_div_mul, show 2 * 2 ^ k = 2 ^ (k + 1) by rw [Nat.pow_succ, Nat.mul_comm]]
    omega
theorem blen_digits {n d : Nat} (h : nDigits n ≤ d) : blen n ≤ 4 * d := by
  have h1 := Nat.lt_of_lt_of_le (lt_pow_nDigits n) (Nat.pow_le_pow_right (n := 10) (by omega) h)
  have h2 : 10 ^ d ≤ 16 ^ d := Nat.pow_le_pow_left (by omega) d
  refine blen_le _ _ ?_
  rw [Nat.pow_mul]
  exact Nat.lt_of_lt_of_le h1 h2

/-- What Bits returns. -/
def OutB (x : List UInt8) (v : Value) : Prop := (∃ e, e ≠ 0 ∧ Chk x e ∧ v = .tuple ⟨[.int .i64 0, .int .i64 e]⟩) ∨ (Chk x 0 ∧ v = .tuple ⟨[.int .i64 (blen (dval x) : Nat), .int .i64 0]⟩)
theorem refBits_calls (x : List UInt8) (hx : x.length ≤ 9223372036854775806) (w : World) :
    Calls Tryz.prog 32 #[.string ⟨⟨x⟩⟩] w (Ret fun v w' => OutB x v ∧ Below w.heap.size w w') := by
  refine enter Tryz.func32 rfl Tryz.ntmps32 (Nat.le_of_ble_eq_true rfl) ?_
  refine dr U 600 rfl trivial ?_
  refine call (f := 33) rfl rfl cb33 (refCheck_calls x hx w) ?_
  rintro v w1 ⟨⟨e, rfl, hc⟩, rfl⟩
  refine ⟨_, rfl, ?_⟩
  refine dr U 600 rfl trivial ?_
  refine cS rfl rfl rfl rfl (fun hq => ?_) (fun hq => ?_)
  · refine dr U 600 rfl trivial ?_
    exact ret Tryz.results32 rfl ⟨_, rfl, .inl ⟨e, hq, hc, rfl⟩, Below.refl _ _⟩
  · obtain rfl := Classical.not_not.1 hq
    have hox := chk_ok hc
    have hlx := form_len hox
    have hbl := blen_digits hlx.1
    refine dr U 600 rfl trivial ?_
    refine call (f := 39) rfl rfl cb39 (readN_calls x hox w) ?_
    rintro v w1 ⟨a1, c1, rfl, hr1, hB1⟩
    refine ⟨_, rfl, ?_⟩
    refine dr U 600 rfl trivial ?_
    refine loopR (fun l w' m => ∃ (k : Nat) (a2 : Option Addr) (c2 : Nat), l = [(5, .int .i64 (k : Nat)), (6, .slice a2 (lim m).length c2)] ∧ k + blen m = blen (dval x) ∧ m ≤ dval x ∧ RdI w' a2 c2 (lim m) ∧ Below w.heap.size w w') (m0 := dval x) ⟨0, a1, c1, rfl, by omega, Nat.le_refl _, hr1, hB1⟩ ⟨rfl, rfl, trivial⟩ ?_
    rintro l w2 m ⟨k, a2, c2, rfl, hk, hm, hr2, hB2⟩
    have hml := lim_len_mono hm
    refine dr U 600 rfl trivial ?_
    refine cS rfl rfl rfl rfl (fun hq => ?_) (fun hq => ?_)
    · have h0 : m ≠ 0 := fun e => by rw [e, lim_zero] at hq; simp at hq
      have hb := blen_pos h0
      refine dr U 600 rfl trivial ?_
      refine call (f := 69) rfl rfl cb69 (short_calls m 2 (by omega) (by omega) a2 c2 w2 hr2 (by omega)) ?_
      rintro v w3 ⟨v1, rfl, hown⟩
      obtain ⟨a3, c3, rfl, ho3, hB3⟩ := hown
      refine ⟨_, rfl, ?_⟩
      refine dr U 600 rfl (by first | exact True.intro | (simp only [AllP, InR, List.nil_append, List.cons_append, and_true]; omega)) ?_
      refine rend _ (m / 2) ⟨k + 1, a3, c3, rfl, by omega, by omega, ownI_rd ho3, bl_tr hB2 hB3 hB2.size⟩ (by omega) ⟨iv (by omega), rfl, trivial⟩
    · have h0 : m = 0 := lim_eq_nil.1 (List.length_eq_zero_iff.1 (by omega))
      subst h0
      rw [blen_zero] at hk
      refine dr U 600 rfl trivial ?_
      refine ret Tryz.results32 rfl ⟨_, rfl, .inr ⟨hc, ?_⟩, hB2⟩
      rw [← hk]; rfl
end Go.Proofs.YtnohojjjfconfaaGreatDoor
end
