/-
  Walks of the reference: Write, number, both, Add, Sub, Mul, DivMod, Gcd, Cmp.
  Conditions: fewer than 2^36 limbs; texts are no longer than an int can tell.

  Walks of the reference: number, both, Add, Sub, Mul, DivMod, Gcd, Cmp.
  Conditions: texts are no longer than an int can tell.

  Walks of the reference: Power, Pow, FromInt, ToInt, Bits.
  Conditions: texts are no longer than an int can tell.

  Walks of the reference: FromInt, ToInt, Bits.
  Conditions: texts are no longer than an int can tell.
-/
import Derived.Test.YtabplbmbnakalaaGreatDoorYRE
import Derived.Test.YtabplbmbnakalaaGreatDoorYLives
section
set_option linter.unusedSimpArgs false
set_option linter.unusedVariables false
set_option maxHeartbeats 1000000
namespace Go.Proofs.YtabplbmbnakalaaGreatDoor
open Go Go.Proofs Go.RowKit Go.Lib

section
variable {P : Program} (U : Tys P) {ro : Option Nat} {n : Nat} {ds : List Deferred} {Q : PT} {l l' : Fr} {w w' : World} {arr : Array Oper} {r : List Oper} {k : List It}
/-- Bytes to a string, wherever they lie. -/
theorem bstrS {d : Nat} {t t2 e ty : TypeId} {x : Operand} {ps : String} {af : Array Edge} {g : Option (Nat × Bool)} {a : Option Addr} {c m : Nat} {bs : List UInt8}
    (hx : ev l x = some (.slice a m c)) (ht : U.tb.u t = some (.slice e)) (he : U.tb.u e = some (.int .u8)) (h2 : U.tb.u t2 = some .string) (hg : gd arr l g = some true) (hd : Nat.blt d n = true)
    (hm : bs.length = m) (hne : bs ≠ []) (hc : Sl w a (byteCells bs))
    (t' : T P ro n ds Q ((d, .string ⟨⟨bs⟩⟩) :: l) w (.ops arr r) k) : T P ro n ds Q l w (.ops arr (⟨some d, .convert t t2 x, ty, ps, af, g⟩ :: r)) k := by
  subst hm
  have hb : ∀ j (hj : j < bs.length), (byteCells bs)[j]? = some (.int .u8 (bs[j].toNat : Int)) := fun j hj => by simp [byteCells, hj]
  obtain ⟨g0, off, rfl, _⟩ := hc 0 _ (hb 0 (List.length_pos_iff.2 hne))
  have := run_convert_bytes_back (P := P) w t t2 e ⟨g0, off, none⟩ c bs (U.hu _ _ ht) (U.hu _ _ he) (U.hu _ _ h2) (fun j hj => by
    obtain ⟨g1, o1, e1, hc1⟩ := hc j _ (hb j hj)
    cases e1
    rw [add_plain]; exact hc1)
  exact op1 (w' := w) (by intro c h; cases h) hg (put1_some hd) (fun a hf => by simp [execOp, hf.ev hx, this]) t'
end

theorem rep_u8 (k : Nat) : List.replicate k (Value.int .u8 0) = byteCells (List.replicate k 0) := by simp [byteCells]
theorem wr_set (P S R : List UInt8) (i q : Nat) (c : UInt8) (hP : P.length = i) : (byteCells (P ++ (List.replicate (q + 1) 0 ++ (S ++ R)))).set (i + q) (.int .u8 (c.toNat : Int)) = byteCells (P ++ (List.replicate q 0 ++ (c :: S ++ R))) := by
  unfold byteCells
  rw [show (Value.int .u8 (c.toNat : Int)) = (fun b : UInt8 => Value.int .u8 (b.toNat : Int)) c from rfl, ← List.map_set]
  congr 1
  subst hP
  rw [List.set_append_right _ _ (by omega), show P.length + q - P.length = q by omega, List.replicate_succ', List.append_assoc, List.set_append_right _ _ (by simp)]
  simp
theorem dval_cons48 (t : List UInt8) : dval (48 :: t) = dval t := by unfold dval; rw [dvalA_cons]; rfl
theorem dval_cons (c : UInt8) (t : List UInt8) : dval (c :: t) = (c.toNat - 48) * 10 ^ t.length + dval t := by
  unfold dval; rw [dvalA_cons, dvalA_eq]; simp [dval]
theorem byteCells_len (l : List UInt8) : (byteCells l).length = l.length := by simp [byteCells]

theorem write_ref (n : Nat) (a : Option Addr) (c : Nat) (w : World) (ha : RdI w a c (lim n)) (hl : (lim n).length ≤ 68719476736) :
    Calls Tryz.prog 76 #[.slice a (lim n).length c] w (Ret fun v w' => v = .string ⟨⟨decDigits n⟩⟩ ∧ Below w.heap.size w w') := by
  have hxl := lim_Lm n
  have hvn := val_lim n
  have hnil := @lim_eq_nil n
  generalize hxs : lim n = xs at *
  refine enter Tryz.func76 rfl Tryz.ntmps76 (Nat.le_of_ble_eq_true rfl) ?_
  refine dr U 600 rfl trivial ?_
  refine cS rfl rfl rfl rfl (fun hq => ?_) (fun hq => ?_)
  · have h0 : n = 0 := hnil.1 (List.length_eq_zero_iff.1 (by omega))
    refine dr U 600 rfl trivial ?_
    refine ret Tryz.results76 rfl ⟨_, rfl, ?_, Below.refl _ _⟩
    rw [h0]
    show Value.string _ = Value.string _
    rw [decDigits, dif_pos (by omega)]; rfl
  · have hL : 0 < xs.length := by omega
    refine dr U 600 rfl (by first | exact True.intro | (simp only [AllP, InR, List.nil_append, List.cons_append, and_true]; omega)) ?_
    refine mkn U rfl rfl rfl rfl rfl rfl rfl (9 * xs.length) (by omega) (by omega) (by omega) (by omega) w.heap.size (Nat.le_refl _) ?_
    intro a0 w0 ho0 hg0
    rw [rep_u8] at ho0
    refine dr U 600 rfl trivial ?_
    refine loopR (fun l w' m => ∃ (i : Nat) (P : List UInt8), l = [(0, .slice a xs.length c), (3, .slice a0 (9 * xs.length) (9 * xs.length)), (4, .int .i64 (i : Nat))] ∧ i ≤ xs.length ∧ P.length = 9 * i ∧ Dgs P ∧ dval P = val (xs.drop (xs.length - i)) ∧
        w'.ownsRow w.heap.size 5 1 (.slice a0 (9 * xs.length) (9 * xs.length)) (9 * xs.length) (byteCells (P ++ List.replicate (9 * xs.length - 9 * i) 0)) ∧ Below w.heap.size w w' ∧ m = xs.length - i)
      ⟨0, [], rfl, by omega, rfl, fun c h => (by cases h), by simp [val, dval, dvalA_nil], by simpa using ho0, (Below.refl _ _).grown hg0 (Nat.le_refl _) (fun k e => by cases e), rfl⟩ ⟨rfl, rfl, rfl, trivial⟩ ?_
    rintro l w1 m ⟨i, P, rfl, hi, hPl, hPd, hPv, ho, hB, rfl⟩
    refine dr U 600 rfl trivial ?_
    refine cS rfl rfl rfl rfl (fun hq => ?_) (fun hq => ?_)
    · have hi' : i < xs.length := by omega
      have hx1 := hxl.getD (xs.length - 1 - i)
      have hdr : val (xs.drop (xs.length - (i + 1))) = xs.getD (xs.length - 1 - i) 0 + 1000000000 * val (xs.drop (xs.length - i)) := by
        rw [show xs.length - (i + 1) = xs.length - 1 - i by omega, List.drop_eq_getElem_cons (by omega), val_cons, show xs.length - 1 - i + 1 = xs.length - i by omega]
        simp [List.getD, show xs.length - 1 - i < xs.length by omega]
      have hgx := getI (xs := xs) (j := xs.length - 1 - i) (by omega)
      generalize xs.getD (xs.length - 1 - i) 0 = x at *
      refine dr U 600 rfl (by first | exact True.intro | (simp only [AllP, InR, List.nil_append, List.cons_append, and_true]; omega)) ?_
      refine il U rfl rfl rfl rfl rfl rfl rfl (fun _ => rfl) rfl (xs.length - 1 - i) (by omega) (by omega) (ha.below hB).1 hgx ?_
      refine dr U 600 rfl trivial ?_
      refine loopR (fun l w' m => ∃ (j : Nat) (S : List UInt8), l = [(0, .slice a xs.length c), (3, .slice a0 (9 * xs.length) (9 * xs.length)), (4, .int .i64 (i : Nat)), (5, .int .i64 ((x / 10 ^ j : Nat) : Nat)), (6, .int .i64 (8 - (j : Int)))] ∧ j ≤ 9 ∧ S.length = j ∧ Dgs S ∧ dval S = x % 10 ^ j ∧
          w'.ownsRow w.heap.size 5 1 (.slice a0 (9 * xs.length) (9 * xs.length)) (9 * xs.length) (byteCells (P ++ (List.replicate (9 - j) 0 ++ (S ++ List.replicate (9 * xs.length - 9 * i - 9) 0)))) ∧ Below w.heap.size w w' ∧ m = 9 - j)
        (l0 := [(0, .slice a xs.length c), (3, .slice a0 (9 * xs.length) (9 * xs.length)), (4, .int .i64 (i : Nat)), (5, .int .i64 ((x / 10 ^ 0 : Nat) : Nat)), (6, .int .i64 (8 - ((0 : Nat) : Int)))])
        ⟨0, [], rfl, by omega, rfl, fun c h => (by cases h), by simp [dval, dvalA_nil, Nat.mod_one], ?_, hB, rfl⟩ ⟨rfl, rfl, rfl, iv (by simp), rfl, trivial⟩ ?_
      · rw [show 9 * xs.length - 9 * i = 9 + (9 * xs.length - 9 * i - 9) by omega, ← List.replicate_append_replicate] at ho
        simpa using ho
      clear ho hB
      rintro l w2 m ⟨j, S, rfl, hj, hSl, hSd, hSv, ho, hB, rfl⟩
      refine dr U 600 rfl trivial ?_
      refine cS rfl rfl rfl rfl (fun hq => ?_) (fun hq => ?_)
      · have hj' : j < 9 := by omega
        have hms : x % 10 ^ (j + 1) = x % 10 ^ j + 10 ^ j * (x / 10 ^ j % 10) := Nat.mod_pow_succ
        have hds : x / 10 ^ (j + 1) = x / 10 ^ j / 10 := by rw [Nat.pow_succ, Nat.div_div_eq_div_mul]
        have hxj : x / 10 ^ j ≤ x := Nat.div_le_self _ _
        generalize x / 10 ^ j = n1 at *
        have hd10 := ofNat_d (k := n1 % 10) (by omega)
        generalize hcc : UInt8.ofNat (48 + n1 % 10) = ch at *
        obtain ⟨q, hq9⟩ : ∃ q, 9 - j = q + 1 := ⟨9 - j - 1, by omega⟩
        rw [hq9] at ho
        refine dr U 600 rfl (by first | exact True.intro | (simp only [AllP, InR, List.nil_append, List.cons_append, and_true]; omega)) ?_
        refine is U (v := (.int .u8 (ch.toNat : Int))) rfl rfl rfl rfl rfl rfl rfl (fun _ => rfl) (fun _ => iv (by omega)) (fun _ => rfl) rfl rfl (9 * i + q) (by omega) (by omega) ho ?_
        intro p0 w3 ho3 hg3 _
        rw [wr_set P S _ _ q ch hPl] at ho3
        refine dr U 600 rfl (by first | exact True.intro | (simp only [AllP, InR, List.nil_append, List.cons_append, and_true]; omega)) ?_
        refine rend [(0, .slice a xs.length c), (3, .slice a0 (9 * xs.length) (9 * xs.length)), (4, .int .i64 (i : Nat)), (5, .int .i64 ((x / 10 ^ (j + 1) : Nat) : Nat)), (6, .int .i64 (8 - ((j + 1 : Nat) : Int)))] _
          ⟨j + 1, ch :: S, rfl, by omega, by simp [hSl], fun c hc => ?_, ?_, ?_, hB.grown hg3 hB.size (fun g hg => (own_block ho g hg).1), rfl⟩ (by omega) ⟨rfl, rfl, rfl, iv (by rw [hds]; omega), iv (by omega), trivial⟩
        · rcases List.mem_cons.1 hc with h | h
          · subst h; unfold isD; omega
          · exact hSd c h
        · rw [dval_cons, hd10, hSl, hms, hSv, Nat.mul_comm (10 ^ j)]
          rw [show 48 + n1 % 10 - 48 = n1 % 10 by omega]; omega
        · rw [show 9 - (j + 1) = q by omega]; exact ho3
      · obtain rfl : j = 9 := by omega
        refine dr U 600 rfl (by first | exact True.intro | (simp only [AllP, InR, List.nil_append, List.cons_append, and_true]; omega)) ?_
        refine rend _ _ ⟨i + 1, P ++ S, rfl, by omega, by simp [hPl, hSl]; omega, fun c hc => ?_, ?_, ?_, hB, rfl⟩ (by omega) ⟨rfl, rfl, iv (by omega), trivial⟩
        · rcases List.mem_append.1 hc with h | h
          · exact hPd c h
          · exact hSd c h
        · rw [dval_append, hSl, hSv, Nat.mod_eq_of_lt (by omega), hPv, hdr]; omega
        · rw [show 9 * xs.length - 9 * (i + 1) = 9 * xs.length - 9 * i - 9 by omega]
          simpa using ho
    · obtain rfl : i = xs.length := by omega
      rw [Nat.sub_self, List.drop_zero, hvn] at hPv
      rw [Nat.sub_self] at ho
      simp only [List.replicate_zero, List.append_nil] at ho
      have hsl := own_sl ho
      refine dr U 600 rfl (by first | exact True.intro | (simp only [AllP, InR, List.nil_append, List.cons_append, and_true]; omega)) ?_
      refine loopR (fun l w' m => ∃ (B : List UInt8) (a1 : Option Addr) (c1 : Nat), l = [(3, .slice a1 B.length c1)] ∧ B ≠ [] ∧ Dgs B ∧ dval B = n ∧ Sl w1 a1 (byteCells B) ∧ B.length ≤ c1 ∧ B.length ≤ 9 * xs.length ∧ w' = w1 ∧ m = B.length)
        (l0 := [(3, .slice a0 P.length (9 * xs.length))]) ⟨P, a0, 9 * xs.length, rfl, fun e => by rw [e] at hPl; simp at hPl; omega, hPd, hPv, hsl, by omega, by omega, rfl, rfl⟩ ⟨by rw [hPl]; rfl, trivial⟩ ?_
      rintro l w2 m ⟨B, a1, c1, rfl, hne, hBd, hBv, hS, hBc, hBL, rfl, rfl⟩
      have hpos := List.length_pos_iff.2 hne
      refine dr U 600 rfl trivial ?_
      refine cS rfl rfl rfl rfl (fun hq => ?_) (fun hq => ?_)
      · have hlen := hq
        obtain ⟨b0, t, rfl⟩ : ∃ b0 t, B = b0 :: t := by
          cases B with
          | nil => exact absurd rfl hne
          | cons b t => exact ⟨b, t, rfl⟩
        refine dr U 600 rfl trivial ?_
        refine il U rfl rfl rfl rfl rfl rfl rfl (fun _ => rfl) rfl 0 (by omega) (by simp) hS (show (byteCells (b0 :: t))[0]? = some (.int .u8 (b0.toNat : Int)) by simp [byteCells]) ?_
        refine dr U 600 rfl trivial ?_
        refine cS rfl rfl rfl rfl (fun hq => ?_) (fun hq => ?_)
        · have hb0 : b0 = 48 := UInt8.toNat_inj.1 (by simp; omega)
          subst hb0
          have hS1 := hS.drop 1 c1 (by rw [byteCells_len]; exact hBc)
          refine dr U 600 rfl (by first | exact True.intro | (simp only [AllP, InR, List.nil_append, List.cons_append, and_true]; omega)) ?_
          refine rend _ _ ⟨t, sadd a1 c1 1 1, c1 - 1, rfl, fun e => by rw [e] at hlen; simp at hlen, fun c hc => hBd c (List.mem_cons_of_mem _ hc), by rw [← hBv, dval_cons48], by simpa [byteCells] using hS1, by simp at hBc; omega, by simp at hBL; omega, rfl, rfl⟩ (by simp) ⟨?_, trivial⟩
          rfl
        · refine dr U 600 rfl trivial ?_
          refine bstrS U rfl rfl rfl rfl rfl rfl rfl hne hS ?_
          refine dr U 600 rfl trivial ?_
          refine ret Tryz.results76 rfl ⟨_, rfl, ?_, hB⟩
          rw [← hBv, ← dec_of hBd hne (.inr (fun e => ?_))]
          · rfl
          · have : b0 = 48 := Option.some.inj e
            subst this
            exact hq rfl
      · refine dr U 600 rfl trivial ?_
        refine bstrS U rfl rfl rfl rfl rfl rfl rfl hne hS ?_
        refine dr U 600 rfl trivial ?_
        refine ret Tryz.results76 rfl ⟨_, rfl, ?_, hB⟩
        rw [← hBv, ← dec_of hBd hne ?_]
        · rfl
        · obtain ⟨b0, hb0⟩ := List.length_eq_one_iff.1 (show B.length = 1 by omega)
          subst hb0
          by_cases h48 : b0 = 48
          · exact .inl (by rw [h48])
          · exact .inr (fun e => h48 (Option.some.inj e))
end Go.Proofs.YtabplbmbnakalaaGreatDoor
end
section
set_option linter.unusedSimpArgs false
set_option linter.unusedVariables false
set_option maxHeartbeats 1000000
namespace Go.Proofs.YtabplbmbnakalaaGreatDoor
open Go Go.Proofs Go.RowKit Go.Lib

/-- A text's limbs as the reference reads them. -/
theorem readN_calls (x : List UInt8) (h : Form x ∧ x.length ≤ 4000) (w : World) :
    Calls Tryz.prog 70 #[.string ⟨⟨x⟩⟩] w (Ret fun v w' => ∃ a c, v = .slice a (lim (dval x)).length c ∧ RdI w' a c (lim (dval x)) ∧ Below w.heap.size w w') := by
  refine (read_calls x h.1.2.2 (by omega) w).mono ?_
  rintro e w' ⟨v, rfl, h⟩
  exact ⟨v, rfl, h.rd⟩


theorem form_zero {y : List UInt8} (h : Form y) : y = [48] ↔ dval y = 0 := by
  constructor
  · rintro rfl; rfl
  · intro h0
    rw [dec_of h.2.2 h.1 h.2.1, h0, decDigits, dif_pos (by omega)]; rfl
end Go.Proofs.YtabplbmbnakalaaGreatDoor
end
section
set_option linter.unusedSimpArgs false
set_option linter.unusedVariables false
set_option maxHeartbeats 1000000
namespace Go.Proofs.YtabplbmbnakalaaGreatDoor
open Go Go.Proofs Go.RowKit Go.Lib

section
variable {P : Program} (U : Tys P) {ro : Option Nat} {n : Nat} {ds : List Deferred} {Q : PT} {l l' : Fr} {w w' : World} {arr : Array Oper} {r : List Oper} {k : List It}
theorem and1i {d : Nat} {t t2 ty : TypeId} {x y : Operand} {ps : String} {af : Array Edge} {g : Option (Nat × Bool)} (m : Nat) (hx : ev l x = some (.int .i64 (m : Nat))) (hy : ev l y = some (.int .i64 1)) (hm : m < 9223372036854775808) (hg : gd arr l g = some true) (hd : Nat.blt d n = true)
    (t' : T P ro n ds Q ((d, .int .i64 ((m % 2 : Nat) : Int)) :: l) w (.ops arr r) k) : T P ro n ds Q l w (.ops arr (⟨some d, .binOp .and t x y t2, ty, ps, af, g⟩ :: r)) k := by
  have h1 : (BitVec.ofInt 64 (m : Int) &&& BitVec.ofInt 64 1).toNat = m % 2 := by
    rw [BitVec.toNat_and]
    have h2 : (BitVec.ofInt 64 (m : Int)).toNat = m := by simp [BitVec.toNat_ofInt]; omega
    have h3 : (BitVec.ofInt 64 1).toNat = 1 := by decide
    rw [h2, h3, Nat.and_one_is_mod]
  have h4 : IntKind.i64.wrap (((m % 2 : Nat) : Int)) = ((m % 2 : Nat) : Int) := wrap_in (by simp only [InR]; omega)
  refine op1 (w' := w) (v := .int .i64 ((m % 2 : Nat) : Int)) (by intro c h; cases h) hg (by simp only [put1, hd]) (fun a hf => ?_) t'
  have h5 : (binOp .and t (.int .i64 (m : Nat)) (.int .i64 1)).run P w = .ok (.int .i64 ((m % 2 : Nat) : Int)) w := by
    simp only [binOp_and, Op.intBits]
    show (pure _ : Sem Value).run P w = _
    simp only [Sem.run_pure]
    show Result.ok (Value.int .i64 (IntKind.i64.wrap ((BitVec.ofInt 64 (m : Int) &&& BitVec.ofInt 64 1).toNat : Int))) w = _
    rw [h1, h4]
  simp [execOp, hf.ev hx, hf.ev hy, eqGuard, h5]

theorem shr1i {d : Nat} {t t2 ty : TypeId} {x y : Operand} {ps : String} {af : Array Edge} {g : Option (Nat × Bool)} {kk : IntKind} (m s : Nat) (hx : ev l x = some (.int .i64 (m : Nat))) (hy : ev l y = some (.int kk (s : Nat))) (hs : s ≤ 64) (hg : gd arr l g = some true) (hd : Nat.blt d n = true)
    (t' : T P ro n ds Q ((d, .int .i64 ((m / 2 ^ s : Nat) : Int)) :: l) w (.ops arr r) k) : T P ro n ds Q l w (.ops arr (⟨some d, .binOp .shr t x y t2, ty, ps, af, g⟩ :: r)) k := by
  refine op1 (w' := w) (v := .int .i64 ((m / 2 ^ s : Nat) : Int)) (by intro c h; cases h) hg (by simp only [put1, hd]) (fun a hf => ?_) t'
  have h5 : (binOp .shr t (.int .i64 (m : Nat)) (.int kk (s : Nat))).run P w = .ok (.int .i64 ((m / 2 ^ s : Nat) : Int)) w := by
    simp only [binOp, Op.shift]
    rw [if_neg (by omega)]
    have hmin : min ((s : Nat) : Int).toNat IntKind.i64.bits = s := by
      show min ((s : Nat) : Int).toNat 64 = s
      rw [Int.toNat_natCast]; omega
    rw [hmin]
    simp only [Sem.run_pure]
    congr 2
    rw [show ((2 : Int) ^ s) = ((2 ^ s : Nat) : Int) by simp, Int.fdiv_eq_ediv_of_nonneg _ (Int.natCast_nonneg _)]
    rfl
  simp [execOp, hf.ev hx, hf.ev hy, eqGuard, h5]

/-- A rune of ASCII as a string. -/
theorem rstr {d : Nat} {t t2 ty : TypeId} {x : Operand} {ps : String} {af : Array Edge} {g : Option (Nat × Bool)} {kk : IntKind} {z : Int} (c : UInt8) (hx : ev l x = some (.int kk z)) (hz : z = (c.toNat : Int)) (hc : c.toNat < 128) {u : TypeDesc} (hs : U.tb.u t = some u) (h2 : U.tb.u t2 = some .string) (hg : gd arr l g = some true) (hd : Nat.blt d n = true)
    (t' : T P ro n ds Q ((d, str [c]) :: l) w (.ops arr r) k) : T P ro n ds Q l w (.ops arr (⟨some d, .convert t t2 x, ty, ps, af, g⟩ :: r)) k := by
  subst hz
  have h1 := run_convert_int_string (P := P) w t t2 kk (c.toNat : Int) (by rw [U.hu _ _ hs]; rfl) (U.hu _ _ h2)
  have h2 : Utf8.encode (c.toNat : Int) = ⟨⟨[c]⟩⟩ := by
    unfold Utf8.encode
    have hv : Utf8.valid (c.toNat : Int) = true := by unfold Utf8.valid; simp; omega
    simp [hv, hc]
  rw [h2] at h1
  exact op1 (w' := w) (by intro c h; cases h) hg (put1_some hd) (fun a hf => by simp [execOp, hf.ev hx, h1, str]) t'
end

theorem half_pow (n j : Nat) : n / 2 ^ j = 2 * (n / 2 ^ (j + 1)) + n / 2 ^ j % 2 := by
  rw [Nat.pow_succ, ← Nat.div_div_eq_div_mul]; omega
theorem pow_half (p n j : Nat) : p ^ (n / 2 ^ j) = p ^ (n / 2 ^ (j + 1)) * p ^ (n / 2 ^ (j + 1)) * p ^ (n / 2 ^ j % 2) := by
  conv => lhs; rw [half_pow n j]
  rw [Nat.pow_add, Nat.two_mul, Nat.pow_add]
theorem pow_low {p n j : Nat} (hp : 1 ≤ p) : p ^ (n / 2 ^ j) ≤ p ^ n := Nat.pow_le_pow_right hp (Nat.div_le_self _ _)
theorem pow_big {p n j : Nat} (hp : 1 ≤ p) (h : 4000 < nDigits (p ^ (n / 2 ^ j))) : ¬ nDigits (p ^ n) ≤ 4000 := by
  have := nD_mono (pow_low (n := n) (j := j) hp); omega


theorem power_calls (p n : Nat) (hn : n < 9223372036854775808) (a : Option Addr) (c : Nat) (w : World) (ha : RdI w a c (lim p)) (hp : nDigits p ≤ 4000) :
    Calls Tryz.prog 44 #[.slice a (lim p).length c, .int .i64 (n : Nat)] w
      (Ret fun v w' => ∃ v1, v = .tuple ⟨[v1, .bool (decide (nDigits (p ^ n) ≤ 4000))]⟩ ∧ (nDigits (p ^ n) ≤ 4000 → RedI w' v1 (lim (p ^ n))) ∧ Below w.heap.size w w') := by
  have hd1 : nDigits 1 = 1 := nDigits_small (by omega)
  have hpl := Nat.le_trans (lim_le_nD p) hp
  refine enter Tryz.func44 rfl Tryz.ntmps44 (Nat.le_of_ble_eq_true rfl) ?_
  refine dr U 600 rfl trivial ?_
  refine bs1 U (v := i64n 1) rfl rfl rfl rfl rfl rfl rfl ?_
  intro w1 hk1 hs1 hg1
  have hB1 : Below w.heap.size w w1 := (Below.refl _ _).grown hg1 (Nat.le_refl _) (fun k e => by cases e)
  have ho1 : RdI w1 (some ⟨w.heap.size, 0, none⟩) 1 (lim 1) := by rw [lim_one]; exact ⟨by simpa using hk1.sl 0, by simp, fun g hg => by simp [ab] at hg; omega⟩
  have hl1 : (lim 1).length = 1 := by rw [lim_one]; rfl
  have ha1 := ha.below hB1
  refine dr U 600 rfl trivial ?_
  refine cS rfl rfl rfl rfl (fun hq => ?_) (fun hq => ?_)
  · have hn0 : n = 0 := by omega
    subst hn0
    refine dr U 600 rfl trivial ?_
    refine cT rfl rfl rfl rfl ?_
    refine dr U 600 rfl trivial ?_
    refine ret Tryz.results44 rfl ⟨_, rfl, .slice (some ⟨w.heap.size, 0, none⟩) 1 1, by rw [Nat.pow_zero, hd1]; rfl, fun _ => ⟨some ⟨w.heap.size, 0, none⟩, 1, by rw [Nat.pow_zero, hl1], by rw [Nat.pow_zero]; exact ho1⟩, hB1⟩
  · have hn0 : n ≠ 0 := by omega
    refine dr U 600 rfl trivial ?_
    have hord := order_calls p 1 a (some ⟨w.heap.size, 0, none⟩) c 1 w1 ha1 ho1 (by omega) (by omega)
    rw [hl1] at hord
    refine call (f := 64) rfl rfl cb64 hord ?_
    rintro v w2 ⟨rfl, hB2⟩
    refine ⟨_, rfl, ?_⟩
    have hB2' := bl_tr hB1 hB2 hB1.size
    have ha2 := ha1.below hB2
    have ho2 := ho1.below hB2
    refine cS rfl rfl rfl rfl (fun hq => ?_) (fun hq => ?_)
    · have hp1 : p ≤ 1 := by
        rcases Nat.lt_or_ge 1 p with h | h
        · unfold cmpN at hq; rw [if_neg (by omega), if_pos h] at hq; omega
        · exact h
      have hpn : p ^ n = p := by
        rcases (show p = 0 ∨ p = 1 by omega) with h | h
        · rw [h, Nat.zero_pow (by omega)]
        · rw [h, Nat.one_pow]
      refine dr U 600 rfl trivial ?_
      refine cF rfl rfl rfl (by omega) ?_
      refine dr U 600 rfl trivial ?_
      exact ret Tryz.results44 rfl ⟨_, rfl, .slice a (lim p).length c, by rw [hpn, decide_eq_true hp]; rfl, fun _ => ⟨a, c, by rw [hpn], by rw [hpn]; exact ha2⟩, hB2'⟩
    · have hp1 : 1 ≤ p := by
        rcases Nat.eq_zero_or_pos p with h | h
        · exfalso; apply hq; rw [h]; decide
        · exact h
      clear hord
      refine dr U 600 rfl trivial ?_
      refine loopR (fun l w' m => ∃ (j : Nat) (a3 : Option Addr) (c3 : Nat), l = [(0, .slice a (lim p).length c), (1, .int .i64 (n : Nat)), (7, .slice a3 (lim (p ^ (n / 2 ^ j))).length c3), (8, .int .i64 ((j : Int) - 1))] ∧ j ≤ 63 ∧ RdI w' a3 c3 (lim (p ^ (n / 2 ^ j))) ∧ nDigits (p ^ (n / 2 ^ j)) ≤ 4000 ∧ Below w.heap.size w w' ∧ m = j)
        (l0 := [(0, .slice a (lim p).length c), (1, .int .i64 (n : Nat)), (7, .slice (some ⟨w.heap.size, 0, none⟩) 1 1), (8, .int .i64 62)])
        ⟨63, some ⟨w.heap.size, 0, none⟩, 1, ?_, by omega, ?_, ?_, hB2', rfl⟩ ⟨rfl, rfl, rfl, rfl, trivial⟩ ?_
      · rw [Nat.div_eq_of_lt (by omega), Nat.pow_zero, hl1]; rfl
      · rw [Nat.div_eq_of_lt (by omega), Nat.pow_zero]; exact ho2
      · rw [Nat.div_eq_of_lt (by omega), Nat.pow_zero, hd1]; omega
      rintro l w3 m ⟨j1, a3, c3, rfl, hj, hr3, hd3, hB3, hm⟩
      have ha3 : RdI w3 a c (lim p) := ha.below hB3
      refine dr U 600 rfl trivial ?_
      refine cS rfl rfl rfl rfl (fun hq => ?_) (fun hq => ?_)
      · obtain ⟨j, rfl⟩ : ∃ j, j1 = j + 1 := ⟨j1 - 1, by omega⟩
        have hph := pow_half p n j
        have hl3 := lim_le_nD (p ^ (n / 2 ^ (j + 1)))
        have hlm := lim_len_mul (p ^ (n / 2 ^ (j + 1))) (p ^ (n / 2 ^ (j + 1)))
        rw [show (((j + 1 : Nat) : Int) - 1) = (j : Int) by omega]
        generalize p ^ (n / 2 ^ (j + 1)) = o at *
        refine dr U 600 rfl trivial ?_
        refine call (f := 75) rfl rfl cb75 (times_calls o o a3 a3 c3 c3 w3 hr3 hr3 (by omega) (by omega)) ?_
        rintro v w4 ⟨a4, c4, rfl, ho4, hB4⟩
        refine ⟨_, rfl, ?_⟩
        have hB4' := bl_tr hB3 hB4 hB3.size
        have hr4 := ownI_rd ho4
        have hdl : n / 2 ^ j ≤ n := Nat.div_le_self _ _
        refine dr U 600 rfl trivial ?_
        refine shr1i n j rfl rfl (by omega) rfl rfl ?_
        refine and1i _ rfl rfl (by omega) rfl rfl ?_
        refine dr U 600 rfl trivial ?_
        refine cS rfl rfl rfl rfl (fun hq => ?_) (fun hq => ?_)
        · have hval : o * o * p = p ^ (n / 2 ^ j) := by rw [hph, show n / 2 ^ j % 2 = 1 by omega, Nat.pow_one]
          have hl5 := lim_len_mul (o * o) p
          refine dr U 600 rfl trivial ?_
          refine call (f := 75) rfl rfl cb75 (times_calls (o * o) p a4 a c4 c w4 hr4 (ha3.below hB4) (by omega) (by omega)) ?_
          rintro v w6 ⟨a4, c4, rfl, ho4, hB6⟩
          refine ⟨_, rfl, ?_⟩
          have hBB := bl_tr hB4' hB6 hB4'.size
          have hr4 := ownI_rd ho4
          have hl4 : (lim (o * o * p)).length ≤ 68719476736 := by omega
          rw [hval] at hr4 hl4 ⊢
          refine dr U 600 rfl trivial ?_
          refine call (f := 76) rfl rfl cb76 (write_ref _ a4 c4 w6 hr4 hl4) ?_
          rintro v w5 ⟨rfl, hB5⟩
          refine ⟨_, rfl, ?_⟩
          have hBW := bl_tr hBB hB5 hBB.size
          have hdl := decDigits_length (p ^ (n / 2 ^ j))
          refine dr U 600 rfl trivial ?_
          refine cS rfl rfl rfl rfl (fun hq => ?_) (fun hq => ?_)
          · have hno := pow_big (n := n) (j := j) hp1 (by omega)
            refine dr U 600 rfl trivial ?_
            exact ret Tryz.results44 rfl ⟨_, rfl, .slice none 0 0, by rw [decide_eq_false hno]; rfl, fun h => absurd h hno, hBW⟩
          · refine dr U 600 rfl (by first | exact True.intro | (simp only [AllP, InR, List.nil_append, List.cons_append, and_true]; omega)) ?_
            exact rend [(0, .slice a (lim p).length c), (1, .int .i64 (n : Nat)), (7, .slice a4 (lim (p ^ (n / 2 ^ j))).length c4), (8, .int .i64 ((j : Int) - 1))] j ⟨j, a4, c4, rfl, by omega, hr4.below hB5, by omega, hBW, rfl⟩ (by omega) ⟨rfl, rfl, rfl, iv (by omega), trivial⟩
        · have hval : o * o = p ^ (n / 2 ^ j) := by rw [hph, show n / 2 ^ j % 2 = 0 by omega, Nat.pow_zero, Nat.mul_one]
          have hl4 : (lim (o * o)).length ≤ 68719476736 := by omega
          have hBB := hB4'
          rw [hval] at hr4 hl4 ⊢
          refine dr U 600 rfl trivial ?_
          refine call (f := 76) rfl rfl cb76 (write_ref _ a4 c4 w4 hr4 hl4) ?_
          rintro v w5 ⟨rfl, hB5⟩
          refine ⟨_, rfl, ?_⟩
          have hBW := bl_tr hBB hB5 hBB.size
          have hdl := decDigits_length (p ^ (n / 2 ^ j))
          refine dr U 600 rfl trivial ?_
          refine cS rfl rfl rfl rfl (fun hq => ?_) (fun hq => ?_)
          · have hno := pow_big (n := n) (j := j) hp1 (by omega)
            refine dr U 600 rfl trivial ?_
            exact ret Tryz.results44 rfl ⟨_, rfl, .slice none 0 0, by rw [decide_eq_false hno]; rfl, fun h => absurd h hno, hBW⟩
          · refine dr U 600 rfl (by first | exact True.intro | (simp only [AllP, InR, List.nil_append, List.cons_append, and_true]; omega)) ?_
            exact rend [(0, .slice a (lim p).length c), (1, .int .i64 (n : Nat)), (7, .slice a4 (lim (p ^ (n / 2 ^ j))).length c4), (8, .int .i64 ((j : Int) - 1))] j ⟨j, a4, c4, rfl, by omega, hr4.below hB5, by omega, hBW, rfl⟩ (by omega) ⟨rfl, rfl, rfl, iv (by omega), trivial⟩
      · obtain rfl : j1 = 0 := by omega
        rw [show n / 2 ^ 0 = n by simp] at *
        refine dr U 600 rfl trivial ?_
        exact ret Tryz.results44 rfl ⟨_, rfl, .slice a3 (lim (p ^ n)).length c3, by rw [decide_eq_true hd3]; rfl, fun _ => ⟨a3, c3, rfl, hr3⟩, hB3⟩

end Go.Proofs.YtabplbmbnakalaaGreatDoor
end
section
set_option linter.unusedSimpArgs false
set_option linter.unusedVariables false
set_option maxHeartbeats 1000000
namespace Go.Proofs.YtabplbmbnakalaaGreatDoor
open Go Go.Proofs Go.RowKit Go.Lib

theorem dec_small {u : Nat} (h : u < 10) : decDigits u = [UInt8.ofNat (48 + u)] := by rw [decDigits, dif_pos h]

/-- What FromInt returns. -/
def OutF (n : Int) (v : Value) : Prop := (n < 0 ∧ v = .tuple ⟨[.string ⟨⟨[]⟩⟩, .int .i64 2]⟩) ∨ (0 ≤ n ∧ v = .tuple ⟨[.string ⟨⟨decDigits n.toNat⟩⟩, .int .i64 0]⟩)
theorem refFromInt_calls (n : Int) (hn : n ≤ 9223372036854775807) (w : World) :
    Calls Tryz.prog 82 #[.int .i64 n] w (Ret fun v w' => OutF n v ∧ w = w') := by
  refine enter Tryz.func82 rfl Tryz.ntmps82 (Nat.le_of_ble_eq_true rfl) ?_
  refine dr U 600 rfl trivial ?_
  refine cS rfl rfl rfl rfl (fun hq => ?_) (fun hq => ?_)
  · refine dr U 600 rfl trivial ?_
    exact ret Tryz.results82 rfl ⟨_, rfl, .inl ⟨hq, rfl⟩, rfl⟩
  · obtain ⟨k, rfl⟩ : ∃ k : Nat, n = k := ⟨n.toNat, by omega⟩
    have hk19 := nD_le 19 k (by omega) (by omega)
    have hkl := decDigits_length k
    refine dr U 600 rfl trivial ?_
    refine loopR (fun l w' m => ∃ s : List UInt8, l = [(0, .int .i64 (m : Nat)), (4, .string ⟨⟨s⟩⟩)] ∧ decDigits k = decDigits m ++ s ∧ m ≤ k ∧ w = w') (m0 := k) ⟨[], rfl, by simp, Nat.le_refl _, rfl⟩ ⟨rfl, rfl, trivial⟩ ?_
    rintro l w1 m ⟨s, rfl, hs, hm, rfl⟩
    have hsl := congrArg List.length hs
    rw [List.length_append] at hsl
    refine dr U 600 rfl trivial ?_
    refine cS rfl rfl rfl rfl (fun hq => ?_) (fun hq => ?_)
    · have hbig := dec_big (u := m) (by omega)
      have hd := ofNat_d (k := m % 10) (by omega)
      have h1 : [UInt8.ofNat (48 + m % 10)].length = 1 := rfl
      refine dr U 600 rfl (by first | exact True.intro | (simp only [AllP, InR, List.nil_append, List.cons_append, and_true]; omega)) ?_
      refine rstr U (UInt8.ofNat (48 + m % 10)) rfl (by rw [hd]; omega) (by rw [hd]; omega) rfl rfl rfl rfl ?_
      refine dr U 600 rfl (by first | exact True.intro | (simp only [AllP, InR, List.nil_append, List.cons_append, and_true]; omega)) ?_
      refine rend _ (m / 10) ⟨UInt8.ofNat (48 + m % 10) :: s, rfl, by rw [hs, hbig]; simp, by omega, rfl⟩ (by omega) ⟨iv (by omega), rfl, trivial⟩
    · have hsm := dec_small (u := m) (by omega)
      have hd := ofNat_d (k := m) (by omega)
      have h1 : [UInt8.ofNat (48 + m)].length = 1 := rfl
      refine dr U 600 rfl (by first | exact True.intro | (simp only [AllP, InR, List.nil_append, List.cons_append, and_true]; omega)) ?_
      refine rstr U (UInt8.ofNat (48 + m)) rfl (by rw [hd]; omega) (by rw [hd]; omega) rfl rfl rfl rfl ?_
      refine dr U 600 rfl (by first | exact True.intro | (simp only [AllP, InR, List.nil_append, List.cons_append, and_true]; omega)) ?_
      refine ret Tryz.results82 rfl ⟨_, rfl, .inr ⟨by omega, ?_⟩, rfl⟩
      rw [Int.toNat_natCast, hs, hsm]; rfl

/-- What ToInt returns. -/
def OutT (x : List UInt8) (v : Value) : Prop := (∃ e, e ≠ 0 ∧ Chk x e ∧ v = .tuple ⟨[.int .i64 0, .int .i64 e]⟩) ∨ (Chk x 0 ∧ 9223372036854775807 < dval x ∧ v = .tuple ⟨[.int .i64 0, .int .i64 2]⟩) ∨ (Chk x 0 ∧ dval x ≤ 9223372036854775807 ∧ v = .tuple ⟨[.int .i64 (dval x : Nat), .int .i64 0]⟩)
theorem dval_take_le (x : List UInt8) (i : Nat) : dval (x.take i) ≤ dval x := by
  have h := dval_append (x.take i) (x.drop i)
  rw [List.take_append_drop] at h
  have := Nat.le_mul_of_pos_right (dval (x.take i)) (Nat.pow_pos (n := (x.drop i).length) (show 0 < 10 by omega))
  omega
/-- The number of binary digits. -/
def blen (n : Nat) : Nat := if h : n = 0 then 0 else blen (n / 2) + 1
termination_by n
theorem blen_zero : blen 0 = 0 := by rw [blen]; simp
theorem blen_pos {n : Nat} (h : n ≠ 0) : blen n = blen (n / 2) + 1 := by rw [blen, dif_neg h]
theorem blen_le : ∀ (k n : Nat), n < 2 ^ k → blen n ≤ k
  | 0, n, h => by
    have : n = 0 := by simpa using h
    rw [this, blen_zero]; omega
  | k + 1, n, h => by
    by_cases h0 : n = 0
    · rw [h0, blen_zero]; omega
    · rw [blen_pos h0]
      have := blen_le k (n / 2) (by rw [Nat.pow_succ] at h; omega)
      omega
theorem blen_shift : ∀ (k n : Nat), 2 ^ k ≤ n → blen n = blen (n / 2 ^ k) + k
  | 0, n, _ => by simp
  | k + 1, n, h => by
    have h1 : 2 ^ k ≤ n / 2 := by rw [Nat.pow_succ] at h; omega
    have h0 : 0 < 2 ^ k := Nat.pow_pos (by omega)
    rw [blen_pos (by omega), blen_shift k (n / 2) h1, Nat.div_div_eq_div_mul, show 2 * 2 ^ k = 2 ^ (k + 1) by rw [Nat.pow_succ, Nat.mul_comm]]
    omega
theorem blen_digits {n d : Nat} (h : nDigits n ≤ d) : blen n ≤ 4 * d := by
  have h1 := Nat.lt_of_lt_of_le (lt_pow_nDigits n) (Nat.pow_le_pow_right (n := 10) (by omega) h)
  have h2 : 10 ^ d ≤ 16 ^ d := Nat.pow_le_pow_left (by omega) d
  refine blen_le _ _ ?_
  rw [Nat.pow_mul]
  exact Nat.lt_of_lt_of_le h1 h2

/-- What Bits returns. -/
def OutB (x : List UInt8) (v : Value) : Prop := (∃ e, e ≠ 0 ∧ Chk x e ∧ v = .tuple ⟨[.int .i64 0, .int .i64 e]⟩) ∨ (Chk x 0 ∧ v = .tuple ⟨[.int .i64 (blen (dval x) : Nat), .int .i64 0]⟩)
end Go.Proofs.YtabplbmbnakalaaGreatDoor
end
