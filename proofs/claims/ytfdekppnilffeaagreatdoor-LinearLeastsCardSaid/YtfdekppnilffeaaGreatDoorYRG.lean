/-
  Walks of the reference: Write, number, both, Add, Sub, Mul, DivMod, Gcd, Cmp.
  Conditions: fewer than 2^36 limbs; texts are no longer than an int can tell.

  Walks of the reference: number, both, Add, Sub, Mul, DivMod, Gcd, Cmp.
  Conditions: texts are no longer than an int can tell.

  Walks of the reference: Power, Pow, FromInt, ToInt, Bits.
  Conditions: texts are no longer than an int can tell.
-/
import Derived.Test.YtfdekppnilffeaaGreatDoorYRE
section
set_option linter.unusedSimpArgs false
set_option linter.unusedVariables false
set_option maxHeartbeats 1000000
namespace Go.Proofs.YtfdekppnilffeaaGreatDoor
open Go Go.Proofs Go.RowKit Go.Lib

section
variable {P : Program} (U : Tys P) {ro : Option Nat} {n : Nat} {ds : List Deferred} {Q : PT} {l l' : Fr} {w w' : World} {arr : Array Oper} {r : List Oper} {k : List It}
/-- Bytes to a string, wherever they lie. -/
theorem bstrS {d : Nat} {t t2 e ty : TypeId} {x : Operand} {ps : String} {af : Array Edge} {g : Option (Nat × Bool)} {a : Option Addr} {c m : Nat} {bs : List UInt8}
    (hx : ev l x = some (.slice a m c)) (ht : U.tb.u t = some (.slice e)) (he : U.tb.u e = some (.int .u8)) (h2 : U.tb.u t2 = some .string) (hg : gd arr l g = some true) (hd : Nat.blt d n = true)
    (hm : bs.length = m) (hne : bs ≠ []) (hc : Sl w a (byteCells bs))
    (t' : T P ro n ds Q ((d, .string ⟨⟨bs⟩⟩) :: l) w (.ops arr r) k) : T P ro n ds Q l w (.ops arr (⟨some d, .convert t t2 x, ty, ps, af, g⟩ :: r)) k := by
  subst hm
  have hb : ∀ j (hj : j < bs.length), (byteCells bs)[j]? = some (.int .u8 (bs[j].toNat : Int)) := fun j hj => by simp [byteCells, hj]
  obtain ⟨g0, off, rfl, _⟩ := hc 0 _ (hb 0 (List.length_pos_iff.2 hne))
  have := run_convert_bytes_back (P := P) w t t2 e ⟨g0, off, none⟩ c bs (U.hu _ _ ht) (U.hu _ _ he) (U.hu _ _ h2) (fun j hj => by
    obtain ⟨g1, o1, e1, hc1⟩ := hc j _ (hb j hj)
    cases e1
    rw [add_plain]; exact hc1)
  exact op1 (w' := w) (by intro c h; cases h) hg (put1_some hd) (fun a hf => by simp [execOp, hf.ev hx, this]) t'
end

theorem rep_u8 (k : Nat) : List.replicate k (Value.int .u8 0) = byteCells (List.replicate k 0) := by simp [byteCells]
theorem wr_set (P S R : List UInt8) (i q : Nat) (c : UInt8) (hP : P.length = i) : (byteCells (P ++ (List.replicate (q + 1) 0 ++ (S ++ R)))).set (i + q) (.int .u8 (c.toNat : Int)) = byteCells (P ++ (List.replicate q 0 ++ (c :: S ++ R))) := by
  unfold byteCells
  rw [show (Value.int .u8 (c.toNat : Int)) = (fun b : UInt8 => Value.int .u8 (b.toNat : Int)) c from rfl, ← List.map_set]
  congr 1
  subst hP
  rw [List.set_append_right _ _ (by omega), show P.length + q - P.length = q by omega, List.replicate_succ', List.append_assoc, List.set_append_right _ _ (by simp)]
  simp
theorem dval_cons48 (t : List UInt8) : dval (48 :: t) = dval t := by unfold dval; rw [dvalA_cons]; rfl
theorem dval_cons (c : UInt8) (t : List UInt8) : dval (c :: t) = (c.toNat - 48) * 10 ^ t.length + dval t := by
  unfold dval; rw [dvalA_cons, dvalA_eq]; simp [dval]
theorem byteCells_len (l : List UInt8) : (byteCells l).length = l.length := by simp [byteCells]

theorem write_ref (n : Nat) (a : Option Addr) (c : Nat) (w : World) (ha : RdI w a c (lim n)) (hl : (lim n).length ≤ 68719476736) :
    Calls Tryz.prog 84 #[.slice a (lim n).length c] w (Ret fun v w' => v = .string ⟨⟨decDigits n⟩⟩ ∧ Below w.heap.size w w') := by
  have hxl := lim_Lm n
  have hvn := val_lim n
  have hnil := @lim_eq_nil n
  generalize hxs : lim n = xs at *
  refine enter Tryz.func84 rfl Tryz.ntmps84 (Nat.le_of_ble_eq_true rfl) ?_
  refine dr U 600 rfl trivial ?_
  refine cS rfl rfl rfl rfl (fun hq => ?_) (fun hq => ?_)
  · have h0 : n = 0 := hnil.1 (List.length_eq_zero_iff.1 (by omega))
    refine dr U 600 rfl trivial ?_
    refine ret Tryz.results84 rfl ⟨_, rfl, ?_, Below.refl _ _⟩
    rw [h0]
    show Value.string _ = Value.string _
    rw [decDigits, dif_pos (by omega)]; rfl
  · have hL : 0 < xs.length := by omega
    refine dr U 600 rfl (by first | exact True.intro | (simp only [AllP, InR, List.nil_append, List.cons_append, and_true]; omega)) ?_
    refine mkn U rfl rfl rfl rfl rfl rfl rfl (9 * xs.length) (by omega) (by omega) (by omega) (by omega) w.heap.size (Nat.le_refl _) ?_
    intro a0 w0 ho0 hg0
    rw [rep_u8] at ho0
    refine dr U 600 rfl trivial ?_
    refine loopR (fun l w' m => ∃ (i : Nat) (P : List UInt8), l = [(0, .slice a xs.length c), (3, .slice a0 (9 * xs.length) (9 * xs.length)), (4, .int .i64 (i : Nat))] ∧ i ≤ xs.length ∧ P.length = 9 * i ∧ Dgs P ∧ dval P = val (xs.drop (xs.length - i)) ∧
        w'.ownsRow w.heap.size 5 1 (.slice a0 (9 * xs.length) (9 * xs.length)) (9 * xs.length) (byteCells (P ++ List.replicate (9 * xs.length - 9 * i) 0)) ∧ Below w.heap.size w w' ∧ m = xs.length - i)
      ⟨0, [], rfl, by omega, rfl, fun c h => (by cases h), by simp [val, dval, dvalA_nil], by simpa using ho0, (Below.refl _ _).grown hg0 (Nat.le_refl _) (fun k e => by cases e), rfl⟩ ⟨rfl, rfl, rfl, trivial⟩ ?_
    rintro l w1 m ⟨i, P, rfl, hi, hPl, hPd, hPv, ho, hB, rfl⟩
    refine dr U 600 rfl trivial ?_
    refine cS rfl rfl rfl rfl (fun hq => ?_) (fun hq => ?_)
    · have hi' : i < xs.length := by omega
      have hx1 := hxl.getD (xs.length - 1 - i)
      have hdr : val (xs.drop (xs.length - (i + 1))) = xs.getD (xs.length - 1 - i) 0 + 1000000000 * val (xs.drop (xs.length - i)) := by
        rw [show xs.length - (i + 1) = xs.length - 1 - i by omega, List.drop_eq_getElem_cons (by omega), val_cons, show xs.length - 1 - i + 1 = xs.length - i by omega]
        simp [List.getD, show xs.length - 1 - i < xs.length by omega]
      have hgx := getI (xs := xs) (j := xs.length - 1 - i) (by omega)
      generalize xs.getD (xs.length - 1 - i) 0 = x at *
      refine dr U 600 rfl (by first | exact True.intro | (simp only [AllP, InR, List.nil_append, List.cons_append, and_true]; omega)) ?_
      refine il U rfl rfl rfl rfl rfl rfl rfl (fun _ => rfl) rfl (xs.length - 1 - i) (by omega) (by omega) (ha.below hB).1 hgx ?_
      refine dr U 600 rfl trivial ?_
      refine loopR (fun l w' m => ∃ (j : Nat) (S : List UInt8), l = [(0, .slice a xs.length c), (3, .slice a0 (9 * xs.length) (9 * xs.length)), (4, .int .i64 (i : Nat)), (5, .int .i64 ((x / 10 ^ j : Nat) : Nat)), (6, .int .i64 (8 - (j : Int)))] ∧ j ≤ 9 ∧ S.length = j ∧ Dgs S ∧ dval S = x % 10 ^ j ∧
          w'.ownsRow w.heap.size 5 1 (.slice a0 (9 * xs.length) (9 * xs.length)) (9 * xs.length) (byteCells (P ++ (List.replicate (9 - j) 0 ++ (S ++ List.replicate (9 * xs.length - 9 * i - 9) 0)))) ∧ Below w.heap.size w w' ∧ m = 9 - j)
        (l0 := [(0, .slice a xs.length c), (3, .slice a0 (9 * xs.length) (9 * xs.length)), (4, .int .i64 (i : Nat)), (5, .int .i64 ((x / 10 ^ 0 : Nat) : Nat)), (6, .int .i64 (8 - ((0 : Nat) : Int)))])
        ⟨0, [], rfl, by omega, rfl, fun c h => (by cases h), by simp [dval, dvalA_nil, Nat.mod_one], ?_, hB, rfl⟩ ⟨rfl, rfl, rfl, iv (by simp), rfl, trivial⟩ ?_
      · rw [show 9 * xs.length - 9 * i = 9 + (9 * xs.length - 9 * i - 9) by omega, ← List.replicate_append_replicate] at ho
        simpa using ho
      clear ho hB
      rintro l w2 m ⟨j, S, rfl, hj, hSl, hSd, hSv, ho, hB, rfl⟩
      refine dr U 600 rfl trivial ?_
      refine cS rfl rfl rfl rfl (fun hq => ?_) (fun hq => ?_)
      · have hj' : j < 9 := by omega
        have hms : x % 10 ^ (j + 1) = x % 10 ^ j + 10 ^ j * (x / 10 ^ j % 10) := Nat.mod_pow_succ
        have hds : x / 10 ^ (j + 1) = x / 10 ^ j / 10 := by rw [Nat.pow_succ, Nat.div_div_eq_div_mul]
        have hxj : x / 10 ^ j ≤ x := Nat.div_le_self _ _
        generalize x / 10 ^ j = n1 at *
        have hd10 := ofNat_d (k := n1 % 10) (by omega)
        generalize hcc : UInt8.ofNat (48 + n1 % 10) = ch at *
        obtain ⟨q, hq9⟩ : ∃ q, 9 - j = q + 1 := ⟨9 - j - 1, by omega⟩
        rw [hq9] at ho
        refine dr U 600 rfl (by first | exact True.intro | (simp only [AllP, InR, List.nil_append, List.cons_append, and_true]; omega)) ?_
        refine is U (v := (.int .u8 (ch.toNat : Int))) rfl rfl rfl rfl rfl rfl rfl (fun _ => rfl) (fun _ => iv (by omega)) (fun _ => rfl) rfl rfl (9 * i + q) (by omega) (by omega) ho ?_
        intro p0 w3 ho3 hg3 _
        rw [wr_set P S _ _ q ch hPl] at ho3
        refine dr U 600 rfl (by first | exact True.intro | (simp only [AllP, InR, List.nil_append, List.cons_append, and_true]; omega)) ?_
        refine rend [(0, .slice a xs.length c), (3, .slice a0 (9 * xs.length) (9 * xs.length)), (4, .int .i64 (i : Nat)), (5, .int .i64 ((x / 10 ^ (j + 1) : Nat) : Nat)), (6, .int .i64 (8 - ((j + 1 : Nat) : Int)))] _
          ⟨j + 1, ch :: S, rfl, by omega, by simp [hSl], fun c hc => ?_, ?_, ?_, hB.grown hg3 hB.size (fun g hg => (own_block ho g hg).1), rfl⟩ (by omega) ⟨rfl, rfl, rfl, iv (by rw [hds]; omega), iv (by omega), trivial⟩
        · rcases List.mem_cons.1 hc with h | h
          · subst h; unfold isD; omega
          · exact hSd c h
        · rw [dval_cons, hd10, hSl, hms, hSv, Nat.mul_comm (10 ^ j)]
          rw [show 48 + n1 % 10 - 48 = n1 % 10 by omega]; omega
        · rw [show 9 - (j + 1) = q by omega]; exact ho3
      · obtain rfl : j = 9 := by omega
        refine dr U 600 rfl (by first | exact True.intro | (simp only [AllP, InR, List.nil_append, List.cons_append, and_true]; omega)) ?_
        refine rend _ _ ⟨i + 1, P ++ S, rfl, by omega, by simp [hPl, hSl]; omega, fun c hc => ?_, ?_, ?_, hB, rfl⟩ (by omega) ⟨rfl, rfl, iv (by omega), trivial⟩
        · rcases List.mem_append.1 hc with h | h
          · exact hPd c h
          · exact hSd c h
        · rw [dval_append, hSl, hSv, Nat.mod_eq_of_lt (by omega), hPv, hdr]; omega
        · rw [show 9 * xs.length - 9 * (i + 1) = 9 * xs.length - 9 * i - 9 by omega]
          simpa using ho
    · obtain rfl : i = xs.length := by omega
      rw [Nat.sub_self, List.drop_zero, hvn] at hPv
      rw [Nat.sub_self] at ho
      simp only [List.replicate_zero, List.append_nil] at ho
      have hsl := own_sl ho
      refine dr U 600 rfl (by first | exact True.intro | (simp only [AllP, InR, List.nil_append, List.cons_append, and_true]; omega)) ?_
      refine loopR (fun l w' m => ∃ (B : List UInt8) (a1 : Option Addr) (c1 : Nat), l = [(3, .slice a1 B.length c1)] ∧ B ≠ [] ∧ Dgs B ∧ dval B = n ∧ Sl w1 a1 (byteCells B) ∧ B.length ≤ c1 ∧ B.length ≤ 9 * xs.length ∧ w' = w1 ∧ m = B.length)
        (l0 := [(3, .slice a0 P.length (9 * xs.length))]) ⟨P, a0, 9 * xs.length, rfl, fun e => by rw [e] at hPl; simp at hPl; omega, hPd, hPv, hsl, by omega, by omega, rfl, rfl⟩ ⟨by rw [hPl]; rfl, trivial⟩ ?_
      rintro l w2 m ⟨B, a1, c1, rfl, hne, hBd, hBv, hS, hBc, hBL, rfl, rfl⟩
      have hpos := List.length_pos_iff.2 hne
      refine dr U 600 rfl trivial ?_
      refine cS rfl rfl rfl rfl (fun hq => ?_) (fun hq => ?_)
      · have hlen := hq
        obtain ⟨b0, t, rfl⟩ : ∃ b0 t, B = b0 :: t := by
          cases B with
          | nil => exact absurd rfl hne
          | cons b t => exact ⟨b, t, rfl⟩
        refine dr U 600 rfl trivial ?_
        refine il U rfl rfl rfl rfl rfl rfl rfl (fun _ => rfl) rfl 0 (by omega) (by simp) hS (show (byteCells (b0 :: t))[0]? = some (.int .u8 (b0.toNat : Int)) by simp [byteCells]) ?_
        refine dr U 600 rfl trivial ?_
        refine cS rfl rfl rfl rfl (fun hq => ?_) (fun hq => ?_)
        · have hb0 : b0 = 48 := UInt8.toNat_inj.1 (by simp; omega)
          subst hb0
          have hS1 := hS.drop 1 c1 (by rw [byteCells_len]; exact hBc)
          refine dr U 600 rfl (by first | exact True.intro | (simp only [AllP, InR, List.nil_append, List.cons_append, and_true]; omega)) ?_
          refine rend _ _ ⟨t, sadd a1 c1 1 1, c1 - 1, rfl, fun e => by rw [e] at hlen; simp at hlen, fun c hc => hBd c (List.mem_cons_of_mem _ hc), by rw [← hBv, dval_cons48], by simpa [byteCells] using hS1, by simp at hBc; omega, by simp at hBL; omega, rfl, rfl⟩ (by simp) ⟨?_, trivial⟩
          rfl
        · refine dr U 600 rfl trivial ?_
          refine bstrS U rfl rfl rfl rfl rfl rfl rfl hne hS ?_
          refine dr U 600 rfl trivial ?_
          refine ret Tryz.results84 rfl ⟨_, rfl, ?_, hB⟩
          rw [← hBv, ← dec_of hBd hne (.inr (fun e => ?_))]
          · rfl
          · have : b0 = 48 := Option.some.inj e
            subst this
            exact hq rfl
      · refine dr U 600 rfl trivial ?_
        refine bstrS U rfl rfl rfl rfl rfl rfl rfl hne hS ?_
        refine dr U 600 rfl trivial ?_
        refine ret Tryz.results84 rfl ⟨_, rfl, ?_, hB⟩
        rw [← hBv, ← dec_of hBd hne ?_]
        · rfl
        · obtain ⟨b0, hb0⟩ := List.length_eq_one_iff.1 (show B.length = 1 by omega)
          subst hb0
          by_cases h48 : b0 = 48
          · exact .inl (by rw [h48])
          · exact .inr (fun e => h48 (Option.some.inj e))
end Go.Proofs.YtfdekppnilffeaaGreatDoor
end
section
set_option linter.unusedSimpArgs false
set_option linter.unusedVariables false
set_option maxHeartbeats 1000000
namespace Go.Proofs.YtfdekppnilffeaaGreatDoor
open Go Go.Proofs Go.RowKit Go.Lib

end Go.Proofs.YtfdekppnilffeaaGreatDoor
end
section
set_option linter.unusedSimpArgs false
set_option linter.unusedVariables false
set_option maxHeartbeats 1000000
namespace Go.Proofs.YtfdekppnilffeaaGreatDoor
open Go Go.Proofs Go.RowKit Go.Lib

section
variable {P : Program} (U : Tys P) {ro : Option Nat} {n : Nat} {ds : List Deferred} {Q : PT} {l l' : Fr} {w w' : World} {arr : Array Oper} {r : List Oper} {k : List It}
end

end Go.Proofs.YtfdekppnilffeaaGreatDoor
end
