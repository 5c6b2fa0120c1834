/-
  Walks of package bits: Cell, All; of the law package's helpers: Same, lives.
  Conditions: texts take fewer than 2^40 bytes; the library's table of powers of ten is laid.

  Walks of the law package's examples.
  Conditions: the library's table of powers of ten is laid.
-/
import Derived.Test.YtcnbohfejgdcbaaGreatDoorYRng
import Derived.Test.YtcnbohfejgdcbaaGreatDoorYQ
import Derived.Test.YtcnbohfejgdcbaaGreatDoorYStr
import Derived.Test.YtcnbohfejgdcbaaGreatDoorYRG
section
set_option linter.unusedSimpArgs false
set_option linter.unusedVariables false
set_option maxHeartbeats 1000000
namespace Go.Proofs.YtcnbohfejgdcbaaGreatDoor
open Go Go.Proofs Go.RowKit Go.Lib

theorem dec_noneg (n : Nat) : ineg (decDigits n) = false ∧ irest (decDigits n) = decDigits n := by
  have hf : Form (decDigits n) := form_iff.2 ⟨n, rfl⟩
  have h : hasPrefix (decDigits n) [45] = false := by
    unfold hasPrefix
    cases hl : decDigits n with
    | nil => rfl
    | cons c t =>
      have := hf.2.2 c (by rw [hl]; simp)
      unfold isD at this
      simp only [List.isPrefixOf, Bool.and_true]
      rw [beq_eq_false_iff_ne]
      rintro rfl
      revert this; decide
  exact ⟨h, by unfold irest trimPrefix; rw [h]; rfl⟩
theorem make_nat {k d : Nat} {v : Value} (hk : nDigits k ≤ 4000) (hd : nDigits d ≤ 4000) (h0 : d ≠ 0) (h : MakeR (decDigits k) (decDigits d) v) : v = .tuple ⟨[.string ⟨⟨qtext (mkq false k d)⟩⟩, .int .i64 0]⟩ := by
  obtain ⟨h1, h2⟩ := dec_noneg k
  have hf : Form (decDigits k) := form_iff.2 ⟨k, rfl⟩
  have hfd : Form (decDigits d) := form_iff.2 ⟨d, rfl⟩
  have hne : decDigits d ≠ [48] := fun e => h0 (by have := (dec_dval d).2; rw [e] at this; exact this.symm)
  refine h.uniq (.inr ⟨.inr (.inr (.inr (.inr ⟨⟨by rw [h2]; exact hf, by rw [h1]; simp⟩, by rw [h2, decDigits_length]; exact hk, .inl ⟨hfd, by rw [decDigits_length]; exact hd, rfl⟩, hne, rfl⟩))), ?_⟩)
  rw [h1, h2, (dec_dval k).2, (dec_dval d).2]
  exact .inl ⟨mkq_small h0 hk hd, rfl⟩

/-- What Cell answers. -/
def CellR (l : List UInt8) (v : Value) : Prop :=
  (∃ e, e ≠ 0 ∧ SChk l e ∧ v = .tuple ⟨[.string ⟨⟨[]⟩⟩, .string ⟨⟨[]⟩⟩, .int .i64 e]⟩) ∨
  (SChk l 0 ∧ v = .tuple ⟨[.string ⟨⟨qtext (mkq false (bval l) (2 ^ l.length))⟩⟩, .string ⟨⟨qtext (mkq false 1 (2 ^ l.length))⟩⟩, .int .i64 0]⟩)
theorem CellR.uniq {l : List UInt8} {v v' : Value} (h : CellR l v) (h' : CellR l v') : v = v' := by
  rcases h with ⟨e, h1, h2, rfl⟩ | ⟨h2, rfl⟩ <;> rcases h' with ⟨e', h3, h4, rfl⟩ | ⟨h4, rfl⟩
  · rw [h2.uniq h4]
  · exact absurd (h2.uniq h4) h1
  · exact absurd (h4.uniq h2) h3
  · rfl
theorem cell_calls (l : List UInt8) (hl : l.length ≤ 1099511627776) (w : World) (ht : TabOk w) :
    Calls Tryz.prog 11 #[.string ⟨⟨l⟩⟩] w (Ret fun v w' => CellR l v ∧ Below w.heap.size w w') := by
  refine enter Tryz.func11 rfl Tryz.ntmps11 (Nat.le_of_ble_eq_true rfl) ?_
  refine dr U 600 rfl trivial ?_
  refine call (f := 32) rfl rfl cb32 (bshort_calls l hl w) ?_
  rintro v w1 ⟨⟨e, rfl, he⟩, hB1⟩
  refine ⟨_, rfl, ?_⟩
  refine dr U 600 rfl trivial ?_
  refine cS rfl rfl rfl rfl (fun hq => ?_) (fun hq => ?_)
  · refine dr U 600 rfl trivial ?_
    exact ret Tryz.results11 rfl ⟨_, rfl, .inl ⟨e, hq, he, rfl⟩, hB1⟩
  · obtain rfl := Classical.not_not.1 hq
    have hn := he.ok.2
    have hp := nd_two _ hn
    have hv := nd_below hn (bval_lt _ l rfl)
    have hp0 : 2 ^ l.length ≠ 0 := Nat.ne_of_gt (Nat.two_pow_pos _)
    have ht1 := ht.below hB1
    have e1 : decDigits 1 = [49] := by rw [decDigits_one (by omega)]; rfl
    have n1 : nDigits 1 ≤ 4000 := by rw [nDigits_small (by omega)]; omega
    refine dr U 600 rfl trivial ?_
    refine call (f := 33) rfl rfl cb33 (bpower_calls l.length hn w1 ht1) ?_
    rintro v w2 ⟨rfl, hB2'⟩
    refine ⟨_, rfl, ?_⟩
    have hB2 := bl_tr hB1 hB2' hB1.size
    refine dr U 600 rfl trivial ?_
    refine call (f := 35) rfl rfl cb35 (value_calls l hn w2 (ht.below hB2)) ?_
    rintro v w3 ⟨rfl, hB3'⟩
    refine ⟨_, rfl, ?_⟩
    have hB3 := bl_tr hB2 hB3' hB2.size
    refine dr U 600 rfl trivial ?_
    refine call (f := 34) rfl rfl cb34 (rmake_calls _ _ (by rw [decDigits_length]; omega) (by rw [decDigits_length]; omega) w3 (ht.below hB3)) ?_
    rintro v w4 ⟨hm, hB4'⟩
    obtain rfl := make_nat (by omega) (by omega) hp0 hm
    refine ⟨_, rfl, ?_⟩
    have hB4 := bl_tr hB3 hB4' hB3.size
    refine dr U 600 rfl trivial ?_
    refine call (f := 34) rfl rfl cb34 (rmake_calls [49] _ (by simp) (by rw [decDigits_length]; omega) w4 (ht.below hB4)) ?_
    rintro v w5 ⟨hm, hB5'⟩
    rw [← e1] at hm
    obtain rfl := make_nat n1 (by omega) hp0 hm
    refine ⟨_, rfl, ?_⟩
    refine dr U 600 rfl trivial ?_
    exact ret Tryz.results11 rfl ⟨_, rfl, .inr ⟨he, rfl⟩, bl_tr hB4 hB5' hB4.size⟩

section
variable {P : Program} {ro : Option Nat} {n : Nat} {ds : List Deferred} {Q : PT} {l l' : Fr} {w w' : World} {arr : Array Oper} {r : List Oper} {k : List It}
theorem shlI {d : Nat} {t t2 ty : TypeId} {x y : Operand} {ps : String} {af : Array Edge} {g : Option (Nat × Bool)} {kx kk : IntKind} (m : Int) (s : Nat) (hx : ev l x = some (.int kx m)) (hy : ev l y = some (.int kk (s : Nat))) (hs : s ≤ kx.bits) (hg : gd arr l g = some true) (hd : Nat.blt d n = true)
    (t' : T P ro n ds Q ((d, .int kx (kx.wrap (m * 2 ^ s))) :: l) w (.ops arr r) k) : T P ro n ds Q l w (.ops arr (⟨some d, .binOp .shl t x y t2, ty, ps, af, g⟩ :: r)) k := by
  refine op1 (w' := w) (v := .int kx (kx.wrap (m * 2 ^ s))) (by intro c h; cases h) hg (by simp only [put1, hd]) (fun a hf => ?_) t'
  have h5 : (binOp .shl t (.int kx m) (.int kk (s : Nat))).run P w = .ok (.int kx (kx.wrap (m * 2 ^ s))) w := by
    simp only [binOp, shift_shl kx kk m (s : Int) (Int.natCast_nonneg _) (by omega), Int.toNat_natCast]
    rfl
  simp [execOp, hf.ev hx, hf.ev hy, eqGuard, h5]
end

/-- Strings as cells. -/
def strs (ls : List (List UInt8)) : List Value := ls.map fun s => .string ⟨⟨s⟩⟩
theorem getS {xs : List (List UInt8)} {j : Nat} (h : j < xs.length) : (strs xs)[j]? = some (.string ⟨⟨xs.getD j []⟩⟩) := by simp [strs, h, List.getD]
/-- All bit strings of n bits, ascending. -/
def allb (n m : Nat) : List (List UInt8) := (List.range m).map (bitsOf n)
theorem allb_length (n m : Nat) : (allb n m).length = m := by simp [allb]
theorem allb_succ (n m : Nat) : strs (allb n (m + 1)) = strs (allb n m) ++ [.string ⟨⟨bitsOf n m⟩⟩] := by simp [allb, strs, List.range_succ]
theorem own_bw {w w' : World} {base e s : Nat} {a : Option Addr} {m c : Nat} {cs : List Value} (h : w.ownsRow base e s (.slice a m c) m cs) (hb : Below w.heap.size w w') : w'.ownsRow base e s (.slice a m c) m cs := by
  refine ⟨h.1, ?_⟩
  rcases h.2 with h | ⟨g, cap, cur, e1, e2, e3, e4⟩
  · exact .inl h
  · exact .inr ⟨g, cap, cur, e1, e2, by rw [hb.block g (Array.getElem?_eq_some_iff.1 e3).1]; exact e3, e4⟩
/-- What All answers. -/
def AllR (n : Int) (W : World) (v : Value) (w : World) : Prop :=
  ((n < 0 ∨ 12 < n) ∧ v = .tuple ⟨[.slice none 0 0, .int .i64 2]⟩) ∨
  (0 ≤ n ∧ n ≤ 12 ∧ ∃ a c, v = .tuple ⟨[.slice a (2 ^ n.toNat) c, .int .i64 0]⟩ ∧ w.ownsRow W.heap.size 30 1 (.slice a (2 ^ n.toNat) c) (2 ^ n.toNat) (strs (allb n.toNat (2 ^ n.toNat))))

theorem all_calls (n : Int) (hn : -9223372036854775808 ≤ n ∧ n ≤ 9223372036854775807) (w : World) :
    Calls Tryz.prog 10 #[.int .i64 n] w (Ret fun v w' => AllR n w v w' ∧ Below w.heap.size w w') := by
  refine enter Tryz.func10 rfl Tryz.ntmps10 (Nat.le_of_ble_eq_true rfl) ?_
  refine dr U 600 rfl trivial ?_
  refine cS rfl rfl rfl rfl (fun hq => ?_) (fun hq => ?_)
  · refine dr U 600 rfl trivial ?_
    exact ret Tryz.results10 rfl ⟨_, rfl, .inl ⟨.inl hq, rfl⟩, Below.refl _ _⟩
  · refine dr U 600 rfl trivial ?_
    refine cS rfl rfl rfl rfl (fun hq => ?_) (fun hq => ?_)
    · refine dr U 600 rfl trivial ?_
      exact ret Tryz.results10 rfl ⟨_, rfl, .inl ⟨.inr hq, rfl⟩, Below.refl _ _⟩
    · obtain ⟨k, rfl⟩ : ∃ k : Nat, n = (k : Int) := ⟨n.toNat, by omega⟩
      have hk : k ≤ 12 := by omega
      have hp : 2 ^ k ≤ 4096 := Nat.pow_le_pow_right (n := 2) (by omega) hk
      obtain ⟨p, hpe⟩ : ∃ p, 2 ^ k = p := ⟨_, rfl⟩
      have hpI : IntKind.i64.wrap ((1 : Int) * 2 ^ k) = (p : Int) := by
        rw [Int.one_mul, show ((2 : Int) ^ k) = ((2 ^ k : Nat) : Int) by simp, hpe]
        rw [hpe] at hp
        exact wrap_in (by simp only [InR]; omega)
      rw [hpe] at hp
      refine dr U 600 rfl trivial ?_
      refine shlI 1 k rfl rfl (by show k ≤ 64; omega) rfl rfl ?_
      rw [hpI]
      refine dr U 600 rfl trivial ?_
      refine loopR (fun f w' m => ∃ i a c, f = [(0, .int .i64 (k : Nat)), (4, .slice a i c), (15, .int .i64 (p : Int)), (16, .int .i64 (i : Nat))] ∧ i ≤ p ∧ w'.ownsRow w.heap.size 30 1 (.slice a i c) i (strs (allb k i)) ∧ Below w.heap.size w w' ∧ m = p - i)
        ⟨0, none, 0, rfl, Nat.zero_le _, ⟨rfl, .inl ⟨rfl, rfl⟩⟩, Below.refl _ _, rfl⟩ ⟨rfl, rfl, rfl, rfl, trivial⟩ ?_
      rintro f w1 m ⟨i, a, c, rfl, hi, ho, hB, rfl⟩
      refine dr U 600 rfl trivial ?_
      refine cS rfl rfl rfl rfl (fun hq => ?_) (fun hq => ?_)
      · refine dr U 600 rfl trivial ?_
        refine al U rfl rfl rfl rfl ?_
        intro b w4 hb4 hs4 hk4 hg4
        have hBi : Below w1.heap.size w1 w4 := (Below.refl _ _).grown hg4 (Nat.le_refl _) (fun k e => by cases e)
        have hbl4 : BldT 54 w4 w1.heap.size b [] := ⟨by omega, _, _, _, _, .inl rfl, hk4, ⟨rfl, .inl ⟨rfl, rfl⟩⟩, fun g e => by cases e⟩
        refine dr U 600 rfl (by first | exact True.intro | (simp only [AllP, InR, List.nil_append, List.cons_append, and_true]; omega)) ?_
        rcases Nat.eq_zero_or_pos k with rfl | hkp
        · refine loopR (fun f w' m => f = [(0, .int .i64 ((0 : Nat) : Int)), (4, .slice a i c), (15, .int .i64 (p : Int)), (16, .int .i64 (i : Nat)), (6, .pointer (some ⟨b, 0, none⟩)), (7, .int .i64 ((0 : Nat) - 1 : Int))] ∧ w' = w4) ⟨rfl, rfl⟩ ⟨rfl, rfl, rfl, rfl, rfl, rfl, trivial⟩ (m0 := 0) ?_
          rintro f w' m' ⟨rfl, rfl⟩
          refine dr U 600 rfl trivial ?_
          refine cS rfl rfl rfl rfl (fun hq => ?_) (fun hq => ?_)
          · exact absurd hq (by omega)
          · refine dr U 600 rfl trivial ?_
            refine call (f := 31) rfl rfl cb31 (string0T _ w1.heap.size b _ w' hk4) ?_
            rintro v w6 ⟨rfl, hB6⟩
            refine ⟨_, rfl, ?_⟩
            have hBI := hBi.trans hB6
            refine dr U 600 rfl trivial ?_
            refine ap U (v := (.string ⟨⟨bitsOf 0 i⟩⟩)) rfl rfl rfl rfl rfl rfl (fun _ => rfl) rfl (fun _ => rfl) rfl rfl rfl (own_bw ho hBI) (by have := hB.size; have := hBI.size; omega) (by omega) (by decide) ?_
            intro a2 c2 w7 ho7 hg7
            refine dr U 600 rfl (by first | exact True.intro | (simp only [AllP, InR, List.nil_append, List.cons_append, and_true]; omega)) ?_
            refine rend _ _ ⟨i + 1, a2, c2, rfl, by omega, ?_, ?_, rfl⟩ (by omega) ⟨rfl, rfl, rfl, iv (by omega), trivial⟩
            · rw [allb_succ]; exact ho7
            · exact (bl_tr hB hBI hB.size).grown hg7 (by have := hB.size; have := hBI.size; omega) (fun g hg => (own_block ho g hg).1)
        · refine loopR (fun f w' j => f = [(0, .int .i64 (k : Nat)), (4, .slice a i c), (15, .int .i64 (p : Int)), (16, .int .i64 (i : Nat)), (5, .int .i64 (i : Nat)), (6, .pointer (some ⟨b, 0, none⟩)), (7, .int .i64 ((j : Nat) - 1 : Int))] ∧ j ≤ k ∧ BldT 54 w' w1.heap.size b (bitsOf (k - j) (i / 2 ^ j)) ∧ Below w1.heap.size w1 w') (m0 := k)
            ⟨rfl, by omega, by rw [Nat.sub_self]; exact hbl4, hBi⟩ ⟨rfl, rfl, rfl, rfl, rfl, rfl, rfl, trivial⟩ ?_
          rintro f w' j ⟨rfl, hj, hbl, hBw⟩
          refine dr U 600 rfl trivial ?_
          refine cS rfl rfl rfl rfl (fun hq => ?_) (fun hq => ?_)
          · obtain ⟨q, rfl⟩ : ∃ q, j = q + 1 := ⟨j - 1, by omega⟩
            have ei : ((q + 1 : Nat) : Int) - 1 = (q : Nat) := by omega
            have hdl : i / 2 ^ q ≤ i := Nat.div_le_self _ _
            refine dr U 600 rfl trivial ?_
            refine shr1i i q rfl (by rw [← ei]; rfl) (by omega) rfl rfl ?_
            refine and1i _ rfl rfl (by omega) rfl rfl ?_
            refine dr U 600 rfl trivial ?_
            refine cS rfl rfl rfl rfl (fun hq => ?_) (fun hq => ?_)
            · have hr : i / 2 ^ q % 2 = 1 := by generalize i / 2 ^ q % 2 = z at hq; omega
              refine dr U 600 rfl trivial ?_
              refine call (f := 30) rfl rfl cb30 (bit_calls w1.heap.size b _ true w' hbl (by rw [bitsOf_length]; omega) hBw.size) ?_
              rintro v w5 ⟨rfl, hbl5, hB5, _⟩
              refine ⟨_, rfl, ?_⟩
              refine dr U 600 rfl (by first | exact True.intro | (simp only [AllP, InR, List.nil_append, List.cons_append, and_true]; omega)) ?_
              refine rend _ q ⟨rfl, by omega, ?_, hBw.trans hB5⟩ (by omega) ⟨rfl, rfl, rfl, rfl, rfl, rfl, iv (by omega), trivial⟩
              have e := bits_step k q i (by omega)
              rw [decide_eq_true hr] at e
              rw [← e]
              exact hbl5
            · have hr : ¬ i / 2 ^ q % 2 = 1 := by generalize i / 2 ^ q % 2 = z at hq; omega
              refine dr U 600 rfl trivial ?_
              refine call (f := 30) rfl rfl cb30 (bit_calls w1.heap.size b _ false w' hbl (by rw [bitsOf_length]; omega) hBw.size) ?_
              rintro v w5 ⟨rfl, hbl5, hB5, _⟩
              refine ⟨_, rfl, ?_⟩
              refine dr U 600 rfl (by first | exact True.intro | (simp only [AllP, InR, List.nil_append, List.cons_append, and_true]; omega)) ?_
              refine rend _ q ⟨rfl, by omega, ?_, hBw.trans hB5⟩ (by omega) ⟨rfl, rfl, rfl, rfl, rfl, rfl, iv (by omega), trivial⟩
              have e := bits_step k q i (by omega)
              rw [decide_eq_false hr] at e
              rw [← e]
              exact hbl5
          · obtain rfl : j = 0 := by omega
            rw [Nat.sub_zero, Nat.pow_zero, Nat.div_one] at hbl
            refine dr U 600 rfl trivial ?_
            refine call (f := 31) rfl rfl cb31 (stringT _ w1.heap.size b _ w' hbl (fun e => by have := bitsOf_length k i; rw [e] at this; simp at this; omega)) ?_
            rintro v w6 ⟨rfl, hB6⟩
            refine ⟨_, rfl, ?_⟩
            have hBI := hBw.trans hB6
            refine dr U 600 rfl trivial ?_
            refine ap U (v := (.string ⟨⟨bitsOf k i⟩⟩)) rfl rfl rfl rfl rfl rfl (fun _ => rfl) rfl (fun _ => rfl) rfl rfl rfl (own_bw ho hBI) (by have := hB.size; have := hBI.size; omega) (by omega) (by decide) ?_
            intro a2 c2 w7 ho7 hg7
            refine dr U 600 rfl (by first | exact True.intro | (simp only [AllP, InR, List.nil_append, List.cons_append, and_true]; omega)) ?_
            refine rend _ _ ⟨i + 1, a2, c2, rfl, by omega, ?_, ?_, rfl⟩ (by omega) ⟨rfl, rfl, rfl, iv (by omega), trivial⟩
            · rw [allb_succ]; exact ho7
            · exact (bl_tr hB hBI hB.size).grown hg7 (by have := hB.size; have := hBI.size; omega) (fun g hg => (own_block ho g hg).1)
      · obtain rfl : i = p := by omega
        subst hpe
        refine dr U 600 rfl trivial ?_
        exact ret Tryz.results10 rfl ⟨_, rfl, .inr ⟨by omega, by omega, a, c, rfl, ho⟩, hB⟩

theorem same_calls (xs ys : List (List UInt8)) (a b : Option Addr) (c d : Nat) (w : World) (hx : Sl w a (strs xs)) (hy : Sl w b (strs ys)) (hxl : xs.length ≤ 1099511627776) (hyl : ys.length ≤ 1099511627776) :
    Calls Tryz.prog 18 #[.slice a xs.length c, .slice b ys.length d] w (Ret fun v w' => v = .bool (decide (xs = ys)) ∧ Below w.heap.size w w') := by
  refine enter Tryz.func18 rfl Tryz.ntmps18 (Nat.le_of_ble_eq_true rfl) ?_
  refine dr U 600 rfl trivial ?_
  refine cS rfl rfl rfl rfl (fun hq => ?_) (fun hq => ?_)
  · refine dr U 600 rfl trivial ?_
    exact ret Tryz.results18 rfl ⟨_, rfl, by rw [decide_eq_false (fun h => hq (by rw [h]))]; rfl, Below.refl _ _⟩
  · have hl : xs.length = ys.length := by omega
    refine dr U 600 rfl trivial ?_
    refine loopR (fun f w' m => ∃ i : Nat, f = [(0, .slice a xs.length c), (1, .slice b ys.length d), (5, .int .i64 (i : Nat))] ∧ i ≤ xs.length ∧ xs.take i = ys.take i ∧ w'.heap = w.heap ∧ Below w.heap.size w w' ∧ m = xs.length - i)
      ⟨0, rfl, by omega, rfl, rfl, Below.refl _ _, rfl⟩ ⟨rfl, rfl, rfl, trivial⟩ ?_
    rintro f w' m ⟨i, rfl, hi, he, hh, hB, rfl⟩
    refine dr U 600 rfl trivial ?_
    refine cS rfl rfl rfl rfl (fun hq => ?_) (fun hq => ?_)
    · have hix : i < xs.length := by omega
      have hiy : i < ys.length := by omega
      obtain ⟨g1, o1, rfl, hc1⟩ := hx i _ (getS hix)
      obtain ⟨g2, o2, rfl, hc2⟩ := hy i _ (getS hiy)
      have hgx := slAt (heap_sl hh hx) i (i := (i : Int)) (by omega) (getS hix)
      have hgy := slAt (heap_sl hh hy) i (i := (i : Int)) (by omega) (getS hiy)
      have hgx' : xs.getD i [] = xs[i] := by simp [List.getD, hix]
      have hgy' : ys.getD i [] = ys[i] := by simp [List.getD, hiy]
      refine dr U 600 rfl trivial ?_
      refine dwn 8 (fun W => W.heap = w'.heap) hmo ?_
      intro w2 hh2 hg2
      refine dq U [0,1,2,3,4,5,6,7] [(3, .string ⟨⟨xs.getD i []⟩⟩), (7, .string ⟨⟨ys.getD i []⟩⟩)] (by kernel_rfl) rfl rfl hh2 (by simp only [AllP, InR, List.nil_append, List.cons_append]; (repeat' apply And.intro); all_goals first | exact True.intro | omega | (simp only [List.length_cons, List.length_nil]; omega) | (intro w_ hw_; refine ldC U rfl hw_ ?_; first | assumption | (simp [add_plain]; assumption)) | (intro w_ hw_; refine run_load_cell U rfl ?_; first | exact hw_ | exact hw_.1 | exact hw_.2 | exact hw_.2.1 | exact hw_.2.2 | exact hw_.2.2.1 | exact hw_.2.2.2 | (simp [add_plain]; first | exact hw_.1 | exact hw_.2.1 | exact hw_.2.2))) ?_
      refine d1 rfl rfl (fun _ => hh2) ?_
      have hB2 : Below w.heap.size w w2 := hB.grown hg2 hB.size (fun k e => by cases e)
      refine cS rfl rfl rfl rfl (fun hq => ?_) (fun hq => ?_)
      · refine d2 ?_; refine dend rfl (fun h => by cases h) ?_
        refine dr U 600 rfl trivial ?_
        refine ret Tryz.results18 rfl ⟨_, rfl, ?_, hB2⟩
        rw [decide_eq_false (fun h => hq (by rw [h]))]; rfl
      · refine d2 ?_; refine dend rfl (fun h => by cases h) ?_
        refine dr U 600 rfl (by first | exact True.intro | (simp only [AllP, InR, List.nil_append, List.cons_append, and_true]; omega)) ?_
        refine rend _ _ ⟨i + 1, rfl, by omega, ?_, hh2.trans hh, hB2, rfl⟩ (by omega) ⟨rfl, rfl, iv (by omega), trivial⟩
        have e := Classical.not_not.1 hq
        rw [hgx', hgy'] at e
        rw [List.take_succ_eq_append_getElem hix, List.take_succ_eq_append_getElem hiy, he, e]
    · obtain rfl : i = xs.length := by omega
      rw [List.take_length, hl, List.take_length] at he
      refine dr U 600 rfl trivial ?_
      refine ret Tryz.results18 rfl ⟨_, rfl, ?_, hB⟩
      rw [decide_eq_true he]; rfl
end Go.Proofs.YtcnbohfejgdcbaaGreatDoor
end
section
set_option linter.unusedSimpArgs false
set_option linter.unusedVariables false
set_option maxHeartbeats 1000000
namespace Go.Proofs.YtcnbohfejgdcbaaGreatDoor
open Go Go.Proofs Go.RowKit Go.Lib

theorem q58 : qtext (mkq false (bval [49, 48, 49]) (2 ^ ([49, 48, 49] : List UInt8).length)) = [53, 47, 56] := by
  rw [qtext_mkq _ _ _ (by decide), show bval [49, 48, 49] / Nat.gcd (bval [49, 48, 49]) (2 ^ ([49, 48, 49] : List UInt8).length) = 5 from by decide,
    show 2 ^ ([49, 48, 49] : List UInt8).length / Nat.gcd (bval [49, 48, 49]) (2 ^ ([49, 48, 49] : List UInt8).length) = 8 from by decide, decDigits_one (by omega), decDigits_one (by omega)]
  rfl
theorem q18 : qtext (mkq false 1 (2 ^ ([49, 48, 49] : List UInt8).length)) = [49, 47, 56] := by
  rw [qtext_mkq _ _ _ (by decide), show 1 / Nat.gcd 1 (2 ^ ([49, 48, 49] : List UInt8).length) = 1 from by decide,
    show 2 ^ ([49, 48, 49] : List UInt8).length / Nat.gcd 1 (2 ^ ([49, 48, 49] : List UInt8).length) = 8 from by decide, decDigits_one (by omega), decDigits_one (by omega)]
  rfl
theorem bin_of {l : List UInt8} (h : (l.all fun c => c == 48 || c == 49) = true) : Bin l := fun c hc => by
  have := List.all_eq_true.1 h c hc
  simpa using this
theorem AllR.ok {n k : Nat} {W w : World} {v : Value} (h : AllR (n : Int) W v w) (hn : n ≤ 12) (hk : 2 ^ n = k) :
    ∃ a c, v = .tuple ⟨[.slice a k c, .int .i64 0]⟩ ∧ w.ownsRow W.heap.size 30 1 (.slice a k c) k (strs (allb n k)) := by
  rcases h with ⟨h, _⟩ | ⟨_, _, h⟩
  · omega
  · subst hk; exact h
theorem blives_calls (w : World) (ht : TabOk w) : Calls Tryz.prog 9 #[] w (Ret fun v w' => v = .bool true ∧ Below w.heap.size w w') := by
  refine enter Tryz.func9 rfl Tryz.ntmps9 (Nat.le_of_ble_eq_true rfl) ?_
  refine dr U 600 rfl trivial ?_
  refine call (f := 11) rfl rfl cb11 (cell_calls [49, 48, 49] (by decide) w ht) ?_
  rintro v w1 ⟨hc, hB1⟩
  obtain rfl := hc.uniq (.inr ⟨.inl ⟨bin_of (by decide), by decide, rfl⟩, rfl⟩)
  refine ⟨_, rfl, ?_⟩
  refine dr U 600 rfl trivial ?_
  refine call (f := 10) rfl rfl cb10 (all_calls 2 (by omega) w1) ?_
  rintro v w2 ⟨ha, hB2'⟩
  obtain ⟨a, c, rfl, ho⟩ := AllR.ok (n := 2) (k := 4) ha (by omega) rfl
  refine ⟨_, rfl, ?_⟩
  have hB2 := bl_tr hB1 hB2' hB1.size
  refine dr U 600 rfl trivial ?_
  refine cT rfl rfl rfl (q58) ?_; refine dr U 600 rfl trivial ?_
  refine cT rfl rfl rfl (q18) ?_; refine dr U 600 rfl trivial ?_
  refine cT rfl rfl rfl (rfl) ?_; refine dr U 600 rfl trivial ?_
  refine cT rfl rfl rfl (rfl) ?_; refine dr U 600 rfl trivial ?_
  refine bss4 U rfl rfl rfl rfl rfl rfl rfl rfl ?_
  intro w3 hk3 hs3 hg3
  have hB3' : Below w2.heap.size w2 w3 := (Below.refl _ _).grown hg3 (Nat.le_refl _) (fun k e => by cases e)
  have hs := same_calls (allb 2 4) [[48, 48], [48, 49], [49, 48], [49, 49]] a (some ⟨w2.heap.size, 0, none⟩) c 4 w3 (own_sl (own_bw ho hB3')) (hk3.sl 0) (by decide) (by decide)
  rw [show decide (allb 2 4 = [[48, 48], [48, 49], [49, 48], [49, 49]]) = true from by decide] at hs
  have hB3 := bl_tr hB2 hB3' hB2.size
  refine dr U 600 rfl trivial ?_
  refine call (f := 18) rfl rfl cb18 hs ?_
  rintro v w4 ⟨rfl, hB4⟩
  refine ⟨_, rfl, ?_⟩
  refine dr U 600 rfl trivial ?_
  exact ret Tryz.results9 rfl ⟨_, rfl, rfl, bl_tr hB3 hB4 hB3.size⟩
end Go.Proofs.YtcnbohfejgdcbaaGreatDoor
end
