/-
  Walks of frac.Integer and rat.Make; the cells of bit strings.
  Conditions: texts take fewer than 2^40 bytes; the library's table of powers of ten is laid.

  Walks of the reference's limbs: trim, Read, Write.
  Conditions: fewer than 2^36 limbs.

  Walks of the reference's limbs: Plus, Minus, Order.
  Conditions: fewer than 2^36 limbs.

  Walks of the reference's limbs: Order, Times.
  Conditions: fewer than 2^36 limbs.

  Walks of the reference's limbs: short, scaled.
  Conditions: fewer than 2^36 limbs; the small number is below the base (and not 0 where it divides).

  The remainder of an int that may be negative, as the program computes it.
  No conditions: each theorem names its own premises.

  Walk of the reference's step, one digit of a long division.
  Conditions: as the theorem says (a divisor of at least two limbs, the highest not 0; the number is below the divisor times the base).

  Walks of the reference's limbs: Divide, Common.
  Conditions: fewer than 2^36 limbs; the divisor is not 0.

  Walks of the reference: Write, number, both, Add, Sub, Mul, DivMod, Gcd, Cmp.
  Conditions: fewer than 2^36 limbs; texts are no longer than an int can tell.

  Walks of the reference: number, both, Add, Sub, Mul, DivMod, Gcd, Cmp.
  Conditions: texts are no longer than an int can tell.

  Walks of the reference: Power, Pow, FromInt, ToInt, Bits.
  Conditions: texts are no longer than an int can tell.

  Rules of the engine: slices of two or three written-out strings.
  No conditions: each theorem names its own premises.

  Walks of package bits: Cell, All; of the law package's helpers: Same, lives.
  Conditions: texts take fewer than 2^40 bytes; the library's table of powers of ten is laid.
-/
import Derived.Test.YtejlpdbiacmfcaaGreatDoorYRul
import Derived.Test.YtejlpdbiacmfcaaGreatDoorYSto
import Derived.Test.YtejlpdbiacmfcaaGreatDoorYPar
section
set_option linter.unusedSimpArgs false
set_option linter.unusedVariables false
set_option maxHeartbeats 1000000
namespace Go.Proofs.YtejlpdbiacmfcaaGreatDoor
open Go Go.Proofs Go.RowKit Go.Lib

def ineg (x : List UInt8) : Bool := hasPrefix x [45]
def irest (x : List UInt8) : List UInt8 := trimPrefix x [45]
/-- A text of an integer. -/
def IOk (x : List UInt8) : Prop := Form (irest x) ∧ ¬(ineg x = true ∧ irest x = [48])
theorem irest_len (x : List UInt8) : (irest x).length ≤ x.length := by
  unfold irest trimPrefix
  split
  · simp
  · exact Nat.le_refl _

theorem cutminus (x : List UInt8) (w : World) : Calls Tryz.prog 161 #[.string ⟨⟨x⟩⟩, .string ⟨⟨[45]⟩⟩] w (Ret fun v w' => v = .tuple ⟨[.string ⟨⟨irest x⟩⟩, .bool (ineg x)]⟩ ∧ w = w') :=
  (Tryz.strings_CutPrefix ⟨⟨x⟩⟩ ⟨⟨[45]⟩⟩ w).mono (by rintro e w' ⟨rfl, rfl⟩; exact ⟨_, rfl, rfl, rfl⟩)

theorem integer_calls (x : List UInt8) (hx : x.length ≤ 1099511627776) (w : World) :
    Calls Tryz.prog 130 #[.string ⟨⟨x⟩⟩] w (Ret fun v w' => (∃ b, v = .tuple ⟨[.bool (ineg x), .string ⟨⟨irest x⟩⟩, .bool b]⟩ ∧ (b = true ↔ IOk x)) ∧ Below w.heap.size w w') := by
  have hlen := irest_len x
  have hio : IOk x ↔ Form (irest x) ∧ ¬(ineg x = true ∧ irest x = [48]) := Iff.rfl
  refine enter Tryz.func130 rfl Tryz.ntmps130 (Nat.le_of_ble_eq_true rfl) ?_
  refine dr U 600 rfl trivial ?_
  refine call (f := 161) rfl rfl cb161 (cutminus x w) ?_
  rintro v w1 ⟨rfl, rfl⟩
  refine ⟨_, rfl, ?_⟩
  generalize ineg x = ng at *
  generalize irest x = rs at *
  refine dr U 600 rfl trivial ?_
  refine call (f := 131) rfl rfl cb131 (form_calls rs (by omega) w) ?_
  rintro v w1 ⟨⟨b, rfl, hb⟩, hB⟩
  refine ⟨_, rfl, ?_⟩
  cases b with
  | false =>
    refine dr U 600 rfl trivial ?_
    exact ret Tryz.results130 rfl ⟨_, rfl, ⟨false, rfl, by rw [hio]; simp at hb; simp [hb]⟩, hB⟩
  | true =>
    have hf := hb.1 rfl
    cases ng with
    | false =>
      refine dr U 600 rfl trivial ?_
      exact ret Tryz.results130 rfl ⟨_, rfl, ⟨true, rfl, by rw [hio]; simp [hf]⟩, hB⟩
    | true =>
      refine dr U 600 rfl trivial ?_
      refine cS rfl rfl rfl rfl (fun hq => ?_) (fun hq => ?_)
      · refine dr U 600 rfl trivial ?_
        exact ret Tryz.results130 rfl ⟨_, rfl, ⟨false, rfl, by rw [hio]; simp [hq]⟩, hB⟩
      · refine dr U 600 rfl trivial ?_
        exact ret Tryz.results130 rfl ⟨_, rfl, ⟨true, rfl, by rw [hio]; simp [hf, hq]⟩, hB⟩

/-- The errors of Make. -/
def MErr (x y : List UInt8) (e : Int) : Prop :=
  (¬ IOk x ∧ e = 3) ∨ (IOk x ∧ 4000 < (irest x).length ∧ e = 5) ∨ (IOk x ∧ (irest x).length ≤ 4000 ∧ e ≠ 0 ∧ Chk y e) ∨
  (IOk x ∧ (irest x).length ≤ 4000 ∧ Chk y 0 ∧ y = [48] ∧ e = 6) ∨ (IOk x ∧ (irest x).length ≤ 4000 ∧ Chk y 0 ∧ y ≠ [48] ∧ e = 0)
theorem Chk.uniq' {l : List UInt8} {e f : Int} (h : Chk l e) (h' : Chk l f) : e = f := by
  rcases h with ⟨h1, h2, rfl⟩ | ⟨h1, h2, rfl⟩ | ⟨h1, rfl⟩ <;> rcases h' with ⟨h3, h4, rfl⟩ | ⟨h3, h4, rfl⟩ | ⟨h3, rfl⟩ <;> first | rfl | contradiction | omega
theorem MErr.uniq {x y : List UInt8} {e f : Int} (h : MErr x y e) (h' : MErr x y f) : e = f := by
  rcases h with ⟨h1, rfl⟩ | ⟨h1, h2, rfl⟩ | ⟨h1, h2, h3, h4⟩ | ⟨h1, h2, h3, h4, rfl⟩ | ⟨h1, h2, h3, h4, rfl⟩ <;>
    rcases h' with ⟨g1, rfl⟩ | ⟨g1, g2, rfl⟩ | ⟨g1, g2, g3, g4⟩ | ⟨g1, g2, g3, g4, rfl⟩ | ⟨g1, g2, g3, g4, rfl⟩ <;> first
    | rfl
    | contradiction
    | omega
    | exact h4.uniq' g4
    | exact absurd (h4.uniq' g3) h3
    | exact absurd (g4.uniq' h3) g3
/-- What Make answers. -/
def MakeR (x y : List UInt8) (v : Value) : Prop :=
  (∃ e, e ≠ 0 ∧ MErr x y e ∧ v = .tuple ⟨[.string ⟨⟨[]⟩⟩, .int .i64 e]⟩) ∨ (MErr x y 0 ∧ QRes (mkq (ineg x) (dval (irest x)) (dval y)) v)
theorem MakeR.uniq {x y : List UInt8} {v v' : Value} (h : MakeR x y v) (h' : MakeR x y v') : v = v' := by
  rcases h with ⟨e, h1, h2, rfl⟩ | ⟨h2, h⟩ <;> rcases h' with ⟨e', h3, h4, rfl⟩ | ⟨h4, h'⟩
  · rw [h2.uniq h4]
  · exact absurd (h2.uniq h4) h1
  · exact absurd (h4.uniq h2) h3
  · exact h.uniq h'
end Go.Proofs.YtejlpdbiacmfcaaGreatDoor
end
section
set_option linter.unusedSimpArgs false
set_option linter.unusedVariables false
set_option maxHeartbeats 1000000
namespace Go.Proofs.YtejlpdbiacmfcaaGreatDoor
open Go Go.Proofs Go.RowKit Go.Lib

def i64n (n : Nat) : Value := .int .i64 (n : Int)

/-- A slice of limbs that reads as this list. -/
def RdI (w : World) (a : Option Addr) (c : Nat) (xs : List Nat) : Prop := Sl w a (xs.map i64n) ∧ xs.length ≤ c ∧ ∀ g, ab a = some g → Tg w 3 g

theorem RdI.below {w w' : World} {a : Option Addr} {c : Nat} {xs : List Nat} (h : RdI w a c xs) (hb : Below w.heap.size w w') : RdI w' a c xs :=
  ⟨h.1.below hb (fun g hg => (h.2.2 g hg).lt), h.2.1, fun g hg => (h.2.2 g hg).below hb⟩

theorem getI {xs : List Nat} {j : Nat} (h : j < xs.length) : (xs.map i64n)[j]? = some (i64n (xs.getD j 0)) := by simp [h, List.getD]

/-- A fresh slice of limbs, as a result. -/
def OwnI (w w' : World) (v : Value) (zs : List Nat) : Prop := ∃ a c, v = .slice a zs.length c ∧ w'.ownsRow w.heap.size 3 1 (.slice a zs.length c) zs.length (zs.map i64n) ∧ Below w.heap.size w w'

theorem ownI_rd {w : World} {base : Nat} {a : Option Addr} {m c : Nat} {xs : List Nat} (h : w.ownsRow base 3 1 (.slice a m c) m (xs.map i64n)) : RdI w a c xs := by
  have hl := own_len h
  simp at hl
  refine ⟨own_sl h, ?_, own_tag h⟩
  rcases h.2 with ⟨h1, h2⟩ | ⟨g, cap, cur, h1, _, _, h4, _⟩
  · omega
  · simp at h1; omega

theorem rtrim_calls (xs : List Nat) (a : Option Addr) (c : Nat) (w : World) (h : RdI w a c xs) (hl : xs.length ≤ 1099511627776) :
    Calls Tryz.prog 105 #[.slice a xs.length c] w (Ret fun v w' => v = .slice a (trimN xs).length c ∧ w = w') := by
  obtain ⟨hs, hc, _⟩ := h
  refine enter Tryz.func105 rfl Tryz.ntmps105 (Nat.le_of_ble_eq_true rfl) ?_
  refine dr U 600 rfl trivial ?_
  refine loopR (fun l w' m => ∃ j, l = [(0, .slice a j c)] ∧ w = w' ∧ j ≤ xs.length ∧ trimN (xs.take j) = trimN xs ∧ j = m) ⟨xs.length, rfl, rfl, Nat.le_refl _, by simp, rfl⟩ ⟨rfl, trivial⟩ ?_
  rintro l w' m ⟨j, rfl, rfl, hj, ht, rfl⟩
  refine dr U 600 rfl (by first | exact True.intro | (simp only [AllP, InR, List.nil_append, List.cons_append, and_true]; omega)) ?_
  refine cS rfl rfl rfl rfl (fun hq => ?_) (fun hq => ?_)
  · refine dr U 600 rfl (by first | exact True.intro | (simp only [AllP, InR, List.nil_append, List.cons_append, and_true]; omega)) ?_
    obtain ⟨i, rfl⟩ : ∃ i, j = i + 1 := ⟨j - 1, by omega⟩
    rw [take_snoc xs i hj] at ht
    refine il U rfl rfl rfl rfl rfl rfl rfl (fun _ => rfl) rfl i (by omega) (by omega) hs (getI hj) ?_
    refine cS rfl rfl rfl rfl (fun hq => ?_) (fun hq => ?_)
    · refine dr U 600 rfl (by first | exact True.intro | (simp only [AllP, InR, List.nil_append, List.cons_append, and_true]; omega)) ?_
      rw [trimN_snoc0 _ _ (by omega)] at ht
      exact rend _ _ ⟨_, rfl, rfl, by omega, by rw [show (((i + 1 : Nat) : Int) - 1).toNat = i from by omega]; exact ht, rfl⟩ (by omega) ⟨rfl, trivial⟩
    · refine dr U 600 rfl (by first | exact True.intro | (simp only [AllP, InR, List.nil_append, List.cons_append, and_true]; omega)) ?_
      rw [trimN_snoc _ _ (by omega), ← take_snoc xs i hj] at ht
      refine ret Tryz.results105 rfl ⟨_, rfl, ?_, rfl⟩
      rw [← ht]; simp [pack]; omega
  · refine dr U 600 rfl (by first | exact True.intro | (simp only [AllP, InR, List.nil_append, List.cons_append, and_true]; omega)) ?_
    obtain rfl : j = 0 := by omega
    refine ret Tryz.results105 rfl ⟨_, rfl, ?_, rfl⟩
    rw [← ht]; rfl

theorem rtrim_own (xs : List Nat) (a : Option Addr) (c base : Nat) (w : World) (h : w.ownsRow base 3 1 (.slice a xs.length c) xs.length (xs.map i64n)) (hx : Lm xs) (hl : xs.length ≤ 1099511627776) :
    Calls Tryz.prog 105 #[.slice a xs.length c] w (Ret fun v w' => v = .slice a (lim (val xs)).length c ∧ w = w' ∧ w.ownsRow base 3 1 (.slice a (lim (val xs)).length c) (lim (val xs)).length ((lim (val xs)).map i64n)) := by
  refine (rtrim_calls xs a c w (ownI_rd h) hl).mono ?_
  rintro e w' ⟨v, rfl, rfl, rfl⟩
  rw [trimN_eq hx]
  refine ⟨_, rfl, rfl, rfl, ?_⟩
  obtain ⟨t, ht⟩ := trimN_prefix xs
  rw [trimN_eq hx] at ht
  generalize lim (val xs) = zs at ht
  have h1 := own_take h (k := zs.length) (by rw [ht]; simp)
  have h2 : (xs.map i64n).take zs.length = zs.map i64n := by
    rw [ht, List.map_append, List.take_left' (by simp)]
  rw [h2] at h1
  exact h1

theorem OwnI.rd {w w' : World} {v : Value} {zs : List Nat} (h : OwnI w w' v zs) : ∃ a c, v = .slice a zs.length c ∧ RdI w' a c zs ∧ Below w.heap.size w w' := by
  obtain ⟨a, c, rfl, h1, h2⟩ := h
  exact ⟨a, c, rfl, ownI_rd h1, h2⟩

theorem read_in {s : List UInt8} {lo i : Nat} (h1 : lo ≤ i) (h2 : i < s.length) : (s.take (i + 1)).drop lo = (s.take i).drop lo ++ [s[i]] := by
  rw [List.take_succ_eq_append_getElem h2, List.drop_append_of_le_length (by simp; omega)]

theorem read_calls (s : List UInt8) (h : Dgs s) (hl : s.length ≤ 1099511627776) (w : World) :
    Calls Tryz.prog 62 #[.string ⟨⟨s⟩⟩] w (Ret fun v w' => OwnI w w' v (lim (dval s))) := by
  refine enter Tryz.func62 rfl Tryz.ntmps62 (Nat.le_of_ble_eq_true rfl) ?_
  refine dr U 600 rfl trivial ?_
  refine loopR (fun l w' m => ∃ z : Int, ∃ zs a c, l = [(0, .string ⟨⟨s⟩⟩), (3, .slice a zs.length c), (4, .int .i64 z)] ∧ z ≤ s.length ∧ -9 ≤ z ∧ zs.length + z.toNat ≤ s.length ∧ Lm zs ∧ val zs + pw zs.length * dval (s.take z.toNat) = dval s ∧ w'.ownsRow w.heap.size 3 1 (.slice a zs.length c) zs.length (zs.map i64n) ∧ Below w.heap.size w w' ∧ m = z.toNat)
    (l0 := [(0, .string ⟨⟨s⟩⟩), (3, .slice none 0 0), (4, .int .i64 (s.length : Nat))]) ⟨(s.length : Int), ([] : List Nat), none, 0, rfl, by omega, by omega, by simp, Lm.nil, by simp [val, pw_zero], ⟨rfl, .inl ⟨rfl, rfl⟩⟩, Below.refl _ _, rfl⟩ ⟨rfl, rfl, rfl, trivial⟩ ?_
  rintro l w1 m ⟨z, zs, a, c, rfl, hz, hz9, hzs, hzl, hv, ho, hB, rfl⟩
  refine dr U 600 rfl trivial ?_
  refine cS rfl rfl rfl rfl (fun hq => ?_) (fun hq => ?_)
  · obtain ⟨e, rfl⟩ : ∃ e : Nat, z = e := ⟨z.toNat, by omega⟩
    rw [Int.toNat_natCast] at hv hzs
    have hel : e ≤ s.length := by omega
    have hstep := parse_step (by omega) rfl hv hel
    have hch : Dgs ((s.take e).drop (e - 9)) := (h.take e).drop _
    have hcl : ((s.take e).drop (e - 9)).length ≤ 9 := by simp; omega
    have hclt : dval ((s.take e).drop (e - 9)) < 1000000000 := by
      have h1 := dval_lt hch
      have h2 := Nat.pow_le_pow_right (n := 10) (by omega) hcl
      omega
    refine dr U 600 rfl (by first | exact True.intro | (simp only [AllP, InR, List.nil_append, List.cons_append, and_true]; omega)) ?_
    refine loopR (fun l w' m => ∃ i : Nat, l = [(5, .int .i64 (dval ((s.take i).drop (e - 9)) : Nat)), (6, .int .i64 (i : Nat)), (0, .string ⟨⟨s⟩⟩), (3, .slice a zs.length c), (4, .int .i64 (e : Nat))] ∧ e - 9 ≤ i ∧ i ≤ e ∧ w' = w1 ∧ m = e - i)
      (l0 := [(5, .int .i64 (0 : Nat)), (6, .int .i64 ((e - 9 : Nat) : Nat)), (0, .string ⟨⟨s⟩⟩), (3, .slice a zs.length c), (4, .int .i64 (e : Nat))])
      ⟨e - 9, by rw [List.drop_eq_nil_of_le (by simp; omega)]; rfl, Nat.le_refl _, by omega, rfl, rfl⟩ ⟨rfl, iv (by omega), rfl, rfl, rfl, trivial⟩ ?_
    rintro l w2 m ⟨i, rfl, hi1, hi2, rfl, rfl⟩
    refine dr U 600 rfl trivial ?_
    refine cS rfl rfl rfl rfl (fun hq => ?_) (fun hq => ?_)
    · have hi3 : i < e := by omega
      have hil : i < s.length := by omega
      have hgd : s.getD i 0 = s[i] := by simp [List.getD, hil]
      have hdg : isD s[i] := h _ (List.getElem_mem hil)
      have hdr := read_in hi1 hil
      have hdl : dval ((s.take i).drop (e - 9)) < 1000000000 := by
        have h1 := dval_lt ((h.take i).drop (e - 9))
        have h3 : ((s.take i).drop (e - 9)).length ≤ 9 := by simp; omega
        have h2 := Nat.pow_le_pow_right (n := 10) (by omega) h3
        omega
      have hds : dval ((s.take (i + 1)).drop (e - 9)) = dval ((s.take i).drop (e - 9)) * 10 + (s[i].toNat - 48) := by rw [hdr, dval_snoc]
      generalize dval ((s.take i).drop (e - 9)) = n at *
      unfold isD at hdg
      refine dr U 600 rfl ?_ ?_
      · simp only [AllP, InR, List.nil_append, List.cons_append, and_true, Int.toNat_natCast, hgd]
        omega
      refine rend [(5, .int .i64 (dval ((s.take (i + 1)).drop (e - 9)) : Nat)), (6, .int .i64 ((i + 1 : Nat) : Nat)), (0, .string ⟨⟨s⟩⟩), (3, .slice a zs.length c), (4, .int .i64 (e : Nat))] _ ⟨i + 1, rfl, by omega, by omega, rfl, rfl⟩ (by omega) ⟨?_, iv (by omega), rfl, rfl, rfl, trivial⟩
      refine iv ?_
      rw [hds, Int.toNat_natCast, hgd]
      omega
    · obtain rfl : i = e := by omega
      generalize hchk : (s.take i).drop (i - 9) = ch at *
      refine dr U 600 rfl (by first | exact True.intro | (simp only [AllP, InR, List.nil_append, List.cons_append, and_true]; omega)) ?_
      refine ap U (v := (i64n (dval ch))) rfl rfl rfl rfl rfl rfl (fun _ => rfl) rfl (fun _ => rfl) rfl rfl rfl ho hB.size (by omega) (by decide) ?_
      intro a1 c1 w3 ho3 hg3
      refine dr U 600 rfl (by first | exact True.intro | (simp only [AllP, InR, List.nil_append, List.cons_append, and_true]; omega)) ?_
      refine rend [(0, .string ⟨⟨s⟩⟩), (3, .slice a1 (zs.length + 1) c1), (4, .int .i64 ((i : Int) - 9))] _ ⟨(i : Int) - 9, zs ++ [dval ch], a1, c1, by simp, by omega, by omega, by simp; omega, hzl.snoc hclt, by rw [show ((i : Int) - 9).toNat = i - 9 by omega, List.length_append]; exact hstep, by simpa using ho3, hB.grown hg3 hB.size (fun g hg => (own_block ho g hg).1), rfl⟩ (by omega) ⟨rfl, rfl, rfl, trivial⟩
  · have hz0 : z.toNat = 0 := by omega
    rw [hz0, List.take_zero, show dval [] = 0 from rfl] at hv
    refine dr U 600 rfl trivial ?_
    refine call (f := 105) rfl rfl cb105 (rtrim_own zs a c w.heap.size w1 ho hzl (by omega)) ?_
    rintro v w2 ⟨rfl, rfl, ho2⟩
    refine ⟨_, rfl, ?_⟩
    refine dr U 600 rfl trivial ?_
    rw [show val zs = dval s by omega] at ho2 ⊢
    exact ret Tryz.results62 rfl ⟨_, rfl, a, c, rfl, ho2, hB⟩
end Go.Proofs.YtejlpdbiacmfcaaGreatDoor
end
section
set_option linter.unusedSimpArgs false
set_option linter.unusedVariables false
set_option maxHeartbeats 1000000
namespace Go.Proofs.YtejlpdbiacmfcaaGreatDoor
open Go Go.Proofs Go.RowKit Go.Lib

theorem plus_step {zs : List Nat} {A B A' B' i cy x y s : Nat} (hz : zs.length = i) (hs : s = cy + x + y) (hA : A' = A + pw i * x) (hB : B' = B + pw i * y) (h : val zs + cy * pw i = A + B) :
    val (zs ++ [s % 1000000000]) + s / 1000000000 * pw (i + 1) = A' + B' := by
  rw [val_snoc, hz, pw_succ, hA, hB]
  have e : pw i * (s % 1000000000) + s / 1000000000 * (1000000000 * pw i) = pw i * s := by
    have h1 : s / 1000000000 * (1000000000 * pw i) = pw i * (1000000000 * (s / 1000000000)) := by
      rw [← Nat.mul_assoc, Nat.mul_comm, Nat.mul_comm (s / 1000000000)]
    rw [h1, ← Nat.mul_add, Nat.mod_add_div]
  rw [hs] at e ⊢
  rw [Nat.mul_add, Nat.mul_add] at e
  rw [Nat.mul_comm cy] at h
  omega

theorem plus_can {zs : List Nat} {p q : Nat} (hz : Lm zs) (hv : val zs = p + q) (hl : zs.length ≤ max (lim p).length (lim q).length ∨ ∃ k, zs.length = k + 1 ∧ pw k ≤ val zs) : zs = lim (p + q) := by
  rw [← hv]
  refine (lim_val hz (fun k hk => ?_)).symm
  rcases hl with hl | ⟨k', h1, h2⟩
  · rcases Nat.le_total (lim p).length (lim q).length with h | h
    · rw [Nat.max_eq_right h] at hl
      obtain ⟨j, hj⟩ : ∃ j, (lim q).length = j + 1 := ⟨(lim q).length - 1, by omega⟩
      have := lim_len_ge hj
      have := pw_le (show k ≤ j by omega)
      omega
    · rw [Nat.max_eq_left h] at hl
      obtain ⟨j, hj⟩ : ∃ j, (lim p).length = j + 1 := ⟨(lim p).length - 1, by omega⟩
      have := lim_len_ge hj
      have := pw_le (show k ≤ j by omega)
      omega
  · obtain rfl : k = k' := by omega
    exact h2


theorem plus_calls (p q : Nat) (a b : Option Addr) (c d : Nat) (w : World) (ha : RdI w a c (lim p)) (hb : RdI w b d (lim q)) (hpl : (lim p).length ≤ 1099511627776) (hql : (lim q).length ≤ 1099511627776) :
    Calls Tryz.prog 61 #[.slice a (lim p).length c, .slice b (lim q).length d] w (Ret fun v w' => OwnI w w' v (lim (p + q))) := by
  have hxl := lim_Lm p
  have hyl := lim_Lm q
  have hvp := val_lim p
  have hvq := val_lim q
  have hcan := fun zs h1 h2 h3 => @plus_can zs p q h1 h2 h3
  generalize hxs : lim p = xs at *
  generalize hys : lim q = ys at *
  refine enter Tryz.func61 rfl Tryz.ntmps61 (Nat.le_of_ble_eq_true rfl) ?_
  refine dr U 600 rfl trivial ?_
  refine loopR (fun l w' m => ∃ i zs cy ao co, l = [(0, .slice a xs.length c), (1, .slice b ys.length d), (5, .slice ao i co), (6, .int .i64 (cy : Nat)), (7, .int .i64 (i : Nat))] ∧ i ≤ max xs.length ys.length + 1 ∧ zs.length = i ∧ Lm zs ∧ cy ≤ 1 ∧
    val zs + cy * pw i = val (xs.take i) + val (ys.take i) ∧ (i ≤ max xs.length ys.length ∨ (cy = 0 ∧ ∃ k, i = k + 1 ∧ pw k ≤ val zs)) ∧ w'.ownsRow w.heap.size 3 1 (.slice ao i co) i (zs.map i64n) ∧ Below w.heap.size w w' ∧ m = max xs.length ys.length + 1 - i)
    ⟨0, [], 0, none, 0, rfl, by omega, rfl, Lm.nil, by omega, by simp [val], .inl (by omega), ⟨rfl, .inl ⟨rfl, rfl⟩⟩, Below.refl _ _, rfl⟩ ⟨rfl, rfl, rfl, rfl, rfl, trivial⟩ ?_
  rintro l w' m ⟨i, zs, cy, ao, co, rfl, hi, hz, hzl, hcy, hv, hd, ho, hB, rfl⟩
  refine dr U 600 rfl trivial ?_
  refine cS rfl rfl rfl rfl (fun hq => ?_) (fun hq => ?_)
  · have hi' : i < xs.length := by omega
    have hx1 := hxl.getD i
    have hs1 := val_take_succ xs i hi'
    refine dr U 600 rfl trivial ?_
    refine cT rfl rfl rfl (by omega) ?_
    refine dr U 600 rfl trivial ?_
    refine il U rfl rfl rfl rfl rfl rfl rfl (fun _ => rfl) rfl i (by omega) (by omega) (ha.below hB).1 (getI hi') ?_
    generalize hx2 : xs.getD i 0 = x at *
    refine dr U 600 rfl (by first | exact True.intro | (simp only [AllP, InR, List.nil_append, List.cons_append, and_true]; omega)) ?_
    refine cS rfl rfl rfl rfl (fun hq => ?_) (fun hq => ?_)
    · have hj : i < ys.length := by omega
      have hy1 := hyl.getD i
      have hs2 := val_take_succ ys i hj
      refine dr U 600 rfl trivial ?_
      refine il U rfl rfl rfl rfl rfl rfl rfl (fun _ => rfl) rfl i (by omega) (by omega) (hb.below hB).1 (getI hj) ?_
      generalize hy2 : ys.getD i 0 = y at *
      refine dr U 600 rfl (by first | exact True.intro | (simp only [AllP, InR, List.nil_append, List.cons_append, and_true]; omega)) ?_
      refine ap U (v := (i64n ((cy + x + y) % 1000000000))) (iv (by omega)) rfl rfl rfl rfl rfl (fun _ => rfl) rfl (fun _ => rfl) rfl rfl rfl ho hB.size (by omega) (by decide) ?_
      intro a1 c1 w1 ho1 hg1
      refine dr U 600 rfl (by first | exact True.intro | (simp only [AllP, InR, List.nil_append, List.cons_append, and_true]; omega)) ?_
      refine rend _ _ ⟨i + 1, zs ++ [(cy + x + y) % 1000000000], (cy + x + y) / 1000000000, a1, c1, rfl, by omega, by simp [hz], hzl.snoc (by omega), by omega, plus_step hz rfl hs1 hs2 hv, ?_, by simpa using ho1, hB.grown hg1 hB.size (fun g hg => (own_block ho g hg).1), rfl⟩ (by omega) ⟨rfl, rfl, rfl, iv (by omega), iv (by omega), trivial⟩
      exact .inl (by omega)
    · have hs2 := val_take_beyond ys i (by omega)
      refine dr U 600 rfl (by first | exact True.intro | (simp only [AllP, InR, List.nil_append, List.cons_append, and_true]; omega)) ?_
      refine ap U (v := (i64n ((cy + x) % 1000000000))) (iv (by omega)) rfl rfl rfl rfl rfl (fun _ => rfl) rfl (fun _ => rfl) rfl rfl rfl ho hB.size (by omega) (by decide) ?_
      intro a1 c1 w1 ho1 hg1
      refine dr U 600 rfl (by first | exact True.intro | (simp only [AllP, InR, List.nil_append, List.cons_append, and_true]; omega)) ?_
      refine rend _ _ ⟨i + 1, zs ++ [(cy + x) % 1000000000], (cy + x) / 1000000000, a1, c1, rfl, by omega, by simp [hz], hzl.snoc (by omega), by omega, plus_step hz (by omega) hs1 hs2 hv, ?_, by simpa using ho1, hB.grown hg1 hB.size (fun g hg => (own_block ho g hg).1), rfl⟩ (by omega) ⟨rfl, rfl, rfl, iv (by omega), iv (by omega), trivial⟩
      exact .inl (by omega)
  · have hs1 := val_take_beyond xs i (by omega)
    have hx0 : ¬ i < xs.length := by omega
    refine dr U 600 rfl trivial ?_
    refine cS rfl rfl rfl rfl (fun hq => ?_) (fun hq => ?_)
    · have hj : i < ys.length := by omega
      have hy1 := hyl.getD i
      have hs2 := val_take_succ ys i hj
      refine dr U 600 rfl trivial ?_
      refine cF rfl rfl rfl (by omega) ?_
      refine dr U 600 rfl trivial ?_
      refine cT rfl rfl rfl (by omega) ?_
      refine dr U 600 rfl trivial ?_
      refine il U rfl rfl rfl rfl rfl rfl rfl (fun _ => rfl) rfl i (by omega) (by omega) (hb.below hB).1 (getI hj) ?_
      generalize hy2 : ys.getD i 0 = y at *
      refine dr U 600 rfl (by first | exact True.intro | (simp only [AllP, InR, List.nil_append, List.cons_append, and_true]; omega)) ?_
      refine ap U (v := (i64n ((cy + y) % 1000000000))) (iv (by omega)) rfl rfl rfl rfl rfl (fun _ => rfl) rfl (fun _ => rfl) rfl rfl rfl ho hB.size (by omega) (by decide) ?_
      intro a1 c1 w1 ho1 hg1
      refine dr U 600 rfl (by first | exact True.intro | (simp only [AllP, InR, List.nil_append, List.cons_append, and_true]; omega)) ?_
      refine rend _ _ ⟨i + 1, zs ++ [(cy + y) % 1000000000], (cy + y) / 1000000000, a1, c1, rfl, by omega, by simp [hz], hzl.snoc (by omega), by omega, plus_step hz (by omega) hs1 hs2 hv, ?_, by simpa using ho1, hB.grown hg1 hB.size (fun g hg => (own_block ho g hg).1), rfl⟩ (by omega) ⟨rfl, rfl, rfl, iv (by omega), iv (by omega), trivial⟩
      exact .inl (by omega)
    · have hs2 := val_take_beyond ys i (by omega)
      have hy0 : ¬ i < ys.length := by omega
      refine dr U 600 rfl trivial ?_
      refine cS rfl rfl rfl rfl (fun hq => ?_) (fun hq => ?_)
      · obtain rfl : cy = 1 := by omega
        have hi2 : i = max xs.length ys.length := by
          rcases hd with h | ⟨h, _⟩
          · omega
          · omega
        refine dr U 600 rfl trivial ?_
        refine cF rfl rfl rfl (by omega) ?_
        refine dr U 600 rfl trivial ?_
        refine cF rfl rfl rfl (by omega) ?_
        refine dr U 600 rfl (by first | exact True.intro | (simp only [AllP, InR, List.nil_append, List.cons_append, and_true]; omega)) ?_
        refine ap U (v := (i64n (1 % 1000000000))) (iv (by omega)) rfl rfl rfl rfl rfl (fun _ => rfl) rfl (fun _ => rfl) rfl rfl rfl ho hB.size (by omega) (by decide) ?_
        intro a1 c1 w1 ho1 hg1
        refine dr U 600 rfl (by first | exact True.intro | (simp only [AllP, InR, List.nil_append, List.cons_append, and_true]; omega)) ?_
        refine rend _ _ ⟨i + 1, zs ++ [1 % 1000000000], 1 / 1000000000, a1, c1, rfl, by omega, by simp [hz], hzl.snoc (by omega), by omega, plus_step hz (by omega) hs1 hs2 hv, ?_, by simpa using ho1, hB.grown hg1 hB.size (fun g hg => (own_block ho g hg).1), rfl⟩ (by omega) ⟨rfl, rfl, rfl, iv (by omega), iv (by omega), trivial⟩
        refine .inr ⟨rfl, i, rfl, ?_⟩
        rw [val_snoc, hz]
        have := pw_pos i
        omega
      · obtain rfl : cy = 0 := by omega
        refine dr U 600 rfl trivial ?_
        refine ret Tryz.results61 rfl ⟨_, rfl, ?_⟩
        have e := hcan zs hzl (by rw [take_all (by omega), take_all (by omega)] at hv; omega) (by
          rcases hd with h | ⟨_, k, h1, h2⟩
          · exact .inl (by omega)
          · exact .inr ⟨k, by omega, h2⟩)
        have e2 : (lim (p + q)).length = i := by rw [← e]; exact hz
        refine ⟨ao, co, by rw [e2]; rfl, ?_, hB⟩
        rw [e2, ← e]; exact ho


end Go.Proofs.YtejlpdbiacmfcaaGreatDoor
end
section
set_option linter.unusedSimpArgs false
set_option linter.unusedVariables false
set_option maxHeartbeats 1000000
namespace Go.Proofs.YtejlpdbiacmfcaaGreatDoor
open Go Go.Proofs Go.RowKit Go.Lib

end Go.Proofs.YtejlpdbiacmfcaaGreatDoor
end
section
set_option linter.unusedSimpArgs false
set_option linter.unusedVariables false
set_option maxHeartbeats 1000000
namespace Go.Proofs.YtejlpdbiacmfcaaGreatDoor
open Go Go.Proofs Go.RowKit Go.Lib

end Go.Proofs.YtejlpdbiacmfcaaGreatDoor
end
section
set_option linter.unusedSimpArgs false
set_option linter.unusedVariables false
namespace Go.Proofs.YtejlpdbiacmfcaaGreatDoor
open Go Go.Proofs Go.RowKit

theorem tmod_range (x n : Int) (hn : 1 ≤ n) : -n < x.tmod n ∧ x.tmod n < n ∧ (0 ≤ x → 0 ≤ x.tmod n) := by
  rcases Int.le_total 0 x with h | h
  · rw [Int.tmod_eq_emod_of_nonneg h]
    have := Int.emod_nonneg x (show n ≠ 0 by omega)
    have := Int.emod_lt_of_pos x (show 0 < n by omega)
    omega
  · obtain ⟨y, rfl⟩ : ∃ y, x = -y := ⟨-x, by omega⟩
    rw [Int.neg_tmod, Int.tmod_eq_emod_of_nonneg (by omega)]
    have := Int.emod_nonneg y (show n ≠ 0 by omega)
    have := Int.emod_lt_of_pos y (show 0 < n by omega)
    refine ⟨by omega, by omega, fun h0 => ?_⟩
    have : y = 0 := by omega
    subst this
    simp
section
variable {P : Program} {ro : Option Nat} {n : Nat} {ds : List Deferred} {Q : PT} {l l' : Fr} {w w' : World} {arr : Array Oper} {r : List Oper} {k : List It}
theorem rem1 {d : Nat} {t t2 ty : TypeId} {x y : Operand} {ps : String} {af : Array Edge} {g : Option (Nat × Bool)} {kk : IntKind} {m q : Int} (hx : ev l x = some (.int kk m)) (hy : ev l y = some (.int kk q)) (hq : q ≠ 0) (hg : gd arr l g = some true) (hd : Nat.blt d n = true)
    (t' : T P ro n ds Q ((d, .int kk (m.tmod q)) :: l) w (.ops arr r) k) : T P ro n ds Q l w (.ops arr (⟨some d, .binOp .rem t x y t2, ty, ps, af, g⟩ :: r)) k :=
  op1 (v := .int kk (m.tmod q)) (by intro c h; cases h) hg (put1_some hd) (fun a hf => by simp [execOp, hf.ev hx, hf.ev hy, eqGuard, binOp, Op.intDiv, hq]) t'
end
end Go.Proofs.YtejlpdbiacmfcaaGreatDoor
end
section
set_option linter.unusedSimpArgs false
set_option linter.unusedVariables false
set_option maxHeartbeats 2000000
namespace Go.Proofs.YtejlpdbiacmfcaaGreatDoor
open Go Go.Proofs Go.RowKit Go.Lib

end Go.Proofs.YtejlpdbiacmfcaaGreatDoor
end
section
set_option linter.unusedSimpArgs false
set_option linter.unusedVariables false
set_option maxHeartbeats 2000000
namespace Go.Proofs.YtejlpdbiacmfcaaGreatDoor
open Go Go.Proofs Go.RowKit Go.Lib

/-- A result that reads as these limbs. -/
def RedI (w : World) (v : Value) (zs : List Nat) : Prop := ∃ a c, v = .slice a zs.length c ∧ RdI w a c zs
theorem OwnI.red {w w' : World} {v : Value} {zs : List Nat} (h : OwnI w w' v zs) : RedI w' v zs := by
  obtain ⟨a, c, rfl, ho, _⟩ := h
  exact ⟨a, c, rfl, ownI_rd ho⟩
theorem RedI.below {w w' : World} {v : Value} {zs : List Nat} (h : RedI w v zs) (hb : Below w.heap.size w w') : RedI w' v zs := by
  obtain ⟨a, c, rfl, hr⟩ := h
  exact ⟨a, c, rfl, hr.below hb⟩
theorem RdI.nil (w : World) : RdI w none 0 [] := ⟨Sl.nil _ _, Nat.le_refl _, fun g h => by cases h⟩

end Go.Proofs.YtejlpdbiacmfcaaGreatDoor
end
section
set_option linter.unusedSimpArgs false
set_option linter.unusedVariables false
set_option maxHeartbeats 1000000
namespace Go.Proofs.YtejlpdbiacmfcaaGreatDoor
open Go Go.Proofs Go.RowKit Go.Lib

section
variable {P : Program} (U : Tys P) {ro : Option Nat} {n : Nat} {ds : List Deferred} {Q : PT} {l l' : Fr} {w w' : World} {arr : Array Oper} {r : List Oper} {k : List It}
/-- Bytes to a string, wherever they lie. -/
theorem bstrS {d : Nat} {t t2 e ty : TypeId} {x : Operand} {ps : String} {af : Array Edge} {g : Option (Nat × Bool)} {a : Option Addr} {c m : Nat} {bs : List UInt8}
    (hx : ev l x = some (.slice a m c)) (ht : U.tb.u t = some (.slice e)) (he : U.tb.u e = some (.int .u8)) (h2 : U.tb.u t2 = some .string) (hg : gd arr l g = some true) (hd : Nat.blt d n = true)
    (hm : bs.length = m) (hne : bs ≠ []) (hc : Sl w a (byteCells bs))
    (t' : T P ro n ds Q ((d, .string ⟨⟨bs⟩⟩) :: l) w (.ops arr r) k) : T P ro n ds Q l w (.ops arr (⟨some d, .convert t t2 x, ty, ps, af, g⟩ :: r)) k := by
  subst hm
  have hb : ∀ j (hj : j < bs.length), (byteCells bs)[j]? = some (.int .u8 (bs[j].toNat : Int)) := fun j hj => by simp [byteCells, hj]
  obtain ⟨g0, off, rfl, _⟩ := hc 0 _ (hb 0 (List.length_pos_iff.2 hne))
  have := run_convert_bytes_back (P := P) w t t2 e ⟨g0, off, none⟩ c bs (U.hu _ _ ht) (U.hu _ _ he) (U.hu _ _ h2) (fun j hj => by
    obtain ⟨g1, o1, e1, hc1⟩ := hc j _ (hb j hj)
    cases e1
    rw [add_plain]; exact hc1)
  exact op1 (w' := w) (by intro c h; cases h) hg (put1_some hd) (fun a hf => by simp [execOp, hf.ev hx, this]) t'
end

theorem rep_u8 (k : Nat) : List.replicate k (Value.int .u8 0) = byteCells (List.replicate k 0) := by simp [byteCells]
theorem wr_set (P S R : List UInt8) (i q : Nat) (c : UInt8) (hP : P.length = i) : (byteCells (P ++ (List.replicate (q + 1) 0 ++ (S ++ R)))).set (i + q) (.int .u8 (c.toNat : Int)) = byteCells (P ++ (List.replicate q 0 ++ (c :: S ++ R))) := by
  unfold byteCells
  rw [show (Value.int .u8 (c.toNat : Int)) = (fun b : UInt8 => Value.int .u8 (b.toNat : Int)) c from rfl, ← List.map_set]
  congr 1
  subst hP
  rw [List.set_append_right _ _ (by omega), show P.length + q - P.length = q by omega, List.replicate_succ', List.append_assoc, List.set_append_right _ _ (by simp)]
  simp
theorem dval_cons48 (t : List UInt8) : dval (48 :: t) = dval t := by unfold dval; rw [dvalA_cons]; rfl
theorem dval_cons (c : UInt8) (t : List UInt8) : dval (c :: t) = (c.toNat - 48) * 10 ^ t.length + dval t := by
  unfold dval; rw [dvalA_cons, dvalA_eq]; simp [dval]
theorem byteCells_len (l : List UInt8) : (byteCells l).length = l.length := by simp [byteCells]

theorem write_ref (n : Nat) (a : Option Addr) (c : Nat) (w : World) (ha : RdI w a c (lim n)) (hl : (lim n).length ≤ 68719476736) :
    Calls Tryz.prog 65 #[.slice a (lim n).length c] w (Ret fun v w' => v = .string ⟨⟨decDigits n⟩⟩ ∧ Below w.heap.size w w') := by
  have hxl := lim_Lm n
  have hvn := val_lim n
  have hnil := @lim_eq_nil n
  generalize hxs : lim n = xs at *
  refine enter Tryz.func65 rfl Tryz.ntmps65 (Nat.le_of_ble_eq_true rfl) ?_
  refine dr U 600 rfl trivial ?_
  refine cS rfl rfl rfl rfl (fun hq => ?_) (fun hq => ?_)
  · have h0 : n = 0 := hnil.1 (List.length_eq_zero_iff.1 (by omega))
    refine dr U 600 rfl trivial ?_
    refine ret Tryz.results65 rfl ⟨_, rfl, ?_, Below.refl _ _⟩
    rw [h0]
    show Value.string _ = Value.string _
    rw [decDigits, dif_pos (by omega)]; rfl
  · have hL : 0 < xs.length := by omega
    refine dr U 600 rfl (by first | exact True.intro | (simp only [AllP, InR, List.nil_append, List.cons_append, and_true]; omega)) ?_
    refine mkn U rfl rfl rfl rfl rfl rfl rfl (9 * xs.length) (by omega) (by omega) (by omega) (by omega) w.heap.size (Nat.le_refl _) ?_
    intro a0 w0 ho0 hg0
    rw [rep_u8] at ho0
    refine dr U 600 rfl trivial ?_
    refine loopR (fun l w' m => ∃ (i : Nat) (P : List UInt8), l = [(0, .slice a xs.length c), (3, .slice a0 (9 * xs.length) (9 * xs.length)), (4, .int .i64 (i : Nat))] ∧ i ≤ xs.length ∧ P.length = 9 * i ∧ Dgs P ∧ dval P = val (xs.drop (xs.length - i)) ∧
        w'.ownsRow w.heap.size 5 1 (.slice a0 (9 * xs.length) (9 * xs.length)) (9 * xs.length) (byteCells (P ++ List.replicate (9 * xs.length - 9 * i) 0)) ∧ Below w.heap.size w w' ∧ m = xs.length - i)
      ⟨0, [], rfl, by omega, rfl, fun c h => (by cases h), by simp [val, dval, dvalA_nil], by simpa using ho0, (Below.refl _ _).grown hg0 (Nat.le_refl _) (fun k e => by cases e), rfl⟩ ⟨rfl, rfl, rfl, trivial⟩ ?_
    rintro l w1 m ⟨i, P, rfl, hi, hPl, hPd, hPv, ho, hB, rfl⟩
    refine dr U 600 rfl trivial ?_
    refine cS rfl rfl rfl rfl (fun hq => ?_) (fun hq => ?_)
    · have hi' : i < xs.length := by omega
      have hx1 := hxl.getD (xs.length - 1 - i)
      have hdr : val (xs.drop (xs.length - (i + 1))) = xs.getD (xs.length - 1 - i) 0 + 1000000000 * val (xs.drop (xs.length - i)) := by
        rw [show xs.length - (i + 1) = xs.length - 1 - i by omega, List.drop_eq_getElem_cons (by omega), val_cons, show xs.length - 1 - i + 1 = xs.length - i by omega]
        simp [List.getD, show xs.length - 1 - i < xs.length by omega]
      have hgx := getI (xs := xs) (j := xs.length - 1 - i) (by omega)
      generalize xs.getD (xs.length - 1 - i) 0 = x at *
      refine dr U 600 rfl (by first | exact True.intro | (simp only [AllP, InR, List.nil_append, List.cons_append, and_true]; omega)) ?_
      refine il U rfl rfl rfl rfl rfl rfl rfl (fun _ => rfl) rfl (xs.length - 1 - i) (by omega) (by omega) (ha.below hB).1 hgx ?_
      refine dr U 600 rfl trivial ?_
      refine loopR (fun l w' m => ∃ (j : Nat) (S : List UInt8), l = [(0, .slice a xs.length c), (3, .slice a0 (9 * xs.length) (9 * xs.length)), (4, .int .i64 (i : Nat)), (5, .int .i64 ((x / 10 ^ j : Nat) : Nat)), (6, .int .i64 (8 - (j : Int)))] ∧ j ≤ 9 ∧ S.length = j ∧ Dgs S ∧ dval S = x % 10 ^ j ∧
          w'.ownsRow w.heap.size 5 1 (.slice a0 (9 * xs.length) (9 * xs.length)) (9 * xs.length) (byteCells (P ++ (List.replicate (9 - j) 0 ++ (S ++ List.replicate (9 * xs.length - 9 * i - 9) 0)))) ∧ Below w.heap.size w w' ∧ m = 9 - j)
        (l0 := [(0, .slice a xs.length c), (3, .slice a0 (9 * xs.length) (9 * xs.length)), (4, .int .i64 (i : Nat)), (5, .int .i64 ((x / 10 ^ 0 : Nat) : Nat)), (6, .int .i64 (8 - ((0 : Nat) : Int)))])
        ⟨0, [], rfl, by omega, rfl, fun c h => (by cases h), by simp [dval, dvalA_nil, Nat.mod_one], ?_, hB, rfl⟩ ⟨rfl, rfl, rfl, iv (by simp), rfl, trivial⟩ ?_
      · rw [show 9 * xs.length - 9 * i = 9 + (9 * xs.length - 9 * i - 9) by omega, ← List.replicate_append_replicate] at ho
        simpa using ho
      clear ho hB
      rintro l w2 m ⟨j, S, rfl, hj, hSl, hSd, hSv, ho, hB, rfl⟩
      refine dr U 600 rfl trivial ?_
      refine cS rfl rfl rfl rfl (fun hq => ?_) (fun hq => ?_)
      · have hj' : j < 9 := by omega
        have hms : x % 10 ^ (j + 1) = x % 10 ^ j + 10 ^ j * (x / 10 ^ j % 10) := Nat.mod_pow_succ
        have hds : x / 10 ^ (j + 1) = x / 10 ^ j / 10 := by rw [Nat.pow_succ, Nat.div_div_eq_div_mul]
        have hxj : x / 10 ^ j ≤ x := Nat.div_le_self _ _
        generalize x / 10 ^ j = n1 at *
        have hd10 := ofNat_d (k := n1 % 10) (by omega)
        generalize hcc : UInt8.ofNat (48 + n1 % 10) = ch at *
        obtain ⟨q, hq9⟩ : ∃ q, 9 - j = q + 1 := ⟨9 - j - 1, by omega⟩
        rw [hq9] at ho
        refine dr U 600 rfl (by first | exact True.intro | (simp only [AllP, InR, List.nil_append, List.cons_append, and_true]; omega)) ?_
        refine is U (v := (.int .u8 (ch.toNat : Int))) rfl rfl rfl rfl rfl rfl rfl (fun _ => rfl) (fun _ => iv (by omega)) (fun _ => rfl) rfl rfl (9 * i + q) (by omega) (by omega) ho ?_
        intro p0 w3 ho3 hg3 _
        rw [wr_set P S _ _ q ch hPl] at ho3
        refine dr U 600 rfl (by first | exact True.intro | (simp only [AllP, InR, List.nil_append, List.cons_append, and_true]; omega)) ?_
        refine rend [(0, .slice a xs.length c), (3, .slice a0 (9 * xs.length) (9 * xs.length)), (4, .int .i64 (i : Nat)), (5, .int .i64 ((x / 10 ^ (j + 1) : Nat) : Nat)), (6, .int .i64 (8 - ((j + 1 : Nat) : Int)))] _
          ⟨j + 1, ch :: S, rfl, by omega, by simp [hSl], fun c hc => ?_, ?_, ?_, hB.grown hg3 hB.size (fun g hg => (own_block ho g hg).1), rfl⟩ (by omega) ⟨rfl, rfl, rfl, iv (by rw [hds]; omega), iv (by omega), trivial⟩
        · rcases List.mem_cons.1 hc with h | h
          · subst h; unfold isD; omega
          · exact hSd c h
        · rw [dval_cons, hd10, hSl, hms, hSv, Nat.mul_comm (10 ^ j)]
          rw [show 48 + n1 % 10 - 48 = n1 % 10 by omega]; omega
        · rw [show 9 - (j + 1) = q by omega]; exact ho3
      · obtain rfl : j = 9 := by omega
        refine dr U 600 rfl (by first | exact True.intro | (simp only [AllP, InR, List.nil_append, List.cons_append, and_true]; omega)) ?_
        refine rend _ _ ⟨i + 1, P ++ S, rfl, by omega, by simp [hPl, hSl]; omega, fun c hc => ?_, ?_, ?_, hB, rfl⟩ (by omega) ⟨rfl, rfl, iv (by omega), trivial⟩
        · rcases List.mem_append.1 hc with h | h
          · exact hPd c h
          · exact hSd c h
        · rw [dval_append, hSl, hSv, Nat.mod_eq_of_lt (by omega), hPv, hdr]; omega
        · rw [show 9 * xs.length - 9 * (i + 1) = 9 * xs.length - 9 * i - 9 by omega]
          simpa using ho
    · obtain rfl : i = xs.length := by omega
      rw [Nat.sub_self, List.drop_zero, hvn] at hPv
      rw [Nat.sub_self] at ho
      simp only [List.replicate_zero, List.append_nil] at ho
      have hsl := own_sl ho
      refine dr U 600 rfl (by first | exact True.intro | (simp only [AllP, InR, List.nil_append, List.cons_append, and_true]; omega)) ?_
      refine loopR (fun l w' m => ∃ (B : List UInt8) (a1 : Option Addr) (c1 : Nat), l = [(3, .slice a1 B.length c1)] ∧ B ≠ [] ∧ Dgs B ∧ dval B = n ∧ Sl w1 a1 (byteCells B) ∧ B.length ≤ c1 ∧ B.length ≤ 9 * xs.length ∧ w' = w1 ∧ m = B.length)
        (l0 := [(3, .slice a0 P.length (9 * xs.length))]) ⟨P, a0, 9 * xs.length, rfl, fun e => by rw [e] at hPl; simp at hPl; omega, hPd, hPv, hsl, by omega, by omega, rfl, rfl⟩ ⟨by rw [hPl]; rfl, trivial⟩ ?_
      rintro l w2 m ⟨B, a1, c1, rfl, hne, hBd, hBv, hS, hBc, hBL, rfl, rfl⟩
      have hpos := List.length_pos_iff.2 hne
      refine dr U 600 rfl trivial ?_
      refine cS rfl rfl rfl rfl (fun hq => ?_) (fun hq => ?_)
      · have hlen := hq
        obtain ⟨b0, t, rfl⟩ : ∃ b0 t, B = b0 :: t := by
          cases B with
          | nil => exact absurd rfl hne
          | cons b t => exact ⟨b, t, rfl⟩
        refine dr U 600 rfl trivial ?_
        refine il U rfl rfl rfl rfl rfl rfl rfl (fun _ => rfl) rfl 0 (by omega) (by simp) hS (show (byteCells (b0 :: t))[0]? = some (.int .u8 (b0.toNat : Int)) by simp [byteCells]) ?_
        refine dr U 600 rfl trivial ?_
        refine cS rfl rfl rfl rfl (fun hq => ?_) (fun hq => ?_)
        · have hb0 : b0 = 48 := UInt8.toNat_inj.1 (by simp; omega)
          subst hb0
          have hS1 := hS.drop 1 c1 (by rw [byteCells_len]; exact hBc)
          refine dr U 600 rfl (by first | exact True.intro | (simp only [AllP, InR, List.nil_append, List.cons_append, and_true]; omega)) ?_
          refine rend _ _ ⟨t, sadd a1 c1 1 1, c1 - 1, rfl, fun e => by rw [e] at hlen; simp at hlen, fun c hc => hBd c (List.mem_cons_of_mem _ hc), by rw [← hBv, dval_cons48], by simpa [byteCells] using hS1, by simp at hBc; omega, by simp at hBL; omega, rfl, rfl⟩ (by simp) ⟨?_, trivial⟩
          rfl
        · refine dr U 600 rfl trivial ?_
          refine bstrS U rfl rfl rfl rfl rfl rfl rfl hne hS ?_
          refine dr U 600 rfl trivial ?_
          refine ret Tryz.results65 rfl ⟨_, rfl, ?_, hB⟩
          rw [← hBv, ← dec_of hBd hne (.inr (fun e => ?_))]
          · rfl
          · have : b0 = 48 := Option.some.inj e
            subst this
            exact hq rfl
      · refine dr U 600 rfl trivial ?_
        refine bstrS U rfl rfl rfl rfl rfl rfl rfl hne hS ?_
        refine dr U 600 rfl trivial ?_
        refine ret Tryz.results65 rfl ⟨_, rfl, ?_, hB⟩
        rw [← hBv, ← dec_of hBd hne ?_]
        · rfl
        · obtain ⟨b0, hb0⟩ := List.length_eq_one_iff.1 (show B.length = 1 by omega)
          subst hb0
          by_cases h48 : b0 = 48
          · exact .inl (by rw [h48])
          · exact .inr (fun e => h48 (Option.some.inj e))
end Go.Proofs.YtejlpdbiacmfcaaGreatDoor
end
section
set_option linter.unusedSimpArgs false
set_option linter.unusedVariables false
set_option maxHeartbeats 1000000
namespace Go.Proofs.YtejlpdbiacmfcaaGreatDoor
open Go Go.Proofs Go.RowKit Go.Lib

end Go.Proofs.YtejlpdbiacmfcaaGreatDoor
end
section
set_option linter.unusedSimpArgs false
set_option linter.unusedVariables false
set_option maxHeartbeats 1000000
namespace Go.Proofs.YtejlpdbiacmfcaaGreatDoor
open Go Go.Proofs Go.RowKit Go.Lib

section
variable {P : Program} (U : Tys P) {ro : Option Nat} {n : Nat} {ds : List Deferred} {Q : PT} {l l' : Fr} {w w' : World} {arr : Array Oper} {r : List Oper} {k : List It}
/-- A rune of ASCII as a string. -/
theorem rstr {d : Nat} {t t2 ty : TypeId} {x : Operand} {ps : String} {af : Array Edge} {g : Option (Nat × Bool)} {kk : IntKind} {z : Int} (c : UInt8) (hx : ev l x = some (.int kk z)) (hz : z = (c.toNat : Int)) (hc : c.toNat < 128) {u : TypeDesc} (hs : U.tb.u t = some u) (h2 : U.tb.u t2 = some .string) (hg : gd arr l g = some true) (hd : Nat.blt d n = true)
    (t' : T P ro n ds Q ((d, str [c]) :: l) w (.ops arr r) k) : T P ro n ds Q l w (.ops arr (⟨some d, .convert t t2 x, ty, ps, af, g⟩ :: r)) k := by
  subst hz
  have h1 := run_convert_int_string (P := P) w t t2 kk (c.toNat : Int) (by rw [U.hu _ _ hs]; rfl) (U.hu _ _ h2)
  have h2 : Utf8.encode (c.toNat : Int) = ⟨⟨[c]⟩⟩ := by
    unfold Utf8.encode
    have hv : Utf8.valid (c.toNat : Int) = true := by unfold Utf8.valid; simp; omega
    simp [hv, hc]
  rw [h2] at h1
  exact op1 (w' := w) (by intro c h; cases h) hg (put1_some hd) (fun a hf => by simp [execOp, hf.ev hx, h1, str]) t'
end

end Go.Proofs.YtejlpdbiacmfcaaGreatDoor
end
section
set_option linter.unusedSimpArgs false
set_option linter.unusedVariables false
namespace Go.Proofs.YtejlpdbiacmfcaaGreatDoor
open Go Go.Proofs Go.RowKit

section
variable {P : Program} (U : Tys P) {ro : Option Nat} {n : Nat} {ds : List Deferred} {Q : PT} {l l' : Fr} {w w' : World} {arr : Array Oper} {r : List Oper} {k : List It}
end

end Go.Proofs.YtejlpdbiacmfcaaGreatDoor
end
section
set_option linter.unusedSimpArgs false
set_option linter.unusedVariables false
set_option maxHeartbeats 1000000
namespace Go.Proofs.YtejlpdbiacmfcaaGreatDoor
open Go Go.Proofs Go.RowKit Go.Lib

/-- What Cell answers. -/
def CellR (l : List UInt8) (v : Value) : Prop :=
  (∃ e, e ≠ 0 ∧ SChk l e ∧ v = .tuple ⟨[.string ⟨⟨[]⟩⟩, .string ⟨⟨[]⟩⟩, .int .i64 e]⟩) ∨
  (SChk l 0 ∧ v = .tuple ⟨[.string ⟨⟨qtext (mkq false (bval l) (2 ^ l.length))⟩⟩, .string ⟨⟨qtext (mkq false 1 (2 ^ l.length))⟩⟩, .int .i64 0]⟩)
theorem CellR.uniq {l : List UInt8} {v v' : Value} (h : CellR l v) (h' : CellR l v') : v = v' := by
  rcases h with ⟨e, h1, h2, rfl⟩ | ⟨h2, rfl⟩ <;> rcases h' with ⟨e', h3, h4, rfl⟩ | ⟨h4, rfl⟩
  · rw [h2.uniq h4]
  · exact absurd (h2.uniq h4) h1
  · exact absurd (h4.uniq h2) h3
  · rfl
section
variable {P : Program} {ro : Option Nat} {n : Nat} {ds : List Deferred} {Q : PT} {l l' : Fr} {w w' : World} {arr : Array Oper} {r : List Oper} {k : List It}
end

/-- Strings as cells. -/
def strs (ls : List (List UInt8)) : List Value := ls.map fun s => .string ⟨⟨s⟩⟩
theorem getS {xs : List (List UInt8)} {j : Nat} (h : j < xs.length) : (strs xs)[j]? = some (.string ⟨⟨xs.getD j []⟩⟩) := by simp [strs, h, List.getD]
theorem own_bw {w w' : World} {base e s : Nat} {a : Option Addr} {m c : Nat} {cs : List Value} (h : w.ownsRow base e s (.slice a m c) m cs) (hb : Below w.heap.size w w') : w'.ownsRow base e s (.slice a m c) m cs := by
  refine ⟨h.1, ?_⟩
  rcases h.2 with h | ⟨g, cap, cur, e1, e2, e3, e4⟩
  · exact .inl h
  · exact .inr ⟨g, cap, cur, e1, e2, by rw [hb.block g (Array.getElem?_eq_some_iff.1 e3).1]; exact e3, e4⟩
end Go.Proofs.YtejlpdbiacmfcaaGreatDoor
end
