/-
  Walks of package limbs: Parse and Form.
  Conditions: Parse is asked of a text of digits alone; texts take fewer than 2^40 bytes.
  Walk of package limbs: Form, which tells texts of numbers.
  Conditions: texts take fewer than 2^40 bytes.
  Walks of package nat: Check, first, result.
  Conditions: texts take fewer than 2^40 bytes; numbers fewer than 2^36 limbs; the library's table of powers of ten is laid.
  Walk of package nat: pair, which reads two texts and computes with their numbers.
  Walks of package nat: Add, Mul, Gcd, Sub.
  Conditions: texts take fewer than 2^40 bytes; the library's table of powers of ten is laid.
  Walks of package nat: Cmp, Pow, Sub.
  Walks of package nat: Sub, DivMod.
  Walk of package nat: DivMod.
  Walk of the reference's Check: it says of a text what package nat's Check says.
  Conditions: none but that a text is no longer than an int can tell.
  Walks of the law package's helpers: Pick, sum, product; the texts of given numbers.
  Rational numbers and their texts, in plain arithmetic.
  No conditions: each theorem names its own premises.
  Bit strings and their numbers, in plain arithmetic.
  Walks of package bits: Check, short, power, plus, value, Number.
  Walks of strings.Builder: String, wherever the builder lies.
  Conditions: the builder is one that the call made.
  Walks of strings.Builder: WriteByte; and of the bits' writer, a builder in a struct of its own.
  Walks of package bits: fold, value, Number, Word.
  Structs by value: a struct is read out of its block, and a function returns results that lie in cells.
-/
import Derived.Test.YtejlpdbiacmfcaaGreatDoorYRul
import Derived.Test.YtejlpdbiacmfcaaGreatDoorYLmC
import Derived.Test.YtejlpdbiacmfcaaGreatDoorYLmG
import Derived.Test.YtejlpdbiacmfcaaGreatDoorYBld
import Derived.Lib.AtoiErrMem
import Derived.Shelf.Strings.SlTrimAscii
import Derived.Lib.UnsafeStr
import Derived.Deep.MidRow
set_option linter.unusedSimpArgs false
set_option linter.unusedVariables false
namespace Go.Proofs.YtejlpdbiacmfcaaGreatDoor
section
set_option maxHeartbeats 1000000
open Go Go.Proofs Go.RowKit Go.Lib

theorem parseUint_calls (l : List UInt8) (h : Dgs l) (hne : l ≠ []) (hl : l.length ≤ 9) (w : World) :
  Calls Tryz.prog 163 #[.string ⟨⟨l⟩⟩, .int .i64 10, .int .i64 64] w (Ret fun v w' => v = .tuple ⟨[u64 (dval l), .nilIface]⟩ ∧ Below w.heap.size w w') :=
 (Tryz.strconv_ParseUint_10_at64_ok ⟨⟨l⟩⟩ (show l.length ≤ _ by omega) (dval l) (parse_chunk h hne hl) w).mono (by
  rintro e w' ⟨rfl, rfl | rfl⟩
  ·exact ⟨_, rfl, rfl, Below.refl _ _⟩
  ·exact ⟨_, rfl, rfl, bytesWorld_below _ _ _⟩)

theorem parse_step {s : List UInt8} {zs : List Nat} {k e : Nat} (he : 0 < e) (hk : zs.length = k) (h : val zs + pw k * dval (s.take e) = dval s) (hel : e ≤ s.length) :
  val (zs ++ [dval ((s.take e).drop (e - 9))]) + pw (k + 1) * dval (s.take (e - 9)) = dval s := by
 rw [val_snoc, hk, pw_succ]
 have h1 : s.take e = s.take (e - 9) ++ (s.take e).drop (e - 9) := by
  have := (List.take_append_drop (e - 9) (s.take e)).symm
  rw [List.take_take, Nat.min_eq_left (by omega)] at this
  exact this
 have h2 : dval (s.take e) = dval (s.take (e - 9)) * 10 ^ ((s.take e).drop (e - 9)).length + dval ((s.take e).drop (e - 9)) := by
  conv => lhs; rw [h1]
  exact dval_append _ _
 rcases Nat.lt_or_ge e 9 with h9 | h9
 ·have h3 : e - 9 = 0 := by omega
  rw [h3] at h2 ⊢
  simp only [List.take_zero, List.drop_zero] at h2 ⊢
  have : dval [] = 0 := rfl
  rw [this]; omega
 ·have h3 : ((s.take e).drop (e - 9)).length = 9 := by simp; omega
  rw [h3] at h2
  rw [h2, Nat.mul_add] at h
  have h4 : 1000000000 * pw k * dval (s.take (e - 9)) = pw k * (dval (s.take (e - 9)) * 10 ^ 9) := by
   rw [Nat.mul_comm 1000000000, Nat.mul_assoc, Nat.mul_comm 1000000000]
  omega

theorem parse_calls (s : List UInt8) (h : Dgs s) (hl : s.length ≤ 1099511627776) (w : World) :
  Calls Tryz.prog 132 #[.string ⟨⟨s⟩⟩] w (Ret fun v w' => Own w w' v (lim (dval s))) := by
 refine enter Tryz.func132 rfl Tryz.ntmps132 (Nat.le_of_ble_eq_true rfl) ?_
 refine dT rfl ?_
 refine loopR (fun l w' m => ∃ z : Int, ∃ zs a c, l = [(0, .string ⟨⟨s⟩⟩), (3, .slice a zs.length c), (4, .int .i64 z)] ∧ z ≤ s.length ∧ -9 ≤ z ∧ zs.length + z.toNat ≤ s.length ∧ Lm zs ∧ val zs + pw zs.length * dval (s.take z.toNat) = dval s ∧ w'.ownsRow w.heap.size 79 1 (.slice a zs.length c) zs.length (zs.map u64) ∧ Below w.heap.size w w' ∧ m = z.toNat)
  (l0 := [(0, .string ⟨⟨s⟩⟩), (3, .slice none 0 0), (4, .int .i64 (s.length : Nat))]) ⟨(s.length : Int), ([] : List Nat), none, 0, rfl, by omega, by omega, by simp, Lm.nil, by simp [val, pw_zero], ⟨rfl, .inl ⟨rfl, rfl⟩⟩, Below.refl _ _, rfl⟩ ⟨rfl, rfl, rfl, trivial⟩ ?_
 rintro l w1 m ⟨z, zs, a, c, rfl, hz, hz9, hzs, hzl, hv, ho, hB, rfl⟩
 refine dT rfl ?_
 refine cS rfl rfl rfl rfl (fun hq => ?_) (fun hq => ?_)
 ·obtain ⟨e, rfl⟩ : ∃ e : Nat, z = e := ⟨z.toNat, by omega⟩
  rw [Int.toNat_natCast] at hv hzs
  have hel : e ≤ s.length := by omega
  have hstep := parse_step (by omega) rfl hv hel
  have hch : Dgs ((s.take e).drop (e - 9)) := (h.take e).drop _
  have hcl : ((s.take e).drop (e - 9)).length ≤ 9 := by simp; omega
  have hcne : (s.take e).drop (e - 9) ≠ [] := fun e1 => by have := congrArg List.length e1; simp at this; omega
  have hclt : dval ((s.take e).drop (e - 9)) < 1000000000 := by
   have h1 := dval_lt hch
   have h2 := Nat.pow_le_pow_right (n := 10) (by omega) hcl
   omega
  refine dS rfl ?_
  rw [show (max 0 ((e : Int) - 9)).toNat = e - 9 by omega, Int.toNat_natCast]
  generalize hchk : (s.take e).drop (e - 9) = ch at *
  refine call (f := 163) rfl rfl cb163 (parseUint_calls ch hch hcne hcl w1) ?_
  rintro v w2 ⟨rfl, hB2⟩
  refine ⟨_, rfl, ?_⟩
  have ho2 : w2.ownsRow w.heap.size 79 1 (.slice a zs.length c) zs.length (zs.map u64) := by
   refine ⟨ho.1, ?_⟩
   rcases ho.2 with h | ⟨g, cap, cur, e1, e2, e3, e4⟩
   ·exact .inl h
   ·exact .inr ⟨g, cap, cur, e1, e2, by rw [hB2.block g (Array.getElem?_eq_some_iff.1 e3).1]; exact e3, e4⟩
  have hBW := bl_tr hB hB2 hB.size
  refine dT rfl ?_
  refine ap U (v := (u64 (dval ch))) rfl rfl rfl rfl rfl rfl (fun _ => rfl) rfl (fun _ => rfl) rfl rfl rfl ho2 hBW.size (by omega) (by decide) ?_
  intro a1 c1 w3 ho3 hg3
  refine dS rfl ?_
  refine rend [(0, .string ⟨⟨s⟩⟩), (3, .slice a1 (zs.length + 1) c1), (4, .int .i64 ((e : Int) - 9))] _ ⟨(e : Int) - 9, zs ++ [dval ch], a1, c1, by simp, by omega, by omega, by simp; omega, hzl.snoc hclt, by rw [show ((e : Int) - 9).toNat = e - 9 by omega, List.length_append]; exact hstep, by simpa using ho3, hBW.grown hg3 hBW.size (fun g hg => (own_block ho2 g hg).1), rfl⟩ (by omega) ⟨rfl, rfl, rfl, trivial⟩
 ·have hz0 : z.toNat = 0 := by omega
  rw [hz0, List.take_zero, show dval [] = 0 from rfl] at hv
  refine dT rfl ?_
  refine call (f := 121) rfl rfl cb121 (trim_own zs a c w.heap.size w1 ho hzl (by omega)) ?_
  rintro v w2 ⟨rfl, rfl, ho2⟩
  refine ⟨_, rfl, ?_⟩
  refine dT rfl ?_
  rw [show val zs = dval s by omega] at ho2 ⊢
  exact ret Tryz.results132 rfl ⟨_, rfl, a, c, rfl, ho2, hB⟩
end
section
set_option maxHeartbeats 1000000
open Go Go.Proofs Go.RowKit Go.Lib

def Form (l : List UInt8) : Prop := l ≠ [] ∧ (l = [48] ∨ l.head? ≠ some 48) ∧ Dgs l

theorem form_iff {l : List UInt8} : Form l ↔ ∃ n, l = decDigits n :=
 ⟨fun ⟨h1, h2, h3⟩ => ⟨_, dec_of h3 h1 h2⟩, by
  rintro ⟨n, rfl⟩
  exact ⟨fun e => by have := decDigits_length n; rw [e] at this; have := nDigits_pos n; simp at *; omega, dec_head, (dec_dval n).1⟩⟩

theorem dropW_nil {p : UInt8 → Bool} : ∀ (l : List UInt8), l.dropWhile p = [] ↔ ∀ c ∈ l, p c = true
 | [] => by simp
 | c :: l => by
  rw [List.dropWhile_cons]
  split
  ·rename_i h
   rw [dropW_nil l]; simp [h]
  ·rename_i h
   simp only [List.cons_ne_nil, List.mem_cons, forall_eq_or_imp, false_iff]
   exact fun ⟨h1, _⟩ => h h1

theorem trim_nil (l cs : List UInt8) : trimS l cs = [] ↔ ∀ c ∈ l, cs.contains c = true := by
 unfold trimS trimLeftS trimRightS
 rw [dropW_nil]
 constructor
 ·intro h
  have h1 : l.reverse.dropWhile (cs.contains ·) = [] := by
   cases hd : l.reverse.dropWhile (cs.contains ·) with
   | nil => rfl
   | cons x t =>
    exfalso
    have h2 := h x (by rw [hd]; simp)
    have h3 := List.head?_dropWhile_not (cs.contains ·) l.reverse
    rw [hd] at h3
    simp at h3
    simp at h2
    exact h3 h2
  rw [dropW_nil] at h1
  intro c hc
  exact h1 c (by simpa using hc)
 ·intro h c hc
  have h1 : l.reverse.dropWhile (cs.contains ·) = [] := (dropW_nil _).2 (fun c hc => h c (by simpa using hc))
  rw [h1] at hc
  cases hc

theorem digs_cut (c : UInt8) : ([48, 49, 50, 51, 52, 53, 54, 55, 56, 57] : List UInt8).contains c = true ↔ isD c := by
 have key : ∀ n : Fin 256, ([48, 49, 50, 51, 52, 53, 54, 55, 56, 57] : List UInt8).contains (UInt8.ofNat n.val) = decide (48 ≤ n.val ∧ n.val ≤ 57) := by decide +kernel
 have h := key ⟨c.toNat, c.toNat_lt⟩
 simp only [UInt8.ofNat_toNat] at h
 rw [h]
 simp [isD]

theorem trimstr_calls (l : List UInt8) (hl : l.length ≤ 1099511627776) (w : World) :
  Calls Tryz.prog 162 #[.string ⟨⟨l⟩⟩, .string ⟨⟨[48, 49, 50, 51, 52, 53, 54, 55, 56, 57]⟩⟩] w (Ret fun v w' => (∃ t, v = .string ⟨⟨t⟩⟩ ∧ (t = [] ↔ Dgs l)) ∧ Below w.heap.size w w') :=
 (Any.strings_Trim_laid Tryz.lays160 (by kernel_rfl) ⟨⟨l⟩⟩ ⟨⟨[48, 49, 50, 51, 52, 53, 54, 55, 56, 57]⟩⟩ w (show l.length ≤ _ by omega) (by decide) (ascii_of_all (by decide))).mono (by
  rintro e w' ⟨rfl, hB⟩
  refine ⟨_, rfl, ⟨_, rfl, ?_⟩, hB⟩
  rw [trim_nil]
  exact ⟨fun h c hc => (digs_cut c).1 (h c hc), fun h c hc => (digs_cut c).2 (h c hc)⟩)


theorem form_calls (l : List UInt8) (hl : l.length ≤ 1099511627776) (w : World) :
  Calls Tryz.prog 131 #[.string ⟨⟨l⟩⟩] w (Ret fun v w' => (∃ b, v = .bool b ∧ (b = true ↔ Form l)) ∧ Below w.heap.size w w') := by
 refine enter Tryz.func131 rfl Tryz.ntmps131 (Nat.le_of_ble_eq_true rfl) ?_
 refine dT rfl ?_
 refine cS rfl rfl rfl rfl (fun hq => ?_) (fun hq => ?_)
 ·have hne : l ≠ [] := hq
  have hpos := List.length_pos_iff.2 hne
  refine dT rfl ?_
  refine cS rfl rfl rfl rfl (fun hq => ?_) (fun hq => ?_)
  ·have hhd : l = [48] ∨ l.head? ≠ some 48 := .inl hq
   refine dT rfl ?_
   refine call (f := 162) rfl rfl cb162 (trimstr_calls l hl w) ?_
   rintro v w1 ⟨⟨t, rfl, ht⟩, hB⟩
   refine ⟨_, rfl, ?_⟩
   refine cS rfl rfl rfl rfl (fun hq => ?_) (fun hq => ?_)
   ·refine dT rfl ?_
    exact ret Tryz.results131 rfl ⟨_, rfl, ⟨true, rfl, fun _ => ⟨hne, hhd, ht.1 hq⟩, fun _ => rfl⟩, hB⟩
   ·refine dT rfl ?_
    exact ret Tryz.results131 rfl ⟨_, rfl, ⟨false, rfl, fun h => (by cases h), fun h => absurd (ht.2 h.2.2) hq⟩, hB⟩
  ·have hn48 := hq
   refine dS rfl ?_
   refine cS rfl rfl rfl rfl (fun hq => ?_) (fun hq => ?_)
   ·have hhd : l = [48] ∨ l.head? ≠ some 48 := .inr (fun e => by
     cases l with
     | nil => cases e
     | cons c r =>
      simp at e; subst e
      exact hq rfl)
    refine dT rfl ?_
    refine call (f := 162) rfl rfl cb162 (trimstr_calls l hl w) ?_
    rintro v w1 ⟨⟨t, rfl, ht⟩, hB⟩
    refine ⟨_, rfl, ?_⟩
    refine cS rfl rfl rfl rfl (fun hq => ?_) (fun hq => ?_)
    ·refine dT rfl ?_
     exact ret Tryz.results131 rfl ⟨_, rfl, ⟨true, rfl, fun _ => ⟨hne, hhd, ht.1 hq⟩, fun _ => rfl⟩, hB⟩
    ·refine dT rfl ?_
     exact ret Tryz.results131 rfl ⟨_, rfl, ⟨false, rfl, fun h => (by cases h), fun h => absurd (ht.2 h.2.2) hq⟩, hB⟩
   ·have hno : ¬ (l = [48] ∨ l.head? ≠ some 48) := by
     rintro (h | h)
     ·exact hn48 h
     ·cases l with
      | nil => exact hne rfl
      | cons c r =>
       refine h ?_
       have h8 : c.toNat = 48 := by
        have h9 := Classical.not_not.1 hq
        simp at h9; omega
       show some c = some 48
       rw [show c = 48 from UInt8.toNat_inj.1 h8]
    refine dT rfl ?_
    exact ret Tryz.results131 rfl ⟨_, rfl, ⟨false, rfl, fun h => (by cases h), fun h => absurd h.2.1 hno⟩, Below.refl _ _⟩
 ·have h0 : l = [] := Classical.not_not.1 hq
  refine dT rfl ?_
  exact ret Tryz.results131 rfl ⟨_, rfl, ⟨false, rfl, fun h => (by cases h), fun h => absurd h0 h.1⟩, Below.refl _ _⟩
end
section
set_option maxHeartbeats 1000000
open Go Go.Proofs Go.RowKit Go.Lib

def Chk (l : List UInt8) (e : Int) : Prop := (Form l ∧ l.length ≤ 4000 ∧ e = 0) ∨ (Form l ∧ 4000 < l.length ∧ e = 5) ∨ (¬ Form l ∧ e = 3)

def Res (n : Nat) (v : Value) : Prop := (nDigits n ≤ 4000 ∧ v = .tuple ⟨[.string ⟨⟨decDigits n⟩⟩, .int .i64 0]⟩) ∨ (4000 < nDigits n ∧ v = .tuple ⟨[.string ⟨⟨[]⟩⟩, .int .i64 5]⟩)
end
section
set_option maxHeartbeats 1000000
open Go Go.Proofs Go.RowKit Go.Lib

section
variable {P : Program} (U : Tys P) {ro : Option Nat} {n : Nat} {ds : List Deferred} {Q : PT} {l l' : Fr} {w w' : World} {arr : Array Oper} {r : List Oper} {k : List It}
end

def Chk2 (x y : List UInt8) (e : Int) : Prop := ∃ e1 e2, Chk x e1 ∧ Chk y e2 ∧ e = if e1 ≠ 0 then e1 else e2
end
section
set_option maxHeartbeats 1000000
open Go Go.Proofs Go.RowKit Go.Lib

theorem form_len {x : List UInt8} (h : Form x ∧ x.length ≤ 4000) : nDigits (dval x) ≤ 4000 ∧ (lim (dval x)).length ≤ 4000 := by
 have h1 := dec_of h.1.2.2 h.1.1 h.1.2.1
 have h2 : nDigits (dval x) ≤ 4000 := by rw [← decDigits_length, ← h1]; exact h.2
 exact ⟨h2, Nat.le_trans (lim_le_nD _) h2⟩
theorem Res.tup {n : Nat} {v : Value} (h : Res n v) : ∃ v1 v2, v = .tuple ⟨[v1, v2]⟩ := by
 rcases h with ⟨_, h⟩ | ⟨_, h⟩ <;> exact ⟨_, _, h⟩

def Out (x y : List UInt8) (n : Nat) (v : Value) : Prop := (∃ e, e ≠ 0 ∧ Chk2 x y e ∧ v = .tuple ⟨[.string ⟨⟨[]⟩⟩, .int .i64 e]⟩) ∨ (Chk2 x y 0 ∧ Res n v)
theorem Out.tup {x y : List UInt8} {n : Nat} {v : Value} (h : Out x y n v) : ∃ v1 v2, v = .tuple ⟨[v1, v2]⟩ := by
 rcases h with ⟨_, _, _, h⟩ | ⟨_, h⟩
 ·exact ⟨_, _, h⟩
 ·exact h.tup
end
section
set_option maxHeartbeats 1000000
open Go Go.Proofs Go.RowKit Go.Lib
end
section
set_option maxHeartbeats 1000000
open Go Go.Proofs Go.RowKit Go.Lib

def ResS (m n : Nat) (v : Value) : Prop := (m < n ∧ v = .tuple ⟨[.string ⟨⟨[]⟩⟩, .int .i64 2]⟩) ∨ (n ≤ m ∧ Res (m - n) v)
def OutS (x y : List UInt8) (v : Value) : Prop := (∃ e, e ≠ 0 ∧ Chk2 x y e ∧ v = .tuple ⟨[.string ⟨⟨[]⟩⟩, .int .i64 e]⟩) ∨ (Chk2 x y 0 ∧ ResS (dval x) (dval y) v)
theorem ResS.tup {m n : Nat} {v : Value} (h : ResS m n v) : ∃ v1 v2, v = .tuple ⟨[v1, v2]⟩ := by
 rcases h with ⟨_, h⟩ | ⟨_, h⟩
 ·exact ⟨_, _, h⟩
 ·exact h.tup
theorem OutS.tup {x y : List UInt8} {v : Value} (h : OutS x y v) : ∃ v1 v2, v = .tuple ⟨[v1, v2]⟩ := by
 rcases h with ⟨_, _, _, h⟩ | ⟨_, h⟩
 ·exact ⟨_, _, h⟩
 ·exact h.tup
end
section
set_option maxHeartbeats 1000000
open Go Go.Proofs Go.RowKit Go.Lib
end
section
set_option maxHeartbeats 1000000
open Go Go.Proofs Go.RowKit Go.Lib


theorem refCheck_calls (l : List UInt8) (hl : l.length ≤ 9223372036854775806) (w : World) :
  Calls Tryz.prog 166 #[.string ⟨⟨l⟩⟩] w (Ret fun v w' => (∃ e, v = .int .i64 e ∧ Chk l e) ∧ w = w') := by
 refine enter Tryz.func166 rfl Tryz.ntmps166 (Nat.le_of_ble_eq_true rfl) ?_
 refine dT rfl ?_
 refine cS rfl rfl rfl rfl (fun hq => ?_) (fun hq => ?_)
 ·refine dT rfl ?_
  exact ret Tryz.results166 rfl ⟨_, rfl, ⟨3, rfl, .inr (.inr ⟨fun h => h.1 hq, rfl⟩)⟩, rfl⟩
 ·have hne : l ≠ [] := hq
  have hpos := List.length_pos_iff.2 hne
  refine dS rfl ?_
  refine cS rfl rfl rfl rfl (fun hq => ?_) (fun hq => ?_)
  ·have h0 := hq
   refine dS rfl ?_
   refine cS rfl rfl rfl rfl (fun hq => ?_) (fun hq => ?_)
   ·refine dT rfl ?_
    refine ret Tryz.results166 rfl ⟨_, rfl, ⟨3, rfl, .inr (.inr ⟨fun h => ?_, rfl⟩)⟩, rfl⟩
    rcases h.2.1 with h1 | h1
    ·rw [h1] at hq; simp at hq
    ·cases l with
     | nil => exact hne rfl
     | cons c r =>
      have h8 : c.toNat = 48 := by simp at h0; omega
      exact h1 (by show some c = some 48; rw [show c = 48 from UInt8.toNat_inj.1 h8])
   ·have hhd : l = [48] ∨ l.head? ≠ some 48 := .inl (by
     cases l with
     | nil => exact absurd rfl hne
     | cons c r =>
      have h8 : c.toNat = 48 := by simp at h0; omega
      have h9 : r = [] := List.length_eq_zero_iff.1 (by simp at hq; omega)
      rw [h9, show c = 48 from UInt8.toNat_inj.1 h8])
    refine dT rfl ?_
    refine loopR (fun l' w' m => ∃ i : Nat, l' = [(0, .string ⟨⟨l⟩⟩), (3, .int .i64 (i : Nat))] ∧ i ≤ l.length ∧ (∀ c ∈ l.take i, isD c) ∧ w = w' ∧ m = l.length - i) ⟨0, rfl, by omega, by simp, rfl, rfl⟩ ⟨rfl, rfl, trivial⟩ ?_
    rintro l' w1 m ⟨i, rfl, hi, hd, rfl, rfl⟩
    refine dT rfl ?_
    refine cS rfl rfl rfl rfl (fun hq => ?_) (fun hq => ?_)
    ·have hi' : i < l.length := by omega
     have hgd : l.getD i 0 = l[i] := by simp [List.getD, hi']
     have hmem : l[i] ∈ l := List.getElem_mem hi'
     have htk : l.take (i + 1) = l.take i ++ [l[i]] := by rw [List.take_succ_eq_append_getElem hi']
     refine dS rfl ?_
     simp only [Int.toNat_natCast, hgd]
     refine cS rfl rfl rfl rfl (fun hq => ?_) (fun hq => ?_)
     ·refine dT rfl ?_
      refine ret Tryz.results166 rfl ⟨_, rfl, ⟨3, rfl, .inr (.inr ⟨fun h => ?_, rfl⟩)⟩, rfl⟩
      have := h.2.2 _ hmem
      unfold isD at this; omega
     ·refine dS rfl ?_
      simp only [Int.toNat_natCast, hgd]
      have hq1 := hq
      refine cS rfl rfl rfl rfl (fun hq => ?_) (fun hq => ?_)
      ·refine dT rfl ?_
       refine ret Tryz.results166 rfl ⟨_, rfl, ⟨3, rfl, .inr (.inr ⟨fun h => ?_, rfl⟩)⟩, rfl⟩
       have := h.2.2 _ hmem
       unfold isD at this; omega
      ·refine dS rfl ?_
       refine rend _ _ ⟨i + 1, rfl, by omega, fun c hc => ?_, rfl, rfl⟩ (by omega) ⟨rfl, iv (by omega), trivial⟩
       rw [htk] at hc
       rcases List.mem_append.1 hc with hc | hc
       ·exact hd c hc
       ·rw [List.mem_singleton.1 hc]; unfold isD; omega
    ·obtain rfl : i = l.length := by omega
     rw [List.take_length] at hd
     have hF : Form l := ⟨hne, hhd, hd⟩
     refine dT rfl ?_
     refine cS rfl rfl rfl rfl (fun hq => ?_) (fun hq => ?_)
     ·refine dT rfl ?_
      exact ret Tryz.results166 rfl ⟨_, rfl, ⟨5, rfl, .inr (.inl ⟨hF, by omega, rfl⟩)⟩, rfl⟩
     ·refine dT rfl ?_
      exact ret Tryz.results166 rfl ⟨_, rfl, ⟨0, rfl, .inl ⟨hF, by omega, rfl⟩⟩, rfl⟩
  ·have hhd : l = [48] ∨ l.head? ≠ some 48 := .inr (fun e => by
    cases l with
    | nil => cases e
    | cons c r =>
     have : c = 48 := Option.some.inj e
     subst this
     exact hq rfl)
   refine dT rfl ?_
   refine loopR (fun l' w' m => ∃ i : Nat, l' = [(0, .string ⟨⟨l⟩⟩), (3, .int .i64 (i : Nat))] ∧ i ≤ l.length ∧ (∀ c ∈ l.take i, isD c) ∧ w = w' ∧ m = l.length - i) ⟨0, rfl, by omega, by simp, rfl, rfl⟩ ⟨rfl, rfl, trivial⟩ ?_
   rintro l' w1 m ⟨i, rfl, hi, hd, rfl, rfl⟩
   refine dT rfl ?_
   refine cS rfl rfl rfl rfl (fun hq => ?_) (fun hq => ?_)
   ·have hi' : i < l.length := by omega
    have hgd : l.getD i 0 = l[i] := by simp [List.getD, hi']
    have hmem : l[i] ∈ l := List.getElem_mem hi'
    have htk : l.take (i + 1) = l.take i ++ [l[i]] := by rw [List.take_succ_eq_append_getElem hi']
    refine dS rfl ?_
    simp only [Int.toNat_natCast, hgd]
    refine cS rfl rfl rfl rfl (fun hq => ?_) (fun hq => ?_)
    ·refine dT rfl ?_
     refine ret Tryz.results166 rfl ⟨_, rfl, ⟨3, rfl, .inr (.inr ⟨fun h => ?_, rfl⟩)⟩, rfl⟩
     have := h.2.2 _ hmem
     unfold isD at this; omega
    ·refine dS rfl ?_
     simp only [Int.toNat_natCast, hgd]
     have hq1 := hq
     refine cS rfl rfl rfl rfl (fun hq => ?_) (fun hq => ?_)
     ·refine dT rfl ?_
      refine ret Tryz.results166 rfl ⟨_, rfl, ⟨3, rfl, .inr (.inr ⟨fun h => ?_, rfl⟩)⟩, rfl⟩
      have := h.2.2 _ hmem
      unfold isD at this; omega
     ·refine dS rfl ?_
      refine rend _ _ ⟨i + 1, rfl, by omega, fun c hc => ?_, rfl, rfl⟩ (by omega) ⟨rfl, iv (by omega), trivial⟩
      rw [htk] at hc
      rcases List.mem_append.1 hc with hc | hc
      ·exact hd c hc
      ·rw [List.mem_singleton.1 hc]; unfold isD; omega
   ·obtain rfl : i = l.length := by omega
    rw [List.take_length] at hd
    have hF : Form l := ⟨hne, hhd, hd⟩
    refine dT rfl ?_
    refine cS rfl rfl rfl rfl (fun hq => ?_) (fun hq => ?_)
    ·refine dT rfl ?_
     exact ret Tryz.results166 rfl ⟨_, rfl, ⟨5, rfl, .inr (.inl ⟨hF, by omega, rfl⟩)⟩, rfl⟩
    ·refine dT rfl ?_
     exact ret Tryz.results166 rfl ⟨_, rfl, ⟨0, rfl, .inl ⟨hF, by omega, rfl⟩⟩, rfl⟩
end
section
set_option maxHeartbeats 1000000
open Go Go.Proofs Go.RowKit Go.Lib

def Num (k : Nat) (x : List UInt8) (n : Nat) : Prop := x = decDigits n ∧ nDigits n ≤ k
theorem Num.of {l : List UInt8} (h : (l.all fun c => decide (48 ≤ c.toNat) && decide (c.toNat ≤ 57)) = true) (hne : l ≠ []) (hz : l = [48] ∨ l.head? ≠ some 48) : Num l.length l (dval l) := by
 have hd : Dgs l := fun c hc => by
  have := List.all_eq_true.1 h c hc
  simp at this; exact this
 have := dec_of hd hne hz
 exact ⟨this, by rw [← decDigits_length, ← this]; exact Nat.le_refl _⟩
theorem Num.mono {k k' : Nat} {x : List UInt8} {n : Nat} (h : Num k x n) (hk : k ≤ k') : Num k' x n := ⟨h.1, Nat.le_trans h.2 hk⟩
end
section
open Go.Lib

def mkq (m : Bool) (n d : Nat) : Rat := mkRat (if m then -(n : Int) else n) d
theorem mkq_form (m : Bool) (n d : Nat) (hd : d ≠ 0) : (mkq m n d).num = (if m then -((n / Nat.gcd n d : Nat) : Int) else ((n / Nat.gcd n d : Nat) : Int)) ∧ (mkq m n d).den = d / Nat.gcd n d := by
 have h := Rat.normalize_eq (num := if m then -(n : Int) else n) hd
 rw [Rat.normalize_eq_mkRat] at h
 have hn : (if m then -(n : Int) else (n : Int)).natAbs = n := by split <;> simp
 unfold mkq
 rw [h]
 refine ⟨?_, by simp only [hn]⟩
 simp only [hn]
 split
 ·rw [Int.neg_ediv_of_dvd (Int.natCast_dvd_natCast.2 (Nat.gcd_dvd_left n d)), Int.natCast_ediv]
 ·rw [Int.natCast_ediv]
theorem mkq_num (m : Bool) (n d : Nat) (hd : d ≠ 0) : (mkq m n d).num.natAbs = n / Nat.gcd n d := by
 rw [(mkq_form m n d hd).1]; split
 ·rw [Int.natAbs_neg, Int.natAbs_natCast]
 ·rw [Int.natAbs_natCast]
theorem mkq_neg (m : Bool) (n d : Nat) (hd : d ≠ 0) : ((mkq m n d).num < 0) ↔ (m = true ∧ n ≠ 0) := by
 rw [(mkq_form m n d hd).1]
 have hg : 0 < Nat.gcd n d := Nat.gcd_pos_of_pos_right n (Nat.pos_of_ne_zero hd)
 have h0 : n / Nat.gcd n d = 0 ↔ n = 0 := by
  constructor
  ·intro h
   have := Nat.div_mul_cancel (Nat.gcd_dvd_left n d)
   rw [h] at this; omega
  ·rintro rfl; simp
 generalize n / Nat.gcd n d = k at *
 cases m
 ·simp
 ·simp only [if_true, true_and]
  omega
theorem mkq_self (r : Rat) : mkq (decide (r.num < 0)) r.num.natAbs r.den = r := by
 unfold mkq
 have : (if decide (r.num < 0) = true then -(r.num.natAbs : Int) else (r.num.natAbs : Int)) = r.num := by
  by_cases h : r.num < 0
  ·rw [if_pos (by simpa using h)]; omega
  ·rw [if_neg (by simpa using h)]; omega
 rw [this, Rat.mkRat_self]
theorem mkq_add (m m' : Bool) (a b c d : Nat) (hb : b ≠ 0) (hd : d ≠ 0) :
  mkq m a b + mkq m' c d = mkRat ((if m then -((a * d : Nat) : Int) else ((a * d : Nat) : Int)) + (if m' then -((c * b : Nat) : Int) else ((c * b : Nat) : Int))) (b * d) := by
 unfold mkq
 rw [Rat.mkRat_add_mkRat _ _ hb hd]
 congr 1
 cases m <;> cases m' <;> simp [Int.neg_mul, Int.mul_neg]
theorem mkq_mul (m m' : Bool) (a b c d : Nat) : mkq m a b * mkq m' c d = mkq (m != m') (a * c) (b * d) := by
 unfold mkq
 rw [Rat.mkRat_mul_mkRat]
 congr 1
 cases m <;> cases m' <;> simp [Int.neg_mul, Int.mul_neg]

def qtext (r : Rat) : List UInt8 := (if r.num < 0 then [45] else []) ++ decDigits r.num.natAbs ++ (if r.den = 1 then [] else 47 :: decDigits r.den)
def Small (k : Nat) (r : Rat) : Prop := nDigits r.num.natAbs ≤ k ∧ nDigits r.den ≤ k
theorem qtext_nat (n : Nat) : qtext (n : Rat) = decDigits n := by
 unfold qtext
 rw [show ((n : Nat) : Rat).num = (n : Int) from rfl, show ((n : Nat) : Rat).den = 1 from rfl]
 rw [if_neg (by omega), if_pos rfl]; simp
theorem mkq_small {m : Bool} {n d K : Nat} (hd : d ≠ 0) (h1 : nDigits n ≤ K) (h2 : nDigits d ≤ K) : Small K (mkq m n d) := by
 unfold Small
 rw [mkq_num m n d hd, (mkq_form m n d hd).2]
 exact ⟨Nat.le_trans (nD_mono (Nat.div_le_self _ _)) h1, Nat.le_trans (nD_mono (Nat.div_le_self _ _)) h2⟩
end
section
open Go.Lib

def bv1 (c : UInt8) : Nat := if c = 49 then 1 else 0
def bvalA (a : Nat) (l : List UInt8) : Nat := l.foldl (fun a c => 2 * a + bv1 c) a
def bval (l : List UInt8) : Nat := bvalA 0 l
def Bin (l : List UInt8) : Prop := ∀ c ∈ l, c = 48 ∨ c = 49
end
section
set_option maxHeartbeats 1000000
open Go Go.Proofs Go.RowKit Go.Lib

def BChk (l : List UInt8) (e : Int) : Prop := (Bin l ∧ e = 0) ∨ (¬ Bin l ∧ e = 3)
theorem BChk.uniq {l : List UInt8} {e f : Int} (h : BChk l e) (h' : BChk l f) : e = f := by
 rcases h with ⟨h1, rfl⟩ | ⟨h1, rfl⟩ <;> rcases h' with ⟨h2, rfl⟩ | ⟨h2, rfl⟩ <;> first | rfl | contradiction
def SChk (l : List UInt8) (e : Int) : Prop := (Bin l ∧ l.length ≤ 256 ∧ e = 0) ∨ (Bin l ∧ 256 < l.length ∧ e = 4) ∨ (¬ Bin l ∧ e = 3)
theorem SChk.uniq {l : List UInt8} {e f : Int} (h : SChk l e) (h' : SChk l f) : e = f := by
 rcases h with ⟨h1, h2, rfl⟩ | ⟨h1, h2, rfl⟩ | ⟨h1, rfl⟩ <;> rcases h' with ⟨h3, h4, rfl⟩ | ⟨h3, h4, rfl⟩ | ⟨h3, rfl⟩ <;> first | rfl | contradiction | omega
theorem SChk.ok {l : List UInt8} (h : SChk l 0) : Bin l ∧ l.length ≤ 256 := by
 rcases h with ⟨h1, h2, _⟩ | ⟨_, _, h⟩ | ⟨_, h⟩
 ·exact ⟨h1, h2⟩
 ·cases h
 ·cases h
end
section
open Go Go.Proofs Go.RowKit Go.Lib
end
section
open Go Go.Proofs Go.RowKit Go.Lib

def bitc (v : Bool) : UInt8 := if v = true then 49 else 48
end
section
set_option maxHeartbeats 1000000
open Go Go.Proofs Go.RowKit Go.Lib

def NumR (l : List UInt8) (v : Value) : Prop := (∃ e, e ≠ 0 ∧ SChk l e ∧ v = .tuple ⟨[.string ⟨⟨[]⟩⟩, .int .i64 e]⟩) ∨ (SChk l 0 ∧ v = .tuple ⟨[.string ⟨⟨decDigits (bval l)⟩⟩, .int .i64 0]⟩)
theorem NumR.uniq {l : List UInt8} {v v' : Value} (h : NumR l v) (h' : NumR l v') : v = v' := by
 rcases h with ⟨e, h1, h2, rfl⟩ | ⟨h2, rfl⟩ <;> rcases h' with ⟨e', h3, h4, rfl⟩ | ⟨h4, rfl⟩
 ·rw [h2.uniq h4]
 ·exact absurd (h2.uniq h4) h1
 ·exact absurd (h4.uniq h2) h3
 ·rfl
theorem BldT.below {bt : Nat} {w w' : World} {base b : Nat} {bs : List UInt8} (h : BldT bt w base b bs) (hb : Below w.heap.size w w') : BldT bt w' base b bs := by
 obtain ⟨h1, p, a, m, c, h2, h3, h4, h5⟩ := h
 refine ⟨h1, p, a, m, c, h2, h3.below hb h3.lt, ?_, h5⟩
 refine ⟨h4.1, ?_⟩
 rcases h4.2 with h | ⟨g, cap, cur, e1, e2, e3, e4⟩
 ·exact .inl h
 ·exact .inr ⟨g, cap, cur, e1, e2, by rw [hb.block g (Array.getElem?_eq_some_iff.1 e3).1]; exact e3, e4⟩
end
section
open Go.RowKit

def AggOk (P : Program) (t : TypeId) (s : Nat) : Prop := (∃ fs, P.underlying t = some (.struct fs)) ∧ ∃ i, P.info? t = some i ∧ i.size = s

theorem run_load_agg {P : Program} {t bt : TypeId} {s b : Nat} {cs : List Value} {w : World} (h : AggOk P t s) (hb : Bk w b bt cs) (hs : cs.length = s) :
  (loadVar t ⟨b, 0, none⟩).run P w = .ok (.agg ⟨cs⟩) w := by
 obtain ⟨⟨fs, hu⟩, i, hi, hz⟩ := h
 exact run_loadVar_mid w b 0 t cs (.struct fs) (fun j v hv => by rw [Nat.zero_add]; exact hb.cell hv) hu rfl (by rw [hi]; simp [hz, hs])

def NoInt (cs : List Value) : Prop := ∀ v ∈ cs, ∀ k x, v ≠ .int k x
theorem Sl.past {w w' : World} {a : Option Addr} {vs : List Value} {b t : Nat} {cs : List Value} (h : Sl w a vs) (hi : ∀ v ∈ vs, ∃ k x, v = .int k x) (hk : Bk w b t cs) (hn : NoInt cs) (hg : w.grownBy w' (some b)) : Sl w' a vs := by
 intro j v hv
 obtain ⟨g, off, rfl, hc⟩ := h j v hv
 refine ⟨g, off, rfl, hg.cell hc (fun e => ?_)⟩
 simp only at e
 cases e
 have : cs[off + j]? = some v := by
  simp only [World.cell?] at hc
  unfold Bk at hk
  simp_all
 obtain ⟨k, x, rfl⟩ := hi v (List.mem_of_getElem? hv)
 exact hn _ (List.mem_of_getElem? this) k x rfl
theorem Rd.past {w w' : World} {a : Option Addr} {c : Nat} {xs : List Nat} {b t : Nat} {cs : List Value} (h : Rd w a c xs) (hk : Bk w b t cs) (hn : NoInt cs) (hg : w.grownBy w' (some b)) (ht : Nat.beq 79 t = false := by rfl) : Rd w' a c xs :=
 ⟨h.1.past (fun v hv => by obtain ⟨x, _, rfl⟩ := List.mem_map.1 hv; exact ⟨_, _, rfl⟩) hk hn hg, h.2.1, fun g e => (h.2.2 g e).grown hg (fun e' => (h.2.2 g e).ne hk.tg ht (by cases e'; rfl))⟩

section
variable {P : Program} (U : Tys P) {ro : Option Nat} {n : Nat} {ds : List Deferred} {Q : PT} {l l' : Fr} {w w' : World} {arr : Array Oper} {r : List Oper} {k : List It}

theorem lg {dst : Option Nat} {t ty bt : TypeId} {x : Operand} {ps : String} {af : Array Edge} {g : Option (Nat × Bool)} {b s : Nat} {cs : List Value} (hx : ev l x = some (.pointer (some ⟨b, 0, none⟩))) (ht : AggOk P t s) (hg : gd arr l g = some true)
  (hl : put1 n l dst (.agg ⟨cs⟩) = some l') (hb : Bk w b bt cs) (hs : cs.length = s) (t' : T P ro n ds Q l' w (.ops arr r) k) : T P ro n ds Q l w (.ops arr (⟨dst, .load t x, ty, ps, af, g⟩ :: r)) k :=
 op1 (by intro c h; cases h) hg hl (fun a hf => by
  simp only [execOp, hf.ev hx, Instr.loadAt, Instr.sureAddr]
  simp [run_load_agg ht hb hs]) t'

def RsvS (P : Program) (l : Fr) (w : World) : List ResultVar → List Value → Prop
 | [], [] => True
 | .tmp t :: r, v :: vs => look l t = some v ∧ RsvS P l w r vs
 | .cell t ty :: r, v :: vs => (∃ p, look l t = some (.pointer (some p)) ∧ (loadVar ty p).run P w = .ok v w) ∧ RsvS P l w r vs
 | _, _ => False

theorem run_RsvS {tmps : Array Value} (hd : ∀ t v, look l t = some v → tmps[t]? = some v) (f : ResultVar → Sem Value)
  (h1 : ∀ t, f (.tmp t) = Pure.pure (tmps.getD t undef)) (h2 : ∀ a t, f (.cell a t) = do loadVar t (← asAddr (tmps.getD a undef))) :
  ∀ (rs : List ResultVar) (vs : List Value), RsvS P l w rs vs → (rs.mapM f).run P w = .ok vs w
 | [], [], _ => by simp
 | .tmp t :: r, v :: vs, ⟨e, h⟩ => by
  have := run_RsvS hd f h1 h2 r vs h
  simp only [List.mapM_cons]
  simp [h1, hd t v e, this]
 | .cell t ty :: r, v :: vs, ⟨⟨p, e, hc⟩, h⟩ => by
  have := run_RsvS hd f h1 h2 r vs h
  simp only [List.mapM_cons, h2]
  simp [hd t _ e, this, asAddr, hc]
 | [], _ :: _, h => h.elim
 | .tmp _ :: _, [], h => h.elim
 | .cell .. :: _, [], h => h.elim

theorem retS {fn : Func} {R : Ending → World → Prop} {rs : List ResultVar} {vs : List Value} (hr : fn.results = ⟨rs⟩) (hv : RsvS P l w rs vs) (hR : R (.returned (pack vs)) w) :
  T P ro n [] (bodyPost P fn R) l w (.code .ret) k := by
 intro a hf
 refine wpIn_ret ((KQ_ret k _ a w).2 ⟨hf.df, pack vs, ?_, hR⟩)
 unfold results
 rw [hr, Array.mapM_eq_mapM_toList]
 simp only [Sem.run_bind, Sem.run_map]
 rw [run_RsvS (l := l) (P := P) (w := w) hf.rd _ (fun _ => rfl) (fun _ _ => rfl) rs vs hv]
 simp [pack_eq]
end
end
end Go.Proofs.YtejlpdbiacmfcaaGreatDoor
