/-
  Walks of strings.Builder: copyCheck and WriteString.
  Conditions: the builder is one that the call made.
  Plain arithmetic of decimal digits: how the digits of a number are made of the digits of its limbs.
  No conditions: each theorem names its own premises.
  Walks of package limbs: Digits, Gcd.
  Conditions: fewer than 2^36 limbs; the library's table of powers of ten is laid.
  Walk of package limbs: Pow.
  Conditions: the number has at most as many digits as the limit, which is from 1 to 2^20; the library's table of powers of ten is laid.
  Rules of the engine for bits of unsigned numbers: the lowest bit, a shift to the right by a constant.
  Conditions: the number has at most sa many digits sa the limit, which is from 1 to 2^20; the library's table of powers of ten is laid.
  Walk of package limbs: String, the decimal digits of a number.
  Plain arithmetic of texts of digits: their value, and that a text without a leading zero is the digits of its value.
-/
import Derived.Test.YtejlpdbiacmfcaaGreatDoorYRul
import Derived.Test.YtejlpdbiacmfcaaGreatDoorYNumC
import Derived.Test.YtejlpdbiacmfcaaGreatDoorYLmG
import Derived.Lib.Builder
import Derived.Lib.AppendStr
import Derived.Lib.ItoaNum
import Derived.Shelf.Strings.BuilderK
import Derived.Lib.ParseIntB
set_option linter.unusedSimpArgs false
set_option linter.unusedVariables false
namespace Go.Proofs.YtejlpdbiacmfcaaGreatDoor
section
open Go Go.Proofs Go.RowKit Go.Lib

def BldT (bt : Nat) (w : World) (base b : Nat) (bs : List UInt8) : Prop :=
 base ≤ b ∧ ∃ p a m c, (p = .pointer none ∨ p = .pointer (some ⟨b, 0, none⟩)) ∧ Bk w b bt [p, .slice a m c] ∧ w.ownsRow base 5 1 (.slice a m c) m (byteCells bs) ∧ ∀ g, ab a = some g → g ≠ b

abbrev Bld : World → Nat → Nat → List UInt8 → Prop := BldT 160
def Lies (bt : Nat) : Prop := liesAt Tryz.prog Tryz.prog.depth bt (2 / Tryz.prog.cellsOf bt) 0 160 1 = true ∧ bt ≠ 5
theorem lies_bld : Lies 160 := ⟨by kernel_rfl, by decide⟩

section
variable {P : Program} {ro : Option Nat} {n : Nat} {ds : List Deferred} {Q : PT} {l l' : Fr} {w w' : World} {arr : Array Oper} {r : List Oper} {k : List It}
theorem opv {o : Oper} {v : Value} (hd : ∀ c, o.op ≠ .defer c) (hg : gd arr l o.guard = some true) (hl : put1 n l o.dst v = some l') (hrun : ∀ a, Fit n ds l a → (execOp a.eval o).run P w = .ok (.value v) w)
  (t : T P ro n ds Q l' w (.ops arr r) k) : T P ro n ds Q l w (.ops arr (o :: r)) k := op1 hd hg hl hrun t
end

theorem copyCheckT (bt : Nat) (hbt : Lies bt) (b : Nat) (p v : Value) (w : World) (hp : p = .pointer none ∨ p = .pointer (some ⟨b, 0, none⟩)) (hk : Bk w b bt [p, v]) :
  Calls Tryz.prog 165 #[.pointer (some ⟨b, 0, none⟩)] w (Ret fun r w' => r = .tuple ⟨[]⟩ ∧ Bk w' b bt [.pointer (some ⟨b, 0, none⟩), v] ∧ w.grownBy w' (some b)) := by
 obtain ⟨j, hj, hjs, _⟩ := inf160
 have hsh : w.shape? b = some (bt, 2) := by unfold Bk at hk; simp [World.shape?, hk]
 have hjz : j.size ≠ 0 := by rw [hjs]; decide
 rcases hp with rfl | rfl
 ·refine enter Tryz.func165 rfl Tryz.ntmps165 (Nat.le_of_ble_eq_true rfl) ?_
  refine dT rfl ?_
  refine ld U rfl rfl rfl rfl ((hk).cell rfl) ?_
  refine opv (v := .bool true) (by intro c h; cases h) rfl rfl (fun a hf => ?_) ?_
  ·have h1 := run_eql_pointer_nil (P := Tryz.prog) w 158 none (by rw [Program.pointee, Tryz.underlying158])
   have h2 := hf.ev (x := .tmp 5) (v := .pointer none) rfl
   simp only [Act.eval] at h2
   simp [execOp, Act.eval, h2, eqGuard, h1]
  refine dT rfl ?_
  refine opv (v := .pointer (some ⟨b, 0, none⟩)) (by intro c h; cases h) rfl rfl (fun a hf => ?_) ?_
  ·have h1 := Lib.run_to_unsafe (P := Tryz.prog) w ⟨b, 0, none⟩ Tryz.underlying158 Tryz.underlying212 hj hjz hsh (Nat.zero_lt_succ 1)
   have h2 := hf.ev (x := .tmp 8) (v := .pointer (some ⟨b, 0, none⟩)) rfl
   simp only [Act.eval] at h2
   simp [execOp, Act.eval, h2, h1]
  refine opv (v := .pointer (some ⟨b, 0, none⟩)) (by intro c h; cases h) rfl rfl (fun a hf => ?_) ?_
  ·have h1 := fun args => run_callFunc_extern (P := Tryz.prog) Tryz.func190 (by kernel_rfl) (by kernel_rfl) (by kernel_rfl) (e := Extern.AbiNoEscape.same) (by kernel_rfl) args w
   have h2 := hf.ev (x := .tmp 9) (v := .pointer (some ⟨b, 0, none⟩)) rfl
   simp only [Act.eval] at h2
   simp [execOp, resolve, invoke, Deferred.ofValue, Act.eval, h2, h1, Lib.run_noEscape, Result.andThen]
  refine opv (v := .pointer (some ⟨b, 0, none⟩)) (by intro c h; cases h) rfl rfl (fun a hf => ?_) ?_
  ·have h1 := Lib.run_from_unsafe (P := Tryz.prog) w ⟨b, 0, none⟩ Tryz.underlying212 Tryz.underlying158 hj hsh hbt.1
   have h2 := hf.ev (x := .tmp 10) (v := .pointer (some ⟨b, 0, none⟩)) rfl
   simp only [Act.eval] at h2
   simp [execOp, Act.eval, h2, h1]
  refine dT rfl ?_
  refine st U rfl rfl rfl rfl rfl rfl rfl rfl rfl rfl (hk) ?_
  intro w1 hk1 hg1 hs1
  refine dT rfl ?_
  exact retN Tryz.results165 rfl ⟨_, rfl, rfl, hk1, hg1⟩
 ·refine enter Tryz.func165 rfl Tryz.ntmps165 (Nat.le_of_ble_eq_true rfl) ?_
  refine dT rfl ?_
  refine ld U rfl rfl rfl rfl ((hk).cell rfl) ?_
  refine opv (v := .bool false) (by intro c h; cases h) rfl rfl (fun a hf => ?_) ?_
  ·have h1 := run_eql_pointer_nil (P := Tryz.prog) w 158 (some ⟨b, 0, none⟩) (by rw [Program.pointee, Tryz.underlying158])
   have h2 := hf.ev (x := .tmp 5) (v := .pointer (some ⟨b, 0, none⟩)) rfl
   simp only [Act.eval] at h2
   simp [execOp, Act.eval, h2, eqGuard, h1]
  refine dT rfl ?_
  refine ld U rfl rfl rfl rfl ((hk).cell rfl) ?_
  refine dT rfl ?_
  refine opv (v := .bool false) (by intro c h; cases h) rfl rfl (fun a hf => ?_) ?_
  ·have h1 := Lib.run_neq_ptr_same (P := Tryz.prog) w ⟨b, 0, none⟩ Tryz.underlying158 hj
   have h2 := hf.ev (x := .tmp 17) (v := .pointer (some ⟨b, 0, none⟩)) rfl
   have h3 := hf.ev (x := .tmp 18) (v := .pointer (some ⟨b, 0, none⟩)) rfl
   simp only [Act.eval] at h2 h3
   simp [execOp, Act.eval, h2, h3, eqGuard, h1]
  refine dT rfl ?_
  exact retN Tryz.results165 rfl ⟨_, rfl, rfl, hk, World.grownBy.refl _ _⟩

def Kept (b : Nat) (w w' : World) : Prop := ∀ k o, w.heap[k]? = some o → k ≠ b → (∀ c x, o ≠ .cells c 5 x) → w'.heap[k]? = some o

theorem Kept.trans {b : Nat} {w w1 w2 : World} (h : Kept b w w1) (h' : Kept b w1 w2) : Kept b w w2 := fun k o hk hb hn => h' k o (h k o hk hb hn) hb hn
theorem Kept.grown {b : Nat} {w w' : World} {row : Option Nat} (hg : w.grownBy w' row) (hr : ∀ g, row = some g → g = b ∨ ∃ c x, w.heap[g]? = some (.cells c 5 x)) : Kept b w w' := fun k o hk hb hn => by
 rw [hg.block k (Array.getElem?_eq_some_iff.1 hk).1 (fun e => ?_)]
 ·exact hk
 ·rcases hr k e.symm with h | ⟨c, x, h⟩
  ·exact hb h
  ·rw [h] at hk; cases hk; exact hn c x rfl

theorem writeT (bt : Nat) (hbt : Lies bt) (base b : Nat) (bs s : List UInt8) (w : World) (h : BldT bt w base b bs) (hlen : bs.length + s.length ≤ 140737488355328) (hbase : base ≤ w.heap.size) :
  Calls Tryz.prog 134 #[.pointer (some ⟨b, 0, none⟩), .string ⟨⟨s⟩⟩] w
   (Ret fun v w' => v = .tuple ⟨[.int .i64 (s.length : Nat), .nilIface]⟩ ∧ BldT bt w' base b (bs ++ s) ∧ Below base w w' ∧ Kept b w w') := by
 obtain ⟨hb, p, a, m, c, hp, hk, ho, hne⟩ := h
 have hm : m = bs.length := by have := own_len ho; rw [byteCells_length] at this; exact this.symm
 subst hm
 refine enter Tryz.func134 rfl Tryz.ntmps134 (Nat.le_of_ble_eq_true rfl) ?_
 refine dT rfl ?_
 refine call (f := 165) rfl rfl cb165 (copyCheckT bt hbt b p _ w hp hk) ?_
 rintro v w1 ⟨rfl, hk1, hg1⟩
 refine ⟨_, rfl, ?_⟩
 have ho1 := own_keep ho hg1 (fun g hg e => by cases e; exact hne _ hg rfl)
 have hs1 := hg1.size
 refine dT rfl ?_
 refine ld U rfl rfl rfl rfl ((hk1).cell rfl) ?_
 refine dT rfl ?_
 obtain ⟨i, hi, hz1, hz2, hz3⟩ := inf5
 obtain ⟨v', w2, hrun, ho2, hg2, _⟩ := run_append_own_string (P := Tryz.prog) (w := w1) base 131 9 131 5 i Tryz.underlying131 Tryz.underlying9 hi hz3 hz1 hz2 (.slice a bs.length c) bs.length (byteCells bs) ho1 ⟨⟨s⟩⟩
  (by unfold maxLen; show bs.length + s.length ≤ _; omega) (by show bs.length + s.length ≤ _; omega) (by omega)
 have hss : (ByteArray.mk ⟨s⟩).size = s.length := rfl
 have hcells : byteCells bs ++ strCells ⟨⟨s⟩⟩ = byteCells (bs ++ s) := by simp [byteCells, strCells]
 rw [hss, hcells] at ho2
 rw [ownBlock_ab] at hg2
 obtain ⟨a2, m2, c2, rfl⟩ : ∃ a' m' c', v' = .slice a' m' c' := by
  rcases ho2.2 with ⟨h, _⟩ | ⟨g, cap, cur, h, _⟩
  ·exact ⟨_, _, _, h⟩
  ·exact ⟨_, _, _, h⟩
 have hm2 : m2 = bs.length + s.length := by
  rcases ho2.2 with ⟨h, h'⟩ | ⟨g, cap, cur, h, _⟩
  ·simp at h; omega
  ·simp at h; omega
 subst hm2
 refine op1 (w' := w2) (v := .slice a2 (bs.length + s.length) c2) (by intro c h; cases h) rfl rfl (fun act hf => ?_) ?_
 ·have e1 := hf.ev (x := .tmp 12) (v := .slice a bs.length c) rfl
  have e2 := hf.ev (x := .tmp 13) (v := .string ⟨⟨s⟩⟩) rfl
  simp only [execOp, resolve, invoke, builtin]
  simp [e1, e2, hrun]
 have hk2 := hk1.keep hg2 (fun e => hne b e rfl)
 have hne2 : ∀ g, ab a2 = some g → g ≠ b := by
  rintro g hg rfl
  obtain ⟨cc, x, hh⟩ : ∃ cc x, w2.heap[g]? = some (.cells cc 5 x) := by
   rcases ho2.2 with ⟨h, _⟩ | ⟨g', cap, cur, h, _, h3, _⟩
   ·simp at h; obtain ⟨rfl, _⟩ := h; cases hg
   ·simp at h; obtain ⟨rfl, rfl⟩ := h
    simp [ab] at hg; subst hg
    exact ⟨_, _, h3⟩
  unfold Bk at hk2; rw [hk2] at hh; simp at hh; exact hbt.2 hh.2.1
 refine dT rfl ?_
 refine st U rfl rfl rfl rfl rfl rfl rfl rfl rfl rfl (hk2) ?_
 intro w3 hk3 hg3 hs3
 refine dT rfl ?_
 have ho3 := own_keep ho2 hg3 (fun g hg e => by cases e; exact hne2 _ hg rfl)
 refine ret Tryz.results134 rfl ⟨_, rfl, rfl, ⟨hb, _, a2, _, c2, .inr rfl, hk3, ho3, hne2⟩, ?_, ?_⟩
 ·exact (((Below.refl base w).grown hg1 hbase (fun k e => by cases e; exact hb)).grown hg2 (by omega) (fun k e => (own_block ho1 k e).1)).grown hg3 (by have := hg2.size; omega) (fun k e => by cases e; exact hb)
 ·refine ((Kept.grown hg1 (fun g e => by cases e; exact .inl rfl)).trans (Kept.grown hg2 (fun g e => .inr ?_))).trans (Kept.grown hg3 (fun g e => by cases e; exact .inl rfl))
  rcases ho1.2 with ⟨h, _⟩ | ⟨g', cap, cur, h, _, h3, _⟩
  ·simp at h; obtain ⟨rfl, _⟩ := h; cases e
  ·simp at h; obtain ⟨rfl, rfl⟩ := h
   simp [ab] at e; subst e
   exact ⟨_, _, h3⟩
theorem write_calls (base b : Nat) (bs s : List UInt8) (w : World) (h : Bld w base b bs) (hlen : bs.length + s.length ≤ 140737488355328) (hbase : base ≤ w.heap.size) :
  Calls Tryz.prog 134 #[.pointer (some ⟨b, 0, none⟩), .string ⟨⟨s⟩⟩] w
   (Ret fun v w' => v = .tuple ⟨[.int .i64 (s.length : Nat), .nilIface]⟩ ∧ Bld w' base b (bs ++ s) ∧ Below base w w' ∧ Kept b w w') := writeT _ lies_bld base b bs s w h hlen hbase
end
section
open Go.Lib

def padD : Nat → Nat → List UInt8
 | 0, _ => []
 | m + 1, r => padD m (r / 10) ++ [UInt8.ofNat (48 + r % 10)]

theorem padD_length : ∀ (m r : Nat), (padD m r).length = m
 | 0, _ => rfl
 | m + 1, r => by simp [padD, padD_length m]

theorem dec_big {u : Nat} (h : ¬ u < 10) : decDigits u = decDigits (u / 10) ++ [UInt8.ofNat (48 + u % 10)] := by rw [decDigits, dif_neg h]

theorem shift10 (x m r : Nat) : (x * 10 ^ (m + 1) + r) / 10 = x * 10 ^ m + r / 10 := by
 rw [Nat.pow_succ, ← Nat.mul_assoc]; omega

theorem dec_pad : ∀ (m x r : Nat), 0 < x → r < 10 ^ m → decDigits (x * 10 ^ m + r) = decDigits x ++ padD m r
 | 0, x, r, _, h => by simp at h; subst h; simp [padD]
 | m + 1, x, r, hx, h => by
  have h1 : 10 ^ (m + 1) ≤ x * 10 ^ (m + 1) := Nat.le_mul_of_pos_left _ hx
  have h2 : 10 ≤ 10 ^ (m + 1) := by rw [Nat.pow_succ]; have := Nat.pow_pos (n := m) (show 0 < 10 by omega); omega
  rw [dec_big (by omega), shift10, dec_pad m x (r / 10) hx (by rw [Nat.pow_succ] at h; omega), padD, List.append_assoc]
  congr 4
  rw [Nat.pow_succ, ← Nat.mul_assoc]; omega

theorem nD_pad (m x r : Nat) (hx : 0 < x) (h : r < 10 ^ m) : nDigits (x * 10 ^ m + r) = nDigits x + m := by
 rw [← decDigits_length, dec_pad m x r hx h]; simp [padD_length, decDigits_length]

theorem rep_pad (m r : Nat) (h : r < 10 ^ m) : r = 0 → padD m r = List.replicate m 48 := by
 rintro rfl
 induction m with
 | zero => rfl
 | succ m ih => rw [padD, Nat.zero_div, ih (Nat.pow_pos (by omega)), List.replicate_succ']; rfl

theorem nD_le : ∀ (m r : Nat), 0 < m → r < 10 ^ m → nDigits r ≤ m
 | 0, _, h, _ => by omega
 | m + 1, r, _, h => by
  by_cases h1 : r < 10
  ·rw [nDigits_small h1]; omega
  ·rw [nDigits_big h1]
   have h2 : r / 10 < 10 ^ m := by rw [Nat.pow_succ] at h; omega
   rcases Nat.eq_zero_or_pos m with rfl | hm
   ·simp at h2; omega
   ·have := nD_le m (r / 10) hm h2; omega

theorem fill_pad : ∀ (m r : Nat), 0 < m → r < 10 ^ m → List.replicate (m - nDigits r) 48 ++ decDigits r = padD m r
 | 0, _, h, _ => by omega
 | m + 1, r, _, h => by
  by_cases h1 : r < 10
  ·rw [nDigits_small h1, decDigits_one h1, padD, rep_pad m (r / 10) (by rw [Nat.div_eq_of_lt h1]; exact Nat.pow_pos (by omega)) (Nat.div_eq_of_lt h1), Nat.mod_eq_of_lt h1]; rfl
  ·have h2 : r / 10 < 10 ^ m := by rw [Nat.pow_succ] at h; omega
   rcases Nat.eq_zero_or_pos m with rfl | hm
   ·simp at h2; omega
   ·have := fill_pad m (r / 10) hm h2
    rw [nDigits_big h1, dec_big h1, padD, ← this, Nat.add_sub_add_right, List.append_assoc]

theorem pw10 (k : Nat) : pw k = 10 ^ (9 * k) := by unfold pw; rw [Nat.pow_mul]

theorem nD_lim {n : Nat} (h : n ≠ 0) : nDigits n = 9 * ((lim n).length - 1) + nDigits ((lim n).getD ((lim n).length - 1) 0) := by
 have ht := lim_top h
 have hl : 0 < (lim n).length := List.length_pos_iff.2 (fun e => h (lim_eq_nil.1 e))
 have h2 := val_take_succ (lim n) ((lim n).length - 1) (by omega)
 rw [take_all (by omega), val_lim] at h2
 have h3 := val_lt ((lim_Lm n).take ((lim n).length - 1))
 simp only [List.length_take] at h3
 rw [Nat.min_eq_left (by omega), pw10] at h3
 rw [pw10, Nat.add_comm, Nat.mul_comm] at h2
 generalize (lim n).getD ((lim n).length - 1) 0 = x at *
 generalize (lim n).length - 1 = k at *
 rw [h2, nD_pad _ _ _ ht h3, Nat.add_comm]

theorem nD_zero : nDigits 0 = 1 := nDigits_small (by omega)

theorem dec_cons {x : Nat} {r : List Nat} (hx : x < 1000000000) (hr : 0 < val r) : decDigits (val (x :: r)) = decDigits (val r) ++ (List.replicate (9 - nDigits x) 48 ++ decDigits x) := by
 rw [fill_pad 9 x (by omega) hx, val_cons, Nat.add_comm, Nat.mul_comm]
 exact dec_pad 9 (val r) x hr hx

theorem lim_le_nD (n : Nat) : (lim n).length ≤ nDigits n := by
 by_cases h : n = 0
 ·subst h; rw [lim_zero]; simp
 ·rw [nD_lim h]; have := nDigits_pos ((lim n).getD ((lim n).length - 1) 0); omega

theorem nD_mul (m n : Nat) : nDigits (m * n) ≤ nDigits m + nDigits n := by
 refine nD_le _ _ (by have := nDigits_pos m; omega) ?_
 rw [Nat.pow_add]
 exact Nat.mul_lt_mul'' (lt_pow_nDigits m) (lt_pow_nDigits n)

theorem nD_mono {m n : Nat} (h : m ≤ n) : nDigits m ≤ nDigits n :=
 nD_le _ _ (nDigits_pos n) (Nat.lt_of_le_of_lt h (lt_pow_nDigits n))
end
section
open Go Go.Proofs Go.RowKit Go.Lib

theorem digits_calls (n : Nat) (a : Option Addr) (c : Nat) (w : World) (ha : Rd w a c (lim n)) (hl : (lim n).length ≤ 68719476736) (ht : TabOk w) :
  Calls Tryz.prog 97 #[.slice a (lim n).length c] w (Ret fun v w' => v = .int .i64 (nDigits n) ∧ Below w.heap.size w w') := by
 refine enter Tryz.func97 rfl Tryz.ntmps97 (Nat.le_of_ble_eq_true rfl) ?_
 refine dT rfl ?_
 refine cS rfl rfl rfl rfl (fun hq => ?_) (fun hq => ?_)
 ·have h0 : n = 0 := lim_eq_nil.1 (List.length_eq_zero_iff.1 (by omega))
  refine dT rfl ?_
  refine ret Tryz.results97 rfl ⟨_, rfl, ?_, Below.refl _ _⟩
  rw [h0, nD_zero]; rfl
 ·have h0 : n ≠ 0 := fun e => hq (by rw [e, lim_zero]; rfl)
  have hx := (lim_Lm n).getD ((lim n).length - 1)
  have hnd := nD_lim h0
  refine dS rfl ?_
  refine il U rfl rfl rfl rfl rfl rfl rfl (fun _ => rfl) rfl ((lim n).length - 1) (by omega) (by omega) ha.1 (getU (by omega)) ?_
  refine call (f := 133) rfl rfl cb133 (fmt_calls _ hx w ht) ?_
  rintro v w1 ⟨rfl, hB⟩
  refine ⟨_, rfl, ?_⟩
  have hb := nDigits_pos ((lim n).getD ((lim n).length - 1) 0)
  have hb2 := nD_le 9 ((lim n).getD ((lim n).length - 1) 0) (by omega) hx
  have hdl := decDigits_length ((lim n).getD ((lim n).length - 1) 0)
  refine dS rfl ?_
  refine ret Tryz.results97 rfl ⟨_, rfl, ?_, hB⟩
  show Value.int _ _ = Value.int _ _
  congr 1
  omega

theorem gcd_calls (p q : Nat) (a b : Option Addr) (c d : Nat) (w : World) (ha : Rd w a c (lim p)) (hb : Rd w b d (lim q)) (hpl : (lim p).length ≤ 68719476736) (hql : (lim q).length ≤ 68719476736) :
  Calls Tryz.prog 127 #[.slice a (lim p).length c, .slice b (lim q).length d] w (Ret fun v w' => Red w' v (lim (Nat.gcd p q)) ∧ Below w.heap.size w w') := by
 refine enter Tryz.func127 rfl Tryz.ntmps127 (Nat.le_of_ble_eq_true rfl) ?_
 refine dT rfl ?_
 refine loopR (fun l w' mu => ∃ m0 a0 c0 b0 d0, l = [(0, .slice a0 (lim m0).length c0), (1, .slice b0 (lim mu).length d0)] ∧ Rd w' a0 c0 (lim m0) ∧ Rd w' b0 d0 (lim mu) ∧ Nat.gcd m0 mu = Nat.gcd p q ∧ (lim m0).length ≤ 68719476736 ∧ (lim mu).length ≤ 68719476736 ∧ Below w.heap.size w w')
  (m0 := q) ⟨p, a, c, b, d, rfl, ha, hb, rfl, hpl, hql, Below.refl _ _⟩ ⟨rfl, rfl, trivial⟩ ?_
 rintro l w1 mu ⟨m0, a0, c0, b0, d0, rfl, ha, hb, hg, hl1, hl2, hB⟩
 refine dT rfl ?_
 refine cS rfl rfl rfl rfl (fun hq => ?_) (fun hq => ?_)
 ·have h0 : 0 < mu := by
   rcases Nat.eq_zero_or_pos mu with h | h
   ·rw [h, lim_zero] at hq; simp at hq
   ·exact h
  refine dT rfl ?_
  refine call (f := 128) rfl rfl cb128 (divmod_calls m0 mu h0 a0 b0 c0 d0 w1 ha hb hl1 hl2) ?_
  rintro v w2 ⟨v1, v2, rfl, _, ⟨a2, c2, rfl, hr2⟩, hB2⟩
  refine ⟨_, rfl, ?_⟩
  refine dT rfl ?_
  refine rend _ (m0 % mu) ⟨mu, b0, d0, a2, c2, rfl, hb.below hB2, hr2, ?_, hl2, Nat.le_trans (lim_len_mono (Nat.le_of_lt (Nat.mod_lt _ h0))) hl2, bl_tr hB hB2 hB.size⟩ (Nat.mod_lt _ h0) ⟨rfl, rfl, trivial⟩
  rw [← hg, Nat.gcd_comm m0 mu, Nat.gcd_rec mu m0]; exact Nat.gcd_comm _ _
 ·have h0 : mu = 0 := lim_eq_nil.1 (List.length_eq_zero_iff.1 (by omega))
  subst h0
  rw [Nat.gcd_zero_right] at hg
  subst hg
  refine dT rfl ?_
  exact ret Tryz.results127 rfl ⟨_, rfl, ⟨a0, c0, rfl, ha⟩, hB⟩
end
section
set_option maxHeartbeats 1000000
open Go Go.Proofs Go.RowKit Go.Lib

structure Oth (bs : List Nat) (w w' : World) : Prop where
 os : w'.os = w.os
 tape : w'.tape = w.tape
 output : w'.output = w.output
 size : w.heap.size ≤ w'.heap.size
 block : ∀ k, k < w.heap.size → k ∉ bs → w'.heap[k]? = w.heap[k]?

theorem Oth.refl (bs : List Nat) (w : World) : Oth bs w w := ⟨rfl, rfl, rfl, Nat.le_refl _, fun _ _ _ => rfl⟩
theorem Oth.trans {bs : List Nat} {w w1 w2 : World} (h : Oth bs w w1) (h' : Oth bs w1 w2) : Oth bs w w2 :=
 ⟨h'.os.trans h.os, h'.tape.trans h.tape, h'.output.trans h.output, Nat.le_trans h.size h'.size, fun k hk hn => (h'.block k (Nat.lt_of_lt_of_le hk h.size) hn).trans (h.block k hk hn)⟩
theorem Oth.below {bs : List Nat} {w w' : World} {B : Nat} (h : Oth bs w w') (hB : B ≤ w.heap.size) (hb : ∀ b ∈ bs, B ≤ b) : Below B w w' :=
 ⟨h.os, h.tape, h.output, h.size, fun k hk => h.block k (Nat.lt_of_lt_of_le hk hB) (fun hm => by have := hb k hm; omega)⟩
theorem Oth.bk {bs : List Nat} {w w' : World} {b t : Nat} {cs : List Value} (h : Oth bs w w') (hb : Bk w b t cs) (hn : b ∉ bs) : Bk w' b t cs := by
 have hlt := hb.lt
 unfold Bk at *; rw [h.block b hlt hn]; exact hb
theorem Oth.rd {bs : List Nat} {w w' : World} {a : Option Addr} {c : Nat} {xs : List Nat} (h : Oth bs w w') (hr : Rd w a c xs) (hn : ∀ g, ab a = some g → g ∉ bs) : Rd w' a c xs :=
 ⟨fun j v hv => by
  obtain ⟨g, off, rfl, hc⟩ := hr.1 j v hv
  refine ⟨g, off, rfl, ?_⟩
  have := h.block g (hr.2.2 g rfl).lt (hn g rfl)
  unfold World.cell? at *; rw [this]; exact hc, hr.2.1, fun g hg => by
  have hl := (hr.2.2 g hg).lt
  obtain ⟨c, z, e⟩ := hr.2.2 g hg
  exact ⟨c, z, by rw [h.block g hl (hn g hg)]; exact e⟩⟩

theorem TabOk.keep {w w' : World} {row : Option Nat} (h : TabOk w) (hg : w.grownBy w' row) (hr : row ≠ some 0) : TabOk w' := by
 obtain ⟨t, x, h⟩ := h
 exact ⟨t, x, by rw [hg.block _ (Array.getElem?_eq_some_iff.1 h).1 (fun e => hr e.symm)]; exact h⟩
theorem Oth.tab {bs : List Nat} {w w' : World} (h : Oth bs w w') (ht : TabOk w) (hn : 0 ∉ bs) : TabOk w' := by
 obtain ⟨t, x, ht⟩ := ht
 exact ⟨t, x, by rw [h.block _ (Array.getElem?_eq_some_iff.1 ht).1 hn]; exact ht⟩
end
section
open Go.RowKit

section
variable {P : Program} {ro : Option Nat} {n : Nat} {ds : List Deferred} {Q : PT} {l l' : Fr} {w w' : World} {arr : Array Oper} {r : List Oper} {k : List It}

end
end
section
set_option maxHeartbeats 1000000
open Go Go.Proofs Go.RowKit Go.Lib
end
section
set_option maxHeartbeats 1000000
open Go Go.Proofs Go.RowKit Go.Lib

theorem OwnB.tab (B : Nat) : OwnB B TabOk := fun W W' row h hg hr => h.keep hg (fun e => by
 obtain ⟨_, o, ho, hf⟩ := hr _ e
 obtain ⟨t, x, h⟩ := h
 exact cells_ne ho hf h rfl)
theorem OwnB.bld (B base b : Nat) (bs : List UInt8) : OwnB B (fun w => Bld w base b bs) :=
 (OwnB.pure _ _).and (OwnB.ex fun p => OwnB.ex fun a => OwnB.ex fun m => OwnB.ex fun c => (OwnB.pure _ _).and ((OwnB.bk _ _ _ _).and ((OwnB.own _ _ _ _ _ _ _ _).and (OwnB.pure _ _))))
theorem ko_kept {b : Nat} {W W' : World} {t : Nat} {cs : List Value} (hb : Bk W b t cs) (h : Kept b W W') (hs : W.heap.size ≤ W'.heap.size) : KeepsOthers W W' :=
 ⟨hs, fun k o hk ho => h k o hk (fun e => by subst e; unfold Bk at hb; rw [hb] at hk; cases hk; cases ho) (fun c x e => by subst e; cases ho)⟩
theorem Kept.bk {b : Nat} {W W' : World} {g : Nat} {cs : List Value} (h : Kept b W W') (hb : Bk W g 74 cs) (hne : g ≠ b) : Bk W' g 74 cs :=
 h g _ hb hne (fun c x e => by simp at e)
theorem Bld.below {w w' : World} {base b : Nat} {bs : List UInt8} (h : Bld w base b bs) (hb : Below w.heap.size w w') : Bld w' base b bs := by
 obtain ⟨h1, p, a, m, c, h2, h3, h4, h5⟩ := h
 refine ⟨h1, p, a, m, c, h2, h3.below hb h3.lt, ?_, h5⟩
 refine ⟨h4.1, ?_⟩
 rcases h4.2 with h | ⟨g, cap, cur, e1, e2, e3, e4⟩
 ·exact .inl h
 ·exact .inr ⟨g, cap, cur, e1, e2, by rw [hb.block g (Array.getElem?_eq_some_iff.1 e3).1]; exact e3, e4⟩

theorem string_calls (n : Nat) (a : Option Addr) (c : Nat) (w : World) (ha : Rd w a c (lim n)) (hl : (lim n).length ≤ 68719476736) (ht : TabOk w) :
  Calls Tryz.prog 98 #[.slice a (lim n).length c] w (Ret fun v w' => v = .string ⟨⟨decDigits n⟩⟩ ∧ Below w.heap.size w w') := by
 have hvn := val_lim n
 have hxl := lim_Lm n
 refine enterM Tryz.func98 rfl Tryz.ntmps98 (Nat.le_of_ble_eq_true rfl) ?_
 refine dT rfl ?_
 refine cS rfl rfl rfl rfl (fun hq => ?_) (fun hq => ?_)
 ·have h0 : n = 0 := lim_eq_nil.1 (List.length_eq_zero_iff.1 (by omega))
  refine dT rfl ?_
  refine retM0 U Tryz.results98 (vs := [_]) ⟨rfl, trivial⟩ ⟨_, rfl, ?_, Below.refl _ _⟩
  rw [h0, decDigits_one (by omega)]; rfl
 ·have h0 : n ≠ 0 := fun e => hq (by rw [e, lim_zero]; rfl)
  have htop := lim_top h0
  have hcap := ha.2.1
  generalize hxs : lim n = xs at *
  have hlen : 0 < xs.length := by omega
  have hx := hxl.getD (xs.length - 1)
  have hdrop : xs.drop (xs.length - 1) = [xs.getD (xs.length - 1) 0] := by
   rw [List.drop_eq_getElem_cons (by omega), List.drop_of_length_le (by omega)]; simp [List.getD, show xs.length - 1 < xs.length by omega]
  refine dT rfl ?_
  refine al U rfl rfl rfl rfl ?_
  intro b w1 hb hs1 hk1 hg1
  have hB1 : Below w.heap.size w w1 := (Below.refl _ w).grown hg1 (Nat.le_refl _) (fun k e => by cases e)
  have hbld : Bld w1 w.heap.size b [] := ⟨by omega, _, _, _, _, .inl rfl, hk1, ⟨rfl, .inl ⟨rfl, rfl⟩⟩, fun g e => by cases e⟩
  refine dS rfl ?_
  refine il U rfl rfl rfl rfl rfl rfl rfl (fun _ => rfl) rfl (xs.length - 1) (by omega) (by omega) (ha.below hB1).1 (getU (by omega)) ?_
  refine call (f := 133) rfl rfl cb133 (fmt_calls _ hx w1 (ht.new hg1)) ?_
  rintro v w2 ⟨rfl, hB2⟩
  refine ⟨_, rfl, ?_⟩
  have hnd2 := nD_le 9 (xs.getD (xs.length - 1) 0) (by omega) hx
  have hdl := decDigits_length (xs.getD (xs.length - 1) 0)
  have hB2' := bl_tr hB1 hB2 hB1.size
  refine call (f := 134) rfl rfl cb134 (write_calls w.heap.size b [] _ w2 (hbld.below hB2) (by rw [hdl]; simp only [List.length_nil]; omega) hB2'.size) ?_
  rintro v w3 ⟨rfl, hbld3, hB3, hK3⟩
  refine ⟨_, rfl, ?_⟩
  have hB3' := hB2'.trans hB3
  have ht3 := ht.below hB3'
  refine dS rfl ?_
  refine call (f := 123) rfl rfl cb123 (back_calls _ _ _ w3) ?_
  rintro v w4 ⟨rfl, hs4, hk4, hg4⟩
  refine ⟨_, rfl, ?_⟩
  have hB4 := hB3'.grown hg4 hB3'.size (fun k e => by cases e)
  have hbld4 : Bld w4 w.heap.size b ([] ++ decDigits (xs.getD (xs.length - 1) 0)) := OwnB.bld 0 _ _ _ w3 w4 none hbld3 hg4 (fun r e => by cases e)
  have ht4 := ht.below hB4
  have hb3 : b < w3.heap.size := by obtain ⟨_, _, _, _, _, _, h, _⟩ := hbld3; exact h.lt
  have hm : ((xs.length : Int) - 1).toNat = xs.length - 1 := by omega
  rw [hm] at hk4
  rw [List.nil_append] at hbld4
  have hdl0 : decDigits (val (xs.drop (xs.length - 1))) = decDigits (xs.getD (xs.length - 1) 0) := by rw [hdrop]; simp [val]
  have ha4 : Sl w4 a ((xs.take (xs.length - 1)).map u64) := by
   have := (ha.below hB4).1.take (xs.length - 1); rwa [← List.map_take] at this
  have hab := ha.2.2
  refine dT rfl ?_
  rw [hm]
  refine rng rfl cb156 rfl (back_seq a (xs.length - 1) c w3.heap.size (fun i v => i < xs.length - 1 → v = u64 (xs.getD i 0)) (fun w => Bk w w3.heap.size 74 [.slice a (xs.length - 1) c] ∧ Sl w a ((xs.take (xs.length - 1)).map u64)) (by omega) (fun w h => ⟨h.1, _, h.2, by simp, fun i v hv hi => by
        rw [List.map_take, List.getElem?_take, if_pos hi, getU (by omega)] at hv
        exact (Option.some.inj hv).symm⟩))
   (fun k vs h => by obtain ⟨v, rfl, _⟩ := h; rfl)
   (fun j W => j ≤ xs.length - 1 ∧ Bld W w.heap.size b (decDigits (val (xs.drop (xs.length - 1 - j)))) ∧ TabOk W ∧ Below w.heap.size w W)
   (fun cd W => False)
   (fun j => (OwnB.pure _ _).and ((OwnB.bld _ _ _ _).and ((OwnB.tab _).and (OwnB.below _ hB4.size (Nat.le_refl _)))))
   (fun cd => OwnB.pure _ _) ((OwnB.bk _ _ _ _).and (OwnB.sl _ _ _)) ⟨by omega, by rw [Nat.sub_zero, hdl0]; exact hbld4, ht4, hB4⟩ ⟨hk4, ha4⟩
   (fun vs => [(5, vs.getD 1 undef), (3, .pointer (some ⟨b, 0, none⟩))]) ?_ ?_ ?_ (fun _ _ _ _ h => h.elim)
  ·rintro L j vs W ⟨v, rfl, _⟩
   refine dT rfl ?_
   exact asg ⟨rfl, rfl, trivial⟩
  ·rintro L j vs W hj ⟨v, rfl, hv⟩ ⟨hj2, hbW, htW, hBW⟩ ⟨hkW, hsW⟩ hsz
   have hji : xs.length - 1 - (j + 1) = xs.length - 1 - 1 - j := by omega
   have hi : xs.length - 1 - 1 - j < xs.length - 1 := by omega
   rw [hv hi]
   rw [show xs.length - 1 - j = xs.length - 1 - 1 - j + 1 by omega] at hbW
   rw [hji]
   generalize hii : xs.length - 1 - 1 - j = i at *
   have hxi := hxl.getD i
   have hdc : decDigits (val (xs.drop i)) = decDigits (val (xs.drop (i + 1))) ++ (List.replicate (9 - nDigits (xs.getD i 0)) 48 ++ decDigits (xs.getD i 0)) := by
    rw [List.drop_eq_getElem_cons (show i < xs.length by omega)]
    have : xs[i] = xs.getD i 0 := by simp [List.getD, show i < xs.length by omega]
    rw [this]
    refine dec_cons hxi ?_
    have h1 := val_take_drop (xs.drop (i + 1)) (xs.length - 1 - (i + 1)) (by simp; omega)
    rw [List.drop_drop, show i + 1 + (xs.length - 1 - (i + 1)) = xs.length - 1 by omega, hdrop] at h1
    have h2 : 0 < pw (xs.length - 1 - (i + 1)) * val [xs.getD (xs.length - 1) 0] := Nat.mul_pos (pw_pos _) (by simpa [val] using htop)
    omega
   have hbl : (decDigits (val (xs.drop (i + 1)))).length ≤ 9 * xs.length := by
    rw [decDigits_length]
    have h1 : Lm (xs.drop (i + 1)) := hxl.drop _
    have h2 := val_lt h1
    rw [pw10] at h2
    refine Nat.le_trans (nD_le _ _ ?_ h2) ?_
    ·simp; omega
    ·simp; omega
   generalize hxe : xs.getD i 0 = x at *
   have hnx := nD_le 9 x (by omega) hxi
   have hdx := decDigits_length x
   refine dT rfl ?_
   refine call (f := 133) rfl rfl cb133 (fmt_calls x hxi W htW) ?_
   rintro v w6 ⟨rfl, hB6⟩
   refine ⟨_, rfl, ?_⟩
   have hBW6 := bl_tr hBW hB6 hBW.size
   have hrep : ([48, 48, 48, 48, 48, 48, 48, 48, 48] : List UInt8).drop (((decDigits x).length : Nat) : Int).toNat = List.replicate (9 - nDigits x) 48 := by
    rw [show ([48, 48, 48, 48, 48, 48, 48, 48, 48] : List UInt8) = List.replicate 9 48 from rfl, List.drop_replicate, Int.toNat_natCast, hdx]
   refine dr U 600 rfl (by simp only [AllP, InR, List.nil_append, List.cons_append, and_true, List.length_cons, List.length_nil]; omega) ?_
   refine call (f := 134) rfl rfl cb134 (write_calls w.heap.size b _ _ w6 (hbW.below hB6) (by rw [hrep, List.length_replicate]; omega) hBW6.size) ?_
   rintro v w7 ⟨rfl, hb7, hB7, hK7⟩
   rw [hrep] at hb7
   refine ⟨_, rfl, ?_⟩
   refine dT rfl ?_
   refine call (f := 134) rfl rfl cb134 (write_calls w.heap.size b _ _ w7 hb7 (by rw [List.length_append, List.length_replicate]; omega) (hBW6.trans hB7).size) ?_
   rintro v w8 ⟨rfl, hb8, hB8, hK8⟩
   rw [List.append_assoc, ← hdc] at hb8
   refine ⟨_, rfl, ?_⟩
   refine dT rfl ?_
   have hBW8 := (hBW6.trans hB7).trans hB8
   have hkW6 := hkW.below hB6 hkW.lt
   have hkb : ∃ t cs, Bk w6 b t cs := by obtain ⟨_, _, _, _, _, _, h, _⟩ := hbW.below hB6; exact ⟨_, _, h⟩
   have hKK := hK7.trans hK8
   have hKO : KeepsOthers W w8 := by
    obtain ⟨t, cs, hk⟩ := hkb
    exact (ko_below (KeepsOthers.refl W) hB6).trans (ko_kept hk hKK (Nat.le_trans hB7.size hB8.size))
   exact rnd ⟨hKO, ⟨by omega, hb8, ht.below hBW8, hBW8⟩, hKK.bk hkW6 (by omega), hsW.below ((hB6.mono hBW.size).trans (hB7.trans hB8)) (fun g e => (hab g e).lt)⟩
  ·rintro D W hD ⟨hj2, hbW, htW, hBW⟩ hK
   rw [Nat.sub_self, List.drop_zero, hvn] at hbW
   have hne : decDigits n ≠ [] := fun e => by have := decDigits_length n; rw [e] at this; have := nDigits_pos n; simp at *; omega
   have hib : Lib.IsBuilder 160 5 w.heap.size b (byteCells (decDigits n)) W := by
    obtain ⟨h1, p, a2, m, c2, h2, h3, h4, h5⟩ := hbW
    have hm2 := own_len h4
    subst hm2
    rcases h2 with rfl | rfl
    ·exact .inl ⟨h1, _, h3, h4, by rw [ownBlock_ab]; exact fun e => h5 b e rfl⟩
    ·exact .inr ⟨h1, _, h3, h4, by rw [ownBlock_ab]; exact fun e => h5 b e rfl⟩
   refine dT rfl ?_
   have hkb : ∃ t cs, Bk W b t cs := by obtain ⟨_, _, _, _, _, _, h, _⟩ := hbW; exact ⟨_, _, h⟩
   obtain ⟨tb, cb, hkb⟩ := hkb
   refine call (f := 135) rfl rfl cb135 (Post := fun v w' => v = .string ⟨⟨decDigits n⟩⟩ ∧ Below w.heap.size W w' ∧ ∀ k o, W.heap[k]? = some o → some k ≠ some b → (∀ c x, o ≠ .cells c 5 x) → w'.heap[k]? = some o)
    ((Any.Builder_String_k Tryz.lays169 Tryz.Builder_Extra_169 w.heap.size b (decDigits n) W (IsBuilderF.of hib) hne).mono (by rintro e w' ⟨rfl, _, h, hk⟩; exact ⟨_, rfl, rfl, h, hk⟩)) ?_
   rintro v w5 ⟨rfl, hB5, hk5⟩
   refine ⟨_, rfl, ?_⟩
   refine dT rfl ?_
   have hK5 := hk5 D _ hK (by intro e; cases e; unfold Bk at hkb; rw [hkb] at hK; cases hK) (fun c x e => by cases e)
   have hgp := grownBy_putObj' w5 D (.deferred none)
   refine retM1 U Tryz.results98 (vs := [_]) hK5 ⟨rfl, trivial⟩ ⟨_, rfl, rfl, (hBW.trans hB5).grown hgp (hBW.trans hB5).size (fun k e => by cases e; have := hB4.size; omega)⟩
end
section
open Go.Lib

def isD (c : UInt8) : Prop := 48 ≤ c.toNat ∧ c.toNat ≤ 57
def Dgs (l : List UInt8) : Prop := ∀ c ∈ l, isD c
def dvalA (a : Nat) (l : List UInt8) : Nat := l.foldl (fun a c => a * 10 + (c.toNat - 48)) a
def dval (l : List UInt8) : Nat := dvalA 0 l

theorem dvalA_nil (a : Nat) : dvalA a [] = a := by simp only [dvalA, List.foldl_nil]
theorem dvalA_cons (a : Nat) (c : UInt8) (l : List UInt8) : dvalA a (c :: l) = dvalA (a * 10 + (c.toNat - 48)) l := by simp only [dvalA, List.foldl_cons]
theorem dvalA_append (a : Nat) (x y : List UInt8) : dvalA a (x ++ y) = dvalA (dvalA a x) y := by unfold dvalA; rw [List.foldl_append]
theorem dvalA_eq : ∀ (l : List UInt8) (a : Nat), dvalA a l = a * 10 ^ l.length + dval l
 | [], a => by simp [dval, dvalA]
 | c :: l, a => by
  have h1 : dval (c :: l) = (c.toNat - 48) * 10 ^ l.length + dval l := by
   show dvalA 0 (c :: l) = _
   rw [dvalA_cons, dvalA_eq l, Nat.zero_mul, Nat.zero_add]
  rw [dvalA_cons, dvalA_eq l, h1, List.length_cons, Nat.pow_succ, Nat.add_mul, Nat.mul_comm (10 ^ l.length) 10, ← Nat.mul_assoc]
  omega
theorem dval_append (x y : List UInt8) : dval (x ++ y) = dval x * 10 ^ y.length + dval y := by
 show dvalA 0 (x ++ y) = _; rw [dvalA_append, dvalA_eq]; rfl
theorem dval_snoc (x : List UInt8) (c : UInt8) : dval (x ++ [c]) = dval x * 10 + (c.toNat - 48) := by
 show dvalA 0 (x ++ [c]) = _; rw [dvalA_append, dvalA_cons, dvalA_nil]; rfl
theorem Dgs.left {x y : List UInt8} (h : Dgs (x ++ y)) : Dgs x := fun c hc => h c (by simp [hc])
theorem Dgs.right {x y : List UInt8} (h : Dgs (x ++ y)) : Dgs y := fun c hc => h c (by simp [hc])
theorem Dgs.take {x : List UInt8} (h : Dgs x) (k : Nat) : Dgs (x.take k) := fun c hc => h c (List.mem_of_mem_take hc)
theorem Dgs.drop {x : List UInt8} (h : Dgs x) (k : Nat) : Dgs (x.drop k) := fun c hc => h c (List.mem_of_mem_drop hc)

theorem snocL {α : Type} (xs : List α) : xs = [] ∨ ∃ ys y, xs = ys ++ [y] := by
 rcases List.eq_nil_or_concat xs with h | ⟨a, b, h⟩
 ·exact .inl h
 ·exact .inr ⟨a, b, by simpa using h⟩

theorem dval_lt {l : List UInt8} (h : Dgs l) : dval l < 10 ^ l.length := by
 induction hn : l.length generalizing l with
 | zero => rw [List.length_eq_zero_iff] at hn; subst hn; simp [dval, dvalA]
 | succ n ih =>
  rcases snocL l with rfl | ⟨x, c, rfl⟩
  ·simp at hn
  ·have h1 := ih h.left (by simpa using hn)
   have h2 := h c (by simp)
   unfold isD at h2
   rw [dval_snoc, Nat.pow_succ]
   omega

theorem parse_ok : ∀ (l : List UInt8) (a : Nat), Dgs l → (a + 1) * 10 ^ l.length ≤ 1000000000000000000 → parseUintM (2 ^ 64 - 1) a l = .ok (dvalA a l)
 | [], a, _, _ => rfl
 | c :: l, a, h, hb => by
  have h1 := h c (by simp)
  unfold isD at h1
  rw [parseUintM, if_pos h1]
  have h2 : (a * 10 + (c.toNat - 48) + 1) * 10 ^ l.length ≤ 1000000000000000000 := by
   refine Nat.le_trans (Nat.mul_le_mul_right _ (show a * 10 + (c.toNat - 48) + 1 ≤ (a + 1) * 10 by omega)) ?_
   rw [List.length_cons, Nat.pow_succ, Nat.mul_comm (10 ^ l.length), ← Nat.mul_assoc] at hb
   exact hb
  have h3 : (a * 10 + (c.toNat - 48) + 1) * 1 ≤ (a * 10 + (c.toNat - 48) + 1) * 10 ^ l.length := Nat.mul_le_mul_left _ (Nat.pow_pos (by omega))
  rw [if_neg (by omega), if_neg (by omega), dvalA_cons]
  exact parse_ok l _ (fun c hc => h c (by simp [hc])) h2

theorem parse_chunk {l : List UInt8} (h : Dgs l) (hne : l ≠ []) (hl : l.length ≤ 9) : parseUintB 64 l = .ok (dval l) := by
 unfold parseUintB
 rw [if_neg hne]
 refine parse_ok l 0 h ?_
 have := Nat.pow_le_pow_right (n := 10) (by omega) hl
 omega

theorem ofNat_d {k : Nat} (h : k < 10) : (UInt8.ofNat (48 + k)).toNat = 48 + k := by
 rw [UInt8.toNat_ofNat']; omega

theorem dec_dval (n : Nat) : Dgs (decDigits n) ∧ dval (decDigits n) = n := by
 induction n using Nat.strongRecOn with
 | _ n ih =>
  by_cases h : n < 10
  ·rw [decDigits_one h]
   have := ofNat_d h
   exact ⟨fun c hc => by rw [List.mem_singleton.1 hc]; unfold isD; omega, by show dvalA 0 [_] = _; rw [dvalA_cons, dvalA_nil, this]; omega⟩
  ·rw [dec_big h]
   obtain ⟨h1, h2⟩ := ih (n / 10) (by omega)
   have := ofNat_d (Nat.mod_lt n (show 0 < 10 by omega))
   refine ⟨fun c hc => ?_, by rw [dval_snoc, h2, this]; omega⟩
   simp only [List.mem_append, List.mem_singleton] at hc
   rcases hc with hc | rfl
   ·exact h1 c hc
   ·unfold isD; omega

theorem dec_of {l : List UInt8} (h : Dgs l) (hne : l ≠ []) (hz : l = [48] ∨ l.head? ≠ some 48) : l = decDigits (dval l) := by
 induction hn : l.length generalizing l with
 | zero => exact absurd (List.length_eq_zero_iff.1 hn) hne
 | succ n ih =>
  rcases snocL l with rfl | ⟨x, c, rfl⟩
  ·exact absurd rfl hne
  ·have h2 := h c (by simp)
   unfold isD at h2
   have hc : UInt8.ofNat (48 + (c.toNat - 48)) = c := by
    apply UInt8.toNat_inj.1; rw [UInt8.toNat_ofNat']; have := c.toNat_lt; omega
   by_cases hx : x = []
   ·subst hx
    simp only [List.nil_append]
    have : dval [c] = c.toNat - 48 := by show dvalA 0 [c] = _; rw [dvalA_cons, dvalA_nil]; omega
    rw [this, decDigits_one (by omega), hc]
   ·have hz' : x = [48] ∨ x.head? ≠ some 48 := by
     right
     intro e
     rcases hz with hz | hz
     ·have := congrArg List.length hz; simp at this; exact hx this
     ·cases x with
      | nil => exact hx rfl
      | cons y r => exact hz e
    have h3 := ih h.left hx hz' (by simpa using hn)
    have h4 : 0 < dval x := by
     rcases Nat.eq_zero_or_pos (dval x) with h5 | h5
     ·rw [h5, decDigits_one (by omega)] at h3
      rcases hz with hz | hz
      ·have := congrArg List.length hz; simp at this; exact absurd this hx
      ·rw [h3] at hz; exact absurd rfl hz
     ·exact h5
    rw [dval_snoc, dec_big (by omega), show (dval x * 10 + (c.toNat - 48)) / 10 = dval x by omega, show (dval x * 10 + (c.toNat - 48)) % 10 = c.toNat - 48 by omega, hc, ← h3]

theorem dec_head {n : Nat} : decDigits n = [48] ∨ (decDigits n).head? ≠ some 48 := by
 induction n using Nat.strongRecOn with
 | _ n ih =>
  by_cases h : n < 10
  ·rw [decDigits_one h]
   by_cases h0 : n = 0
   ·left; subst h0; rfl
   ·right
    intro e
    have := congrArg UInt8.toNat (Option.some.inj e)
    rw [ofNat_d h] at this
    have h8 : (48 : UInt8).toNat = 48 := rfl
    omega
  ·right
   rw [dec_big h]
   have hne : decDigits (n / 10) ≠ [] := fun e => by have := decDigits_length (n / 10); rw [e] at this; have := nDigits_pos (n / 10); simp at *; omega
   rcases ih (n / 10) (by omega) with h1 | h1
   ·exfalso
    have := (dec_dval (n / 10)).2
    rw [h1] at this
    simp [dval, dvalA] at this
    omega
   ·cases hd : decDigits (n / 10) with
    | nil => exact absurd hd hne
    | cons y r => rw [hd] at h1; simpa using h1

theorem dec_inj {m n : Nat} (h : decDigits m = decDigits n) : m = n := by
 have := (dec_dval m).2
 rw [h, (dec_dval n).2] at this
 exact this.symm
end
end Go.Proofs.YtejlpdbiacmfcaaGreatDoor
