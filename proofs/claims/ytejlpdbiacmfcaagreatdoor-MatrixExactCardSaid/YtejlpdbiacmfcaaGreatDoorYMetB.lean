/-
  What the rows of this seat share where an argument is a slice of bytes or of strings: what it reads as; a law that returns true and leaves older memory alone meets its row.
  No conditions: each theorem names its own premises.

  Walks of the reference's rational numbers: one, Reduce, Write, Plus.
  Conditions: numbers take fewer than 2^34 limbs.

  How a text is read as a rational number, in plain arithmetic.
  No conditions: each theorem names its own premises.

  Walks of the reference's rational numbers: slash, digits, integer, Read, two, Add.
  Conditions: texts take fewer than 2^40 bytes.

  Walk of the reference's sum of rational numbers.
  Conditions: numbers take fewer than 2^34 limbs.

  Walks of the reference's rational numbers: integer, Make.
  Conditions: texts take fewer than 2^40 bytes.

  Walk of the reference's reading of a rational number.
  Conditions: texts take fewer than 2^40 bytes.

  How many digits the parts of sums, products and quotients of rational numbers take.
  No conditions: each theorem names its own premises.

  Walk of the reference's sum of two texts.
  Conditions: texts take fewer than 2^40 bytes.

  Engine rules: an empty slice literal, a whole slice appended to a slice that the call owns, operations on bytes.
  No conditions: each theorem names its own premises.

  Engine rules: slices of structs, structs that are compared, functions that are compared with nil, two operations of which either may come first.
  No conditions: each theorem names its own premises.
-/
import Derived.Test.YtejlpdbiacmfcaaGreatDoorYTab
import Derived.Test.YtejlpdbiacmfcaaGreatDoorYSto
import Derived.Test.YtejlpdbiacmfcaaGreatDoorYLmG
import Derived.Test.YtejlpdbiacmfcaaGreatDoorYBld
import Derived.Test.YtejlpdbiacmfcaaGreatDoorYPar
import Derived.Test.YtejlpdbiacmfcaaGreatDoorYRt
import Derived.SliceStrings
import Derived.Laws.OwnMore
import Derived.Great.BuildSlice
import Derived.Laws.StructEq
section
namespace Go.Proofs.YtejlpdbiacmfcaaGreatDoor
open Go Go.Proofs Go.RowKit Go.Lib Go.WideShapes Go.ChangeAt
open Go.ChangeShapes hiding strs

theorem laidOut : laidOutB Tryz.prog = true := by kernel_rfl
section
variable {H : Type} {enc : TypeId × Value → H}

set_option maxRecDepth 100000 in
/-- The post of a law that returns true. -/
theorem post_mem {P : Program} {f : Func} {s : ChangeSpec} {W W' : World} {args : Array Value} {ds : List (DataW H)} {before pa : List MemPlace} {t : TypeId} (hs : s.vars = [])
    (hW : DataW.Whole enc P f.params.toList s.vars false W args.toList ds [] before) (hr : f.resultTypes = #[t]) (ht : P.underlying t = some .bool)
    (hres : (s.fn H (ds ++ [])).results = [.lit (.bool true)]) (hargs : DataW.TrodAll enc P W' 0 (fun b => decide (b < W.heap.size)) true f.params.toList args.toList (s.fn H (ds ++ [])).args pa)
    (hvars : (s.fn H (ds ++ [])).vars = []) (hB : Below W.heap.size W W') : s.post enc P f false true false false W args (.bool true) W' := by
  have hR : ∀ (b : Nat) (sp : Nat → Bool) (hd : Bool), DataW.TrodAll enc P W' b sp hd f.resultTypes.toList ((Value.bool true).resultList f.resultTypes.size) (s.fn H (ds ++ [])).results [] := by
    intro b sp hd
    rw [hr, hres]
    exact trodAll_mk1 (shut_bool ht _)
  have hV : ∀ sp : Nat → Bool, DataW.TrodVars enc P W' sp s.vars (s.fn H (ds ++ [])).vars [] := by
    intro sp
    rw [hs, hvars]; rfl
  exact ⟨ds, [], before, [], pa, [], hW, hR _ _ _, hargs, hV _, hB.frame _, fun h => by cases h⟩
end
end Go.Proofs.YtejlpdbiacmfcaaGreatDoor
end
section
set_option linter.unusedSimpArgs false
set_option linter.unusedVariables false
set_option maxHeartbeats 1000000
namespace Go.Proofs.YtejlpdbiacmfcaaGreatDoor
open Go Go.Proofs Go.RowKit Go.Lib

/-- A number of the reference that reads so. -/
def QV (w : World) (v : Value) (m : Bool) (n d : Nat) : Prop := ∃ an cn ad cd, v = .agg ⟨[.bool m, .slice an (lim n).length cn, .slice ad (lim d).length cd]⟩ ∧ RdI w an cn (lim n) ∧ RdI w ad cd (lim d)
theorem QV.below {w w' : World} {v : Value} {m : Bool} {n d : Nat} (h : QV w v m n d) (hb : Below w.heap.size w w') : QV w' v m n d := by
  obtain ⟨an, cn, ad, cd, rfl, h1, h2⟩ := h
  exact ⟨an, cn, ad, cd, rfl, h1.below hb, h2.below hb⟩
theorem RdI.past {w w' : World} {a : Option Addr} {c : Nat} {xs : List Nat} {b t : Nat} {cs : List Value} (h : RdI w a c xs) (hk : Bk w b t cs) (hn : NoInt cs) (hg : w.grownBy w' (some b)) (ht : Nat.beq 3 t = false := by rfl) : RdI w' a c xs :=
  ⟨h.1.past (fun v hv => by obtain ⟨x, _, rfl⟩ := List.mem_map.1 hv; exact ⟨_, _, rfl⟩) hk hn hg, h.2.1, fun g e => (h.2.2 g e).grown hg (fun e' => (h.2.2 g e).ne hk.tg ht (by cases e'; rfl))⟩
/-- A number of the reference that is this one. -/
def QR (w : World) (v : Value) (r : Rat) : Prop := QV w v (decide (r.num < 0)) r.num.natAbs r.den
theorem rone_calls (w : World) : Calls Tryz.prog 64 #[] w (Ret fun v w' => (∃ a c, v = .slice a (lim 1).length c ∧ RdI w' a c (lim 1)) ∧ Below w.heap.size w w') := by
  refine enter Tryz.func64 rfl Tryz.ntmps64 (Nat.le_of_ble_eq_true rfl) ?_
  refine dr U 600 rfl trivial ?_
  refine bs1 U (v := i64n 1) rfl rfl rfl rfl rfl rfl rfl ?_
  intro w1 hk1 hs1 hg1
  refine dr U 600 rfl trivial ?_
  refine ret Tryz.results64 rfl ⟨_, rfl, ⟨some ⟨w.heap.size, 0, none⟩, 1, by rw [lim_one]; rfl, ?_⟩, (Below.refl _ _).grown hg1 (Nat.le_refl _) (fun k e => by cases e)⟩
  rw [lim_one]; exact ⟨by simpa using hk1.sl 0, by simp, fun g hg => by simp [ab] at hg; subst hg; exact hk1.tg⟩

section
variable {P : Program} (U : Tys P) {ro : Option Nat} {n : Nat} {ds : List Deferred} {Q : PT} {l l' : Fr} {w w' : World} {arr : Array Oper} {r : List Oper} {k : List It}
/-- Two bools are compared. -/
theorem eqlB {d : Nat} {t t2 ty : TypeId} {x y : Operand} {ps : String} {af : Array Edge} {g : Option (Nat × Bool)} {a b c : Bool} (hx : ev l x = some (.bool a)) (hy : ev l y = some (.bool b)) (ht : U.tb.u t = some .bool) (hc : (a == b) = c) (hg : gd arr l g = some true) (hd : Nat.blt d n = true)
    (t' : T P ro n ds Q ((d, .bool c) :: l) w (.ops arr r) k) : T P ro n ds Q l w (.ops arr (⟨some d, .binOp .eql t x y t2, ty, ps, af, g⟩ :: r)) k :=
  op1 (v := .bool c) (by intro c h; cases h) hg (put1_some hd) (fun act hf => by
    have h1 := run_equal_bool (P := P) w t a b (U.hu _ _ ht)
    rw [hc] at h1
    simp [execOp, hf.ev hx, hf.ev hy, eqGuard, binOp, h1]) t'
end

theorem mkq_add_same (m : Bool) (a b c d : Nat) (hb : b ≠ 0) (hd : d ≠ 0) : mkq m a b + mkq m c d = mkq m (a * d + c * b) (b * d) := by
  rw [mkq_add m m a b c d hb hd]
  unfold mkq
  congr 1
  cases m <;> simp [Int.neg_add]
theorem mkq_add_lt (m : Bool) (a b c d : Nat) (hb : b ≠ 0) (hd : d ≠ 0) (h : a * d ≤ c * b) : mkq m a b + mkq (!m) c d = mkq (!m) (c * b - a * d) (b * d) := by
  rw [mkq_add m (!m) a b c d hb hd]
  unfold mkq
  congr 1
  generalize a * d = x at *
  generalize c * b = y at *
  cases m <;> simp <;> omega
theorem mkq_add_ge (m : Bool) (a b c d : Nat) (hb : b ≠ 0) (hd : d ≠ 0) (h : c * b ≤ a * d) : mkq m a b + mkq (!m) c d = mkq m (a * d - c * b) (b * d) := by
  rw [mkq_add m (!m) a b c d hb hd]
  unfold mkq
  congr 1
  generalize a * d = x at *
  generalize c * b = y at *
  cases m <;> simp <;> omega
theorem Small.lim {k : Nat} {r : Rat} (h : Small k r) : (lim r.num.natAbs).length ≤ k ∧ (lim r.den).length ≤ k := ⟨Nat.le_trans (lim_le_nD _) h.1, Nat.le_trans (lim_le_nD _) h.2⟩
end Go.Proofs.YtejlpdbiacmfcaaGreatDoor
end
section
set_option linter.unusedSimpArgs false
set_option linter.unusedVariables false
namespace Go.Proofs.YtejlpdbiacmfcaaGreatDoor
open Go.Lib

def qpre (s : List UInt8) : List UInt8 := s.takeWhile fun c => c != 47
def qneg (s : List UInt8) : Bool := (qpre s).head? == some 45
def qn (s : List UInt8) : List UInt8 := if qneg s = true then (qpre s).tail else qpre s
def qslash (s : List UInt8) : Bool := decide ((qpre s).length < s.length)
def qd (s : List UInt8) : List UInt8 := if qslash s = true then s.drop ((qpre s).length + 1) else [49]
def QIs (s : List UInt8) : Prop := Form (qn s) ∧ ¬(qneg s = true ∧ qn s = [48]) ∧ (qslash s = true → qn s ≠ [48] ∧ Form (qd s) ∧ qd s ≠ [48] ∧ qd s ≠ [49])
/-- The error that a text has as a number. -/
def QErr (s : List UInt8) (e : Int) : Prop :=
  (¬ QIs s ∧ e = 3) ∨ (QIs s ∧ (4000 < (qn s).length ∨ 4000 < (qd s).length) ∧ e = 5) ∨
  (QIs s ∧ (qn s).length ≤ 4000 ∧ (qd s).length ≤ 4000 ∧ Nat.gcd (dval (qn s)) (dval (qd s)) ≠ 1 ∧ e = 3) ∨
  (QIs s ∧ (qn s).length ≤ 4000 ∧ (qd s).length ≤ 4000 ∧ Nat.gcd (dval (qn s)) (dval (qd s)) = 1 ∧ e = 0)
theorem QErr.uniq {s : List UInt8} {e e' : Int} (h : QErr s e) (h' : QErr s e') : e = e' := by
  rcases h with ⟨h1, rfl⟩ | ⟨h1, h2, rfl⟩ | ⟨h1, h2, h3, h4, rfl⟩ | ⟨h1, h2, h3, h4, rfl⟩ <;>
    rcases h' with ⟨g1, rfl⟩ | ⟨g1, g2, rfl⟩ | ⟨g1, g2, g3, g4, rfl⟩ | ⟨g1, g2, g3, g4, rfl⟩ <;> first
    | rfl
    | exact absurd h1 g1
    | exact absurd g1 h1
    | (exfalso; omega)
    | exact absurd h4 g4
    | exact absurd g4 h4
/-- The number of a text. -/
def qval (s : List UInt8) : Rat := mkq (qneg s) (dval (qn s)) (dval (qd s))

theorem form_digit {l : List UInt8} (h : Form l) : ∀ c ∈ l, c ≠ 47 ∧ c ≠ 45 := fun c hc => by
  have := h.2.2 c hc
  unfold isD at this
  constructor <;> (rintro rfl; revert this; decide)
theorem form_dec (n : Nat) : Form (decDigits n) := form_iff.2 ⟨n, rfl⟩
theorem qd_pos {s : List UInt8} (h : QIs s) : dval (qd s) ≠ 0 := by
  unfold qd
  split
  · rename_i hs
    obtain ⟨_, h1, h2, _⟩ := h.2.2 hs
    unfold qd at h1 h2
    rw [if_pos hs] at h1 h2
    intro h0
    apply h2
    have := dec_of h1.2.2 h1.1 h1.2.1
    rw [this, h0, decDigits, dif_pos (by omega)]; rfl
  · decide
theorem dval_zero_iff {l : List UInt8} (h : Form l) : l = [48] ↔ dval l = 0 := by
  constructor
  · rintro rfl; rfl
  · intro h0
    rw [dec_of h.2.2 h.1 h.2.1, h0, decDigits, dif_pos (by omega)]; rfl
theorem dval_one_iff {l : List UInt8} (h : Form l) : l = [49] ↔ dval l = 1 := by
  constructor
  · rintro rfl; rfl
  · intro h0
    rw [dec_of h.2.2 h.1 h.2.1, h0, decDigits, dif_pos (by omega)]; rfl

theorem takeW_all {p : UInt8 → Bool} : ∀ (l : List UInt8), (∀ c ∈ l, p c = true) → l.takeWhile p = l
  | [], _ => rfl
  | c :: r, h => by
    rw [List.takeWhile_cons, h c (by simp), takeW_all r (fun x hx => h x (by simp [hx]))]; simp
theorem takeW_stop {p : UInt8 → Bool} (c : UInt8) (t : List UInt8) (hc : p c = false) : ∀ (l : List UInt8), (∀ c ∈ l, p c = true) → (l ++ c :: t).takeWhile p = l
  | [], _ => by simp [List.takeWhile_cons, hc]
  | a :: r, h => by
    rw [List.cons_append, List.takeWhile_cons, h a (by simp), takeW_stop c t hc r (fun x hx => h x (by simp [hx]))]; simp
/-- A number's text is read as the number. -/
theorem q_text (r : Rat) : qneg (qtext r) = decide (r.num < 0) ∧ qn (qtext r) = decDigits r.num.natAbs ∧ qd (qtext r) = decDigits r.den ∧ QIs (qtext r) := by
  have hfn := form_dec r.num.natAbs
  have hfd := form_dec r.den
  have hd1 : decDigits 1 = [49] := by rw [decDigits, dif_pos (by omega)]; rfl
  have hA : ∀ c ∈ (if r.num < 0 then [45] else []) ++ decDigits r.num.natAbs, (c != 47) = true := by
    intro c hc
    rcases List.mem_append.1 hc with h | h
    · split at h
      · rw [List.mem_singleton.1 h]; decide
      · cases h
    · simpa using (form_digit hfn c h).1
  have hpre : qpre (qtext r) = (if r.num < 0 then [45] else []) ++ decDigits r.num.natAbs := by
    unfold qpre qtext
    by_cases hd : r.den = 1
    · rw [if_pos hd, List.append_nil]; exact takeW_all _ hA
    · rw [if_neg hd]; exact takeW_stop 47 _ (by decide) _ hA
  have hneg : qneg (qtext r) = decide (r.num < 0) := by
    unfold qneg
    rw [hpre]
    by_cases h : r.num < 0
    · rw [if_pos h]; simp [h]
    · rw [if_neg h]
      rw [decide_eq_false h, List.nil_append]
      cases hl : decDigits r.num.natAbs with
      | nil => exact absurd hl hfn.1
      | cons c t =>
        have := (form_digit hfn c (by rw [hl]; simp)).2
        simpa using this
  have hn : qn (qtext r) = decDigits r.num.natAbs := by
    unfold qn
    rw [hneg, hpre]
    by_cases h : r.num < 0
    · simp [h]
    · simp [h]
  have hsl : qslash (qtext r) = decide (r.den ≠ 1) := by
    unfold qslash
    rw [hpre]
    unfold qtext
    by_cases h : r.den = 1
    · simp [h]
    · simp [h]
  have hqd : qd (qtext r) = decDigits r.den := by
    unfold qd
    rw [hsl]
    by_cases h : r.den = 1
    · simp [h, hd1]
    · rw [if_pos (by simpa using h), hpre]
      have hdrop : ∀ (A D : List UInt8), (A ++ 47 :: D).drop (A.length + 1) = D := fun A D => by
        rw [show A ++ 47 :: D = (A ++ [47]) ++ D by simp, List.drop_left' (by simp)]
      unfold qtext
      rw [if_neg h]
      exact hdrop _ _
  refine ⟨hneg, hn, hqd, ?_⟩
  unfold QIs
  rw [hn, hneg, hsl, hqd]
  refine ⟨hfn, fun h => ?_, fun h => ?_⟩
  · have h1 : r.num < 0 := by simpa using h.1
    have h2 := (dval_zero_iff hfn).1 h.2
    rw [(dec_dval _).2] at h2
    omega
  · have h1 : r.den ≠ 1 := by simpa using h
    refine ⟨fun h2 => ?_, hfd, fun h2 => ?_, fun h2 => ?_⟩
    · have h2 := (dval_zero_iff hfn).1 h2
      rw [(dec_dval _).2] at h2
      have := r.reduced
      rw [h2, Nat.coprime_zero_left] at this
      exact h1 this
    · have h2 := (dval_zero_iff hfd).1 h2
      rw [(dec_dval _).2] at h2
      exact r.den_nz h2
    · have h2 := (dval_one_iff hfd).1 h2
      rw [(dec_dval _).2] at h2
      exact h1 h2
theorem q_text_ok (r : Rat) (h : Small 4000 r) : QErr (qtext r) 0 ∧ qval (qtext r) = r := by
  obtain ⟨h1, h2, h3, h4⟩ := q_text r
  refine ⟨.inr (.inr (.inr ⟨h4, ?_, ?_, ?_, rfl⟩)), ?_⟩
  · rw [h2, decDigits_length]; exact h.1
  · rw [h3, decDigits_length]; exact h.2
  · rw [h2, h3, (dec_dval _).2, (dec_dval _).2]; exact r.reduced
  · unfold qval
    rw [h1, h2, h3, (dec_dval _).2, (dec_dval _).2]
    exact mkq_self r
end Go.Proofs.YtejlpdbiacmfcaaGreatDoor
end
section
set_option linter.unusedSimpArgs false
set_option linter.unusedVariables false
set_option maxHeartbeats 1000000
namespace Go.Proofs.YtejlpdbiacmfcaaGreatDoor
open Go Go.Proofs Go.RowKit Go.Lib

theorem qpre_len (s : List UInt8) (i : Nat) (h1 : ∀ c ∈ s.take i, c ≠ 47) (h2 : i = s.length ∨ s[i]? = some 47) (hi : i ≤ s.length) : (qpre s).length = i := by
  have h := List.take_append_drop i s
  unfold qpre
  rw [← h]
  have hA : ∀ c ∈ s.take i, (c != 47) = true := fun c hc => by simpa using h1 c hc
  rcases h2 with h2 | h2
  · rw [List.drop_of_length_le (by omega), List.append_nil, takeW_all _ hA]; simp; omega
  · have hlt : i < s.length := by
      rcases Nat.lt_or_ge i s.length with h | h
      · exact h
      · rw [List.getElem?_eq_none h] at h2; cases h2
    rw [List.drop_eq_getElem_cons hlt]
    rw [List.getElem?_eq_getElem hlt] at h2
    rw [Option.some.inj h2, takeW_stop 47 _ (by decide) _ hA]; simp; omega

end Go.Proofs.YtejlpdbiacmfcaaGreatDoor
end
section
set_option linter.unusedSimpArgs false
set_option linter.unusedVariables false
set_option maxHeartbeats 1000000
namespace Go.Proofs.YtejlpdbiacmfcaaGreatDoor
open Go Go.Proofs Go.RowKit Go.Lib



end Go.Proofs.YtejlpdbiacmfcaaGreatDoor
end
section
set_option linter.unusedSimpArgs false
set_option linter.unusedVariables false
set_option maxHeartbeats 1000000
namespace Go.Proofs.YtejlpdbiacmfcaaGreatDoor
open Go Go.Proofs Go.RowKit Go.Lib

theorem ineg_cons (c : UInt8) (t : List UInt8) : ineg (c :: t) = decide (c = 45) ∧ irest (c :: t) = if c = 45 then t else c :: t := by
  have h : ineg (c :: t) = decide (c = 45) := by
    unfold ineg hasPrefix
    simp only [List.isPrefixOf, Bool.and_true]
    by_cases hc : c = 45
    · subst hc; rfl
    · rw [decide_eq_false hc, beq_eq_false_iff_ne]; exact fun h => hc h.symm
  refine ⟨h, ?_⟩
  unfold irest trimPrefix
  unfold ineg at h
  rw [h]
  simp

end Go.Proofs.YtejlpdbiacmfcaaGreatDoor
end
section
set_option linter.unusedSimpArgs false
set_option linter.unusedVariables false
set_option maxHeartbeats 1000000
namespace Go.Proofs.YtejlpdbiacmfcaaGreatDoor
open Go Go.Proofs Go.RowKit Go.Lib

/-- A number that is nothing. -/
def zq : Value := .agg ⟨[.bool false, .slice none 0 0, .slice none 0 0]⟩
theorem ineg_q (s : List UInt8) : ineg (qpre s) = qneg s ∧ irest (qpre s) = qn s := by
  unfold qn qneg
  cases h : qpre s with
  | nil => exact ⟨rfl, rfl⟩
  | cons c t =>
    obtain ⟨h1, h2⟩ := ineg_cons c t
    rw [h1, h2]
    by_cases hc : c = 45
    · subst hc; exact ⟨rfl, rfl⟩
    · refine ⟨?_, ?_⟩
      · rw [decide_eq_false hc]; simp [hc]
      · simp [hc]
theorem qpre_take (s : List UInt8) : s.take (qpre s).length = qpre s := by
  unfold qpre
  induction s with
  | nil => rfl
  | cons c t ih =>
    rw [List.takeWhile_cons]
    split
    · rw [List.length_cons, List.take_succ_cons, ih]
    · rfl
theorem qpre_le (s : List UInt8) : (qpre s).length ≤ s.length := by
  have := congrArg List.length (qpre_take s)
  rw [List.length_take] at this
  omega
/-- What Read answers. -/
def ReadR (s : List UInt8) (v : Value) (w : World) : Prop :=
  (∃ e, e ≠ 0 ∧ QErr s e ∧ v = .tuple ⟨[zq, .int .i64 e]⟩) ∨ (QErr s 0 ∧ ∃ u, v = .tuple ⟨[u, .int .i64 0]⟩ ∧ QR w u (qval s))

theorem qneg_iok (s : List UInt8) : IOk (qpre s) ↔ Form (qn s) ∧ ¬(qneg s = true ∧ qn s = [48]) := by
  unfold IOk
  rw [(ineg_q s).1, (ineg_q s).2]
theorem qd_slash {s : List UInt8} (h : (qpre s).length < s.length) : s.drop ((qpre s).length + 1) = qd s ∧ qslash s = true := by
  have hs : qslash s = true := decide_eq_true h
  refine ⟨?_, hs⟩
  unfold qd
  rw [if_pos hs]
theorem qd_plain {s : List UInt8} (h : ¬ (qpre s).length < s.length) : [49] = qd s ∧ qslash s = false := by
  have hs : qslash s = false := decide_eq_false h
  refine ⟨?_, hs⟩
  unfold qd
  rw [if_neg (by rw [hs]; simp)]


theorem QR.past {w w' : World} {v : Value} {r : Rat} {b t : Nat} {cs : List Value} (h : QR w v r) (hk : Bk w b t cs) (hn : NoInt cs) (hg : w.grownBy w' (some b)) (ht : Nat.beq 3 t = false := by rfl) : QR w' v r := by
  obtain ⟨an, cn, ad, cd, rfl, h1, h2⟩ := h
  exact ⟨an, cn, ad, cd, rfl, h1.past hk hn hg ht, h2.past hk hn hg ht⟩
theorem QR.stay {w w' : World} {v : Value} {r : Rat} (h : QR w v r) (hb : Below w.heap.size w w') : QR w' v r := QV.below h hb
theorem ReadR.cases {s : List UInt8} {v : Value} {w : World} (h : ReadR s v w) : ∃ m a1 n1 c1 a2 n2 c2 e, v = .tuple ⟨[.agg ⟨[.bool m, .slice a1 n1 c1, .slice a2 n2 c2]⟩, .int .i64 e]⟩ ∧ QErr s e ∧ (e = 0 → QR w (.agg ⟨[.bool m, .slice a1 n1 c1, .slice a2 n2 c2]⟩) (qval s)) := by
  rcases h with ⟨e, h1, h2, rfl⟩ | ⟨h1, u, rfl, h2⟩
  · exact ⟨_, _, _, _, _, _, _, e, rfl, h2, fun h => absurd h h1⟩
  · obtain ⟨an, cn, ad, cd, rfl, h3⟩ := h2
    exact ⟨_, _, _, _, _, _, _, 0, rfl, h1, fun _ => ⟨an, cn, ad, cd, rfl, h3⟩⟩

/-- The error of two texts as numbers. -/
def Two (s t : List UInt8) (e : Int) : Prop := (e ≠ 0 ∧ QErr s e) ∨ (QErr s 0 ∧ QErr t e)
theorem Two.uniq {s t : List UInt8} {e f : Int} (h : Two s t e) (h' : Two s t f) : e = f := by
  rcases h with ⟨h1, h2⟩ | ⟨h1, h2⟩ <;> rcases h' with ⟨g1, g2⟩ | ⟨g1, g2⟩
  · exact h2.uniq g2
  · exact absurd (h2.uniq g1) h1
  · exact absurd (g2.uniq h1) g1
  · exact h2.uniq g2
theorem Two.ok {s t : List UInt8} (h : Two s t 0) : QErr s 0 ∧ QErr t 0 := by
  rcases h with ⟨h1, _⟩ | h
  · exact absurd rfl h1
  · exact h

end Go.Proofs.YtejlpdbiacmfcaaGreatDoor
end
section
set_option linter.unusedSimpArgs false
set_option linter.unusedVariables false
namespace Go.Proofs.YtejlpdbiacmfcaaGreatDoor
open Go.Lib

theorem nD_sum (m n k : Nat) (h1 : nDigits m ≤ k) (h2 : nDigits n ≤ k) : nDigits (m + n) ≤ k + 1 := by
  refine nD_le _ _ (by omega) ?_
  have h3 := Nat.lt_of_lt_of_le (lt_pow_nDigits m) (Nat.pow_le_pow_right (n := 10) (by omega) h1)
  have h4 := Nat.lt_of_lt_of_le (lt_pow_nDigits n) (Nat.pow_le_pow_right (n := 10) (by omega) h2)
  rw [Nat.pow_succ]
  omega
theorem mkRat_mkq (z : Int) (d : Nat) : mkRat z d = mkq (decide (z < 0)) z.natAbs d := by
  unfold mkq
  congr 1
  by_cases h : z < 0
  · rw [if_pos (by simpa using h)]; omega
  · rw [if_neg (by simpa using h)]; omega
theorem small_add {K L : Nat} {p q : Rat} (hp : Small K p) (hq : Small L q) : Small (K + L + 1) (p + q) := by
  have e : p + q = mkq (decide (p.num < 0)) p.num.natAbs p.den + mkq (decide (q.num < 0)) q.num.natAbs q.den := by rw [mkq_self, mkq_self]
  rw [e, mkq_add _ _ _ _ _ _ p.den_nz q.den_nz, mkRat_mkq]
  have h1 := nD_mul p.num.natAbs q.den
  have h2 := nD_mul q.num.natAbs p.den
  have h3 := nD_mul p.den q.den
  have a1 := hp.1
  have a2 := hp.2
  have b1 := hq.1
  have b2 := hq.2
  refine mkq_small (Nat.mul_ne_zero p.den_nz q.den_nz) ?_ (by omega)
  refine Nat.le_trans (nD_mono (n := p.num.natAbs * q.den + q.num.natAbs * p.den) ?_) (nD_sum _ _ _ (by omega) (by omega))
  generalize p.num.natAbs * q.den = x
  generalize q.num.natAbs * p.den = y
  split <;> split <;> omega
theorem small_mul {K L : Nat} {p q : Rat} (hp : Small K p) (hq : Small L q) : Small (K + L) (p * q) := by
  have e : p * q = mkq (decide (p.num < 0)) p.num.natAbs p.den * mkq (decide (q.num < 0)) q.num.natAbs q.den := by rw [mkq_self, mkq_self]
  rw [e, mkq_mul]
  have h1 := nD_mul p.num.natAbs q.num.natAbs
  have h3 := nD_mul p.den q.den
  have a1 := hp.1
  have a2 := hp.2
  have b1 := hq.1
  have b2 := hq.2
  exact mkq_small (Nat.mul_ne_zero p.den_nz q.den_nz) (by omega) (by omega)
theorem small_neg {K : Nat} {p : Rat} (hp : Small K p) : Small K (-p) := by
  unfold Small at *
  rw [Rat.neg_num, Rat.neg_den, Int.natAbs_neg]; exact hp
theorem small_mono {K L : Nat} {p : Rat} (hp : Small K p) (h : K ≤ L) : Small L p := ⟨Nat.le_trans hp.1 h, Nat.le_trans hp.2 h⟩
end Go.Proofs.YtejlpdbiacmfcaaGreatDoor
end
section
set_option linter.unusedSimpArgs false
set_option linter.unusedVariables false
set_option maxHeartbeats 1000000
namespace Go.Proofs.YtejlpdbiacmfcaaGreatDoor
open Go Go.Proofs Go.RowKit Go.Lib

theorem QErr.ok {s : List UInt8} (h : QErr s 0) : QIs s ∧ (qn s).length ≤ 4000 ∧ (qd s).length ≤ 4000 ∧ Nat.gcd (dval (qn s)) (dval (qd s)) = 1 := by
  rcases h with ⟨_, h⟩ | ⟨_, _, h⟩ | ⟨_, _, _, _, h⟩ | ⟨h1, h2, h3, h4, _⟩
  · cases h
  · cases h
  · cases h
  · exact ⟨h1, h2, h3, h4⟩
theorem qd_form {s : List UInt8} (h : QIs s) : Form (qd s) := by
  by_cases hs : qslash s = true
  · exact (h.2.2 hs).2.1
  · unfold qd
    rw [if_neg hs]; exact ⟨by simp, .inr (by decide), fun c hc => by rw [List.mem_singleton.1 hc]; exact ⟨by decide, by decide⟩⟩
theorem QErr.small {s : List UInt8} (h : QErr s 0) : Small 4000 (qval s) := by
  obtain ⟨h1, h2, h3, h4⟩ := h.ok
  exact mkq_small (qd_pos h1) (form_len ⟨h1.1, h2⟩).1 (form_len ⟨qd_form h1, h3⟩).1
theorem Small.fits {K : Nat} {r : Rat} (h : Small K r) (hK : K ≤ 68719476736) : Fits r := ⟨Nat.le_trans h.lim.1 hK, Nat.le_trans h.lim.2 hK⟩

/-- What a function of two numbers answers. -/
def BinR (f : Rat → Rat → Rat) (s t : List UInt8) (v : Value) : Prop :=
  (∃ e, e ≠ 0 ∧ Two s t e ∧ v = .tuple ⟨[.string ⟨⟨[]⟩⟩, .int .i64 e]⟩) ∨ (Two s t 0 ∧ QRes (f (qval s) (qval t)) v)
theorem BinR.uniq {f : Rat → Rat → Rat} {s t : List UInt8} {v v' : Value} (h : BinR f s t v) (h' : BinR f s t v') : v = v' := by
  rcases h with ⟨e, h1, h2, rfl⟩ | ⟨h1, h2⟩ <;> rcases h' with ⟨e', g1, g2, rfl⟩ | ⟨g1, g2⟩
  · rw [h2.uniq g2]
  · exact absurd (h2.uniq g1) h1
  · exact absurd (g2.uniq h1) g1
  · exact h2.uniq g2
theorem BinR.text {f : Rat → Rat → Rat} {p q : Rat} {v : Value} (hp : Small 4000 p) (hq : Small 4000 q) (h : BinR f (qtext p) (qtext q) v) : QRes (f p q) v := by
  have h1 := q_text_ok p hp
  have h2 := q_text_ok q hq
  rcases h with ⟨e, g1, g2, rfl⟩ | ⟨_, g⟩
  · exact absurd (g2.uniq (.inr ⟨h1.1, h2.1⟩)) g1
  · rwa [h1.2, h2.2] at g


end Go.Proofs.YtejlpdbiacmfcaaGreatDoor
end
section
set_option linter.unusedVariables false
set_option linter.unusedSimpArgs false
namespace Go.Proofs.YtejlpdbiacmfcaaGreatDoor
open Go.RowKit

section
variable {P : Program} (U : Tys P) {ro : Option Nat} {n : Nat} {ds : List Deferred} {Q : PT} {l l' : Fr} {w w' : World} {arr : Array Oper} {r : List Oper} {k : List It}

/-- An empty slice literal. -/
theorem bs0 {d1 : Nat} {t e ty : TypeId} {ps : String} {af : Array Edge} {g1 : Option (Nat × Bool)} {z : Value} {by_ s : Nat}
    (ht : U.tb.u t = some (.slice e)) (hi : U.tb.inf e = some (s, by_, z)) (hg1 : gd arr l g1 = some true) (hd1 : Nat.blt d1 n = true)
    (t' : ∀ w1, w1.ownsRow w.heap.size e s (.slice (some ⟨w.heap.size, 0, none⟩) 0 0) 0 [] → w1.heap.size = w.heap.size + 1 → w.grownBy w1 none → T P ro n ds Q ((d1, .slice (some ⟨w.heap.size, 0, none⟩) 0 0) :: l) w1 (.ops arr r) k) :
    T P ro n ds Q l w (.ops arr (⟨some d1, .buildSlice t 0 #[], ty, ps, af, g1⟩ :: r)) k := by
  obtain ⟨i, hi0, hz1, hz2, hz3⟩ := U.hi _ _ _ _ hi
  have hpt := U.hu _ _ ht
  refine op1 (w' := w.alloc (.cells #[] e)) (v := .slice (some ⟨w.heap.size, 0, none⟩) 0 0) (by intro c h; cases h) hg1 (put1_some hd1) (fun a hf => ?_) (t' _ (World.ownsRow_made w #[] 0 (Nat.le_refl _) (by decide) (by simp)) (by simp) (World.grownBy_alloc w _ none))
  simp only [execOp, Instr.buildSlice]
  simp [run_under hpt, sizeOf, typeInfo, program, Sem.run, hi0, hz1, zeroValue, hz3, Instr.fill, newRow, newObj]
  rw [show Array.range 0 = #[] from rfl]; simp

theorem run_append_nothing (base : Nat) (t ty e : TypeId) (i : TypeInfo) (size : Nat) (ht : P.underlying t = some (.slice e)) (hi : P.info? e = some i)
    (v : Value) (n : Nat) (xs : List Value) (hown : w.ownsRow base e size v n xs) (c : Nat) :
    (Builtin.append_ #[t, t] ty #[v, .slice none 0 c]).run P w = .ok v w := by
  rcases hown.2 with ⟨rfl, rfl⟩ | ⟨g, cap, cur, rfl, _, _, hnc, _⟩
  · simp [Builtin.append_, run_underlying ht, sizeOf, typeInfo, hi, Builtin.lenOf, Builtin.firstCells]
  · simp [Builtin.append_, run_underlying ht, sizeOf, typeInfo, hi, Builtin.lenOf, Builtin.firstCells, hnc, storeCells]

/-- A whole slice is appended to a slice that the call owns. -/
theorem aw {d : Nat} {t e ty : TypeId} {s x : Operand} {ps : String} {af : Array Edge} {g : Option (Nat × Bool)} {a b : Option Addr} {m c kk cb sz by_ base : Nat} {z : Value} {cs vs : List Value} {tt : Array TypeId}
    (hs : ev l s = some (.slice a m c)) (hx : ev l x = some (.slice b kk cb)) (ht : U.tb.u t = some (.slice e)) (hi : U.tb.inf e = some (sz, by_, z)) (hzc : Nat.beq z.cells.size sz = true) (hsz : Nat.blt 0 sz = true) (hg : gd arr l g = some true) (hd : Nat.blt d n = true) (htt : tt = #[t, t])
    (hown : w.ownsRow base e sz (.slice a m c) m cs) (hv : Sl w b vs) (hl : vs.length = kk * sz) (h1 : ∀ u ∈ vs, u.oneCell' = true) (hbase : base ≤ w.heap.size) (hlen : (m + kk) * by_ ≤ 140737488355328) (hby : Nat.blt 0 by_ = true)
    (t' : ∀ a' c' w1, w1.ownsRow base e sz (.slice a' (m + kk) c') (m + kk) (cs ++ vs) → w.grownBy w1 (ab a) → T P ro n ds Q ((d, .slice a' (m + kk) c') :: l) w1 (.ops arr r) k) :
    T P ro n ds Q l w (.ops arr (⟨some d, .call ⟨.builtin .append, #[s, x], tt⟩, ty, ps, af, g⟩ :: r)) k := by
  subst htt
  have hsz : 0 < sz := by simpa using hsz
  have hzc := Nat.eq_of_beq_eq_true hzc
  have hby : 0 < by_ := by simpa using hby
  obtain ⟨i, hi0, hz1, hz2, hz3⟩ := U.hi _ _ _ _ hi
  have hpt := U.hu _ _ ht
  have hmm : m + kk ≤ maxLen := by
    unfold maxLen
    have : (m + kk) * 1 ≤ (m + kk) * by_ := Nat.mul_le_mul_left _ hby
    omega
  cases b with
  | none =>
    have hk0 : kk = 0 := by
      rcases Nat.eq_zero_or_pos kk with h | h
      · exact h
      · exfalso
        have hpos : 0 < vs.length := by rw [hl]; exact Nat.mul_pos h hsz
        obtain ⟨g, off, he, _⟩ := hv 0 vs[0] (List.getElem?_eq_getElem hpos)
        cases he
    subst hk0
    have hv0 : vs = [] := List.eq_nil_of_length_eq_zero (by rw [hl, Nat.zero_mul])
    subst hv0
    have hrun := run_append_nothing (P := P) (w := w) base t ty e i sz hpt hi0 (.slice a m c) m cs hown cb
    refine op1 (w' := w) (by intro c h; cases h) hg (put1_some hd) (fun act hf => ?_) (t' a c w (by simpa using hown) ⟨rfl, rfl, rfl, Nat.le_refl _, fun _ _ _ => rfl⟩)
    simp only [execOp, resolve, invoke, builtin]
    simp [hf.ev hs, hf.ev hx, hrun]
  | some ba =>
    obtain ⟨v', w1, hrun, ho, hgr, _⟩ := run_append_own w base t ty e i z sz by_ hpt hi0 hz3 hz1 hz2 hzc hsz (.slice a m c) m cs hown ba kk cb vs hl
      (fun j u hj => by
        obtain ⟨g, off, he, hc⟩ := hv j u hj
        cases he
        rw [add_plain]; exact hc) h1 hmm hlen hbase
    obtain ⟨a', c', rfl⟩ : ∃ a' c', v' = .slice a' (m + kk) c' := by
      rcases ho.2 with ⟨rfl, h⟩ | ⟨g, cap, cur, h, _⟩
      · exact ⟨none, 0, by rw [h]⟩
      · exact ⟨_, _, h⟩
    rw [ownBlock_ab] at hgr
    refine op1 (w' := w1) (by intro c h; cases h) hg (put1_some hd) (fun act hf => ?_) (t' a' c' w1 ho hgr)
    simp only [execOp, resolve, invoke, builtin]
    simp [hf.ev hs, hf.ev hx, hrun]

end
end Go.Proofs.YtejlpdbiacmfcaaGreatDoor
end
section
set_option linter.unusedVariables false
set_option linter.unusedSimpArgs false
namespace Go.Proofs.YtejlpdbiacmfcaaGreatDoor
open Go.RowKit

section
variable {P : Program} (U : Tys P) {ro : Option Nat} {n : Nat} {ds : List Deferred} {Q : PT} {l l' : Fr} {w w' : World} {arr : Array Oper} {r : List Oper} {k : List It}

/-- The address of an element of a slice. -/
theorem ia {x1 : Nat} {t e ty : TypeId} {x i : Operand} {ps : String} {af : Array Edge} {g1 : Option (Nat × Bool)} {g off m c s : Nat} {ki : IntKind} {iv : Int}
    (hx : ev l x = some (.slice (some ⟨g, off, none⟩) m c)) (hi : ev l i = some (.int ki iv)) (ht : U.tb.u t = some (.slice e)) (hz : U.tb.sz e = some s) (hg1 : gd arr l g1 = some true) (hx1 : Nat.blt x1 n = true)
    (j : Nat) (hj : iv = (j : Int)) (hm : j < m)
    (t' : T P ro n ds Q ((x1, .pointer (some ⟨g, off + j * s, none⟩)) :: l) w (.ops arr r) k) :
    T P ro n ds Q l w (.ops arr (⟨some x1, .indexAddr t x i, ty, ps, af, g1⟩ :: r)) k := by
  subst hj
  refine op1 (w' := w) (v := .pointer (some ⟨g, off + j * s, none⟩)) (by intro c h; cases h) hg1 (put1_some hx1) (fun a hf => ?_) t'
  have := run_index U ht hz ⟨g, off, none⟩ m c j ki hm w
  simp [execOp, hf.ev hx, hf.ev hi, this, add_plain]

theorem run_load_mid {t : TypeId} {s b off : Nat} {cs : List Value} (h : AggOk P t s) (hc : ∀ j v, cs[j]? = some v → w.cell? ⟨b, off + j, none⟩ = some v) (hs : cs.length = s) :
    (loadVar t ⟨b, off, none⟩).run P w = .ok (.agg ⟨cs⟩) w := by
  obtain ⟨⟨fs, hu⟩, i, hi, hz⟩ := h
  exact run_loadVar_mid w b off t cs (.struct fs) hc hu rfl (by rw [hi]; simp [hz, hs])

/-- A struct is read out of the middle of a block. -/
theorem lgo {dst : Option Nat} {t ty : TypeId} {x : Operand} {ps : String} {af : Array Edge} {g : Option (Nat × Bool)} {p : Addr} {b off s : Nat} {cs : List Value} (hx : ev l x = some (.pointer (some p))) (hp : p = ⟨b, off, none⟩) (ht : AggOk P t s) (hg : gd arr l g = some true)
    (hl : put1 n l dst (.agg ⟨cs⟩) = some l') (hc : ∀ j v, cs[j]? = some v → w.cell? ⟨b, off + j, none⟩ = some v) (hs : cs.length = s) (t' : T P ro n ds Q l' w (.ops arr r) k) : T P ro n ds Q l w (.ops arr (⟨dst, .load t x, ty, ps, af, g⟩ :: r)) k := by
  subst hp
  exact op1 (by intro c h; cases h) hg hl (fun a hf => by
    simp only [execOp, hf.ev hx, Instr.loadAt, Instr.sureAddr]
    simp [run_load_mid ht hc hs]) t'

theorem Sl.at {a : Option Addr} {vs : List Value} (h : Sl w a vs) {j : Nat} (hj : j < vs.length) : ∃ g off, a = some ⟨g, off, none⟩ ∧ ∀ i v, vs[i]? = some v → w.cell? ⟨g, off + i, none⟩ = some v := by
  obtain ⟨g, off, rfl, _⟩ := h j vs[j] (List.getElem?_eq_getElem hj)
  refine ⟨g, off, rfl, fun i v hv => ?_⟩
  obtain ⟨g', off', he, hc⟩ := h i v hv
  cases he
  exact hc

/-- A struct, an element of a slice, is read. -/
theorem ig {x1 d2 : Nat} {t e t2 ty ty2 : TypeId} {x i : Operand} {ps ps2 : String} {af af2 : Array Edge} {g1 g2 : Option (Nat × Bool)} {a : Option Addr} {m c s : Nat} {ki : IntKind} {iv : Int} {vs cs : List Value}
    (hx : ev l x = some (.slice a m c)) (hi : ev l i = some (.int ki iv)) (ht : U.tb.u t = some (.slice e)) (hz : U.tb.sz e = some s) (h2 : AggOk P t2 s)
    (hg1 : gd arr l g1 = some true) (hx1 : Nat.blt x1 n = true) (hg2 : ∀ p, gd arr ((x1, p) :: l) g2 = some true) (hd2 : Nat.blt d2 n = true)
    (j : Nat) (hj : iv = (j : Int)) (hm : j < m) (hs : Sl w a vs) (hcs : ∀ i v, cs[i]? = some v → vs[j * s + i]? = some v) (hlen : cs.length = s) (hpos : 0 < s)
    (t' : T P ro n ds Q ((d2, .agg ⟨cs⟩) :: (x1, .pointer (a.map (·.add (j * s)))) :: l) w (.ops arr r) k) :
    T P ro n ds Q l w (.ops arr (⟨some x1, .indexAddr t x i, ty, ps, af, g1⟩ :: ⟨some d2, .load t2 (.tmp x1), ty2, ps2, af2, g2⟩ :: r)) k := by
  have hlt : j * s < vs.length := by
    have := hcs 0 cs[0] (List.getElem?_eq_getElem (by omega))
    have := (List.getElem?_eq_some_iff.1 this).1
    omega
  obtain ⟨g, off, rfl, hc⟩ := hs.at hlt
  refine ia U hx hi ht hz hg1 hx1 j hj hm ?_
  refine lgo (p := ⟨g, off + j * s, none⟩) (by simp [ev, look_cons]) rfl h2 (hg2 _) (put1_some hd2) (cs := cs) (fun i v hv => by rw [Nat.add_assoc]; exact hc _ v (hcs i v hv)) hlen ?_
  simpa [add_plain] using t'

/-- A struct is appended to a slice that the call owns. -/
theorem aps {d1 d2 : Nat} {t e ty ty2 : TypeId} {x s : Operand} {ps ps2 : String} {af af2 : Array Edge} {g1 g2 : Option (Nat × Bool)} {a : Option Addr} {m c sz : Nat} {vs : List Value} {z : Value} {by_ : Nat} {base : Nat} {cs : List Value} {tt : Array TypeId}
    (hx : ev l x = some (.agg ⟨vs⟩)) (ht : U.tb.u t = some (.slice e)) (hi : U.tb.inf e = some (sz, by_, z)) (hzc : Nat.beq z.cells.size sz = true) (hsz : Nat.blt 0 sz = true) (hsm : Nat.ble sz 16777216 = true)
    (hg1 : gd arr l g1 = some true) (hd1 : Nat.blt d1 n = true) (hg2 : ∀ p, gd arr ((d1, p) :: l) g2 = some true) (hd2 : Nat.blt d2 n = true) (hs2 : ∀ p, ev ((d1, p) :: l) s = some (.slice a m c)) (htt : tt = #[t, t])
    (hvl : Nat.beq vs.length sz = true) (h1 : vs.all (·.oneCell') = true)
    (hown : w.ownsRow base e sz (.slice a m c) m cs) (hbase : base ≤ w.heap.size) (hlen : (m + 1) * by_ ≤ 140737488355328) (hby : Nat.blt 0 by_ = true)
    (t' : ∀ a' c' w1, w1.ownsRow base e sz (.slice a' (m + 1) c') (m + 1) (cs ++ vs) → w.grownBy w1 (ab a) → T P ro n ds Q ((d2, .slice a' (m + 1) c') :: (d1, .slice (some ⟨w.heap.size, 0, none⟩) 1 1) :: l) w1 (.ops arr r) k) :
    T P ro n ds Q l w (.ops arr (⟨some d1, .buildSlice t 1 #[(0, x)], ty, ps, af, g1⟩ :: ⟨some d2, .call ⟨.builtin .append, #[s, .tmp d1], tt⟩, ty2, ps2, af2, g2⟩ :: r)) k := by
  subst htt
  have hsz : 0 < sz := by simpa using hsz
  have hsm : sz ≤ 16777216 := Nat.le_of_ble_eq_true hsm
  have hby : 0 < by_ := by simpa using hby
  have hzc := Nat.eq_of_beq_eq_true hzc
  have hvl := Nat.eq_of_beq_eq_true hvl
  obtain ⟨i, hi0, hz1, hz2, hz3⟩ := U.hi _ _ _ _ hi
  have hpt := U.hu _ _ ht
  have hmm : m + 1 ≤ maxLen := by
    unfold maxLen
    have : (m + 1) * 1 ≤ (m + 1) * by_ := Nat.mul_le_mul_left _ hby
    omega
  have hfill := Great.fill_whole hsz [Value.agg ⟨vs⟩] ((Array.range (1 * i.size)).map (z.cells[· % z.cells.size]!)) (by intro v hv; rw [List.mem_singleton.1 hv]; exact hvl) (by simp [hz1])
  have hbuild := run_buildSlice (P := P) w t e 1 #[(0, .agg ⟨vs⟩)] _ i z hpt hi0 hz3 (by rw [hz1]; omega) (by rw [hz1]; omega) (by rw [hz1] at hfill ⊢; exact hfill)
  have hcells : (List.flatMap (fun v => v.cells.toList) [Value.agg ⟨vs⟩]).toArray = ⟨vs⟩ := by simp [Value.cells]
  rw [hcells] at hbuild
  refine op1 (w' := w.alloc (.cells ⟨vs⟩ e)) (v := .slice (some ⟨w.heap.size, 0, none⟩) 1 1) (by intro c h; cases h) hg1 (put1_some hd1) (fun a hf => ?_) ?_
  · simp only [execOp]
    simp [hf.ev hx, hbuild]
  · have hown1 := hown.alloc (.cells ⟨vs⟩ e)
    obtain ⟨v', w1, hrun, ho, hgr, _⟩ := run_append_own (w.alloc (.cells ⟨vs⟩ e)) base t ty2 e i z sz by_ hpt hi0 hz3 hz1 hz2 hzc hsz (.slice a m c) m cs hown1 ⟨w.heap.size, 0, none⟩ 1 1 vs (by omega)
      (by
        intro j u hj
        rw [add_plain, Nat.zero_add]
        exact (show Bk (w.alloc (.cells ⟨vs⟩ e)) w.heap.size e vs from heap_alloc_new w _).cell hj)
      (fun u hu => List.all_eq_true.1 h1 u hu) hmm hlen (by simp; omega)
    obtain ⟨a', c', rfl⟩ : ∃ a' c', v' = .slice a' (m + 1) c' := by
      rcases ho.2 with ⟨_, h⟩ | ⟨g, cap, cur, h, _⟩
      · omega
      · exact ⟨_, _, h⟩
    refine op1 (w' := w1) (by intro c h; cases h) (hg2 _) (put1_some hd2) (fun act hf => ?_) (t' a' c' w1 ho ?_)
    · have e1 := hf.ev (hs2 _)
      have e2 : act.eval (.tmp d1) = .slice (some ⟨w.heap.size, 0, none⟩) 1 1 := hf.ev (by simp [ev, look_cons])
      simp only [execOp, resolve, invoke, builtin]
      simp [e1, e2, hrun]
    · rw [ownBlock_ab] at hgr
      have h0 := World.grownBy_alloc w (.cells ⟨vs⟩ e) (ab a)
      exact ⟨hgr.os.trans h0.os, hgr.tape.trans h0.tape, hgr.output.trans h0.output, Nat.le_trans h0.size hgr.size, fun k hk hne => (hgr.block k (by simp; omega) hne).trans (h0.block k hk hne)⟩

/-- A slice of written-out structs. -/
theorem bsS {d1 len : Nat} {t e ty : TypeId} {ops : List (Nat × Operand)} {ps : String} {af : Array Edge} {g1 : Option (Nat × Bool)} {z : Value} {sz by_ : Nat} (vs : List (List Value))
    (hx : ops.mapM (fun p => (ev l p.2).map fun v => (p.1, v)) = some (((vs.map fun cs => Value.agg ⟨cs⟩).zipIdx 0).map fun x => (x.2, x.1))) (ht : U.tb.u t = some (.slice e)) (hi : U.tb.inf e = some (sz, by_, z)) (hg1 : gd arr l g1 = some true) (hd1 : Nat.blt d1 n = true)
    (hlen : vs.length = len) (hpos : 0 < len * sz) (hsm : len * sz ≤ 16777216) (hszs : ∀ cs ∈ vs, cs.length = sz)
    (t' : ∀ w1, Bk w1 w.heap.size e vs.flatten → w1.heap.size = w.heap.size + 1 → w.grownBy w1 none → T P ro n ds Q ((d1, .slice (some ⟨w.heap.size, 0, none⟩) len len) :: l) w1 (.ops arr r) k) :
    T P ro n ds Q l w (.ops arr (⟨some d1, .buildSlice t len ⟨ops⟩, ty, ps, af, g1⟩ :: r)) k := by
  obtain ⟨i, hi0, hz1, hz2, hz3⟩ := U.hi _ _ _ _ hi
  have hpt := U.hu _ _ ht
  have hs0 : 0 < sz := by
    rcases Nat.eq_zero_or_pos sz with h | h
    · rw [h, Nat.mul_zero] at hpos; omega
    · exact h
  have hfill := Great.fill_whole hs0 (vs.map fun cs => Value.agg ⟨cs⟩) ((Array.range (len * i.size)).map (z.cells[· % z.cells.size]!)) (by
    intro v hv
    obtain ⟨cs, hcs, rfl⟩ := List.mem_map.1 hv
    exact hszs cs hcs) (by simp [hz1, hlen])
  have hcells : (List.flatMap (fun v => v.cells.toList) (vs.map fun cs => Value.agg ⟨cs⟩)).toArray = ⟨vs.flatten⟩ := by
    rw [List.flatMap_map]; simp [Value.cells, List.flatMap, Function.comp_def]
  rw [hcells] at hfill
  refine op1 (w' := w.alloc (.cells ⟨vs.flatten⟩ e)) (v := .slice (some ⟨w.heap.size, 0, none⟩) len len) (by intro c h; cases h) hg1 (put1_some hd1) (fun a hf => ?_) (t' _ (heap_alloc_new w _) (by simp) (World.grownBy_alloc w _ none))
  have hmap : ops.map (fun p => (p.1, a.eval p.2)) = ((vs.map fun cs => Value.agg ⟨cs⟩).zipIdx 0).map fun x => (x.2, x.1) := by
    have key : ∀ (os : List (Nat × Operand)) (rs : List (Nat × Value)), os.mapM (fun p => (ev l p.2).map fun v => (p.1, v)) = some rs → os.map (fun p => (p.1, a.eval p.2)) = rs := by
      intro os
      induction os with
      | nil => intro rs h; simp at h; subst h; rfl
      | cons o os ih =>
        intro rs h
        simp only [List.mapM_cons, Option.pure_def, Option.bind_eq_bind, Option.bind_eq_some_iff, Option.map_eq_some_iff] at h
        obtain ⟨q, ⟨v, hv, rfl⟩, us, hu, h⟩ := h
        simp at h
        subst h
        simp [hf.ev hv, ih us hu]
    exact key ops _ hx
  have hbuild := run_buildSlice (P := P) w t e len ⟨ops.map fun p => (p.1, a.eval p.2)⟩ ⟨vs.flatten⟩ i z hpt hi0 hz3 (by rw [hz1]; omega) (by rw [hz1]; omega) (by rw [hz1] at hfill ⊢; simp only [hmap]; exact hfill)
  simp only [execOp, List.map_toArray]
  simp [hbuild]

/-- Either of two operations may come now. -/
theorem d1or {C : World → Prop} {last : Nat} {K : Act → World → Prop} {f : Nat} {listed : Array Bool} {i j : Nat} {o o' : Oper} (hr : readyL arr listed = [i, j]) (ho : arr[i]? = some o) (ho' : arr[j]? = some o') (hC : listed.getD last false = false → C w)
    (t : T P ro n ds (QN K) l w (.ops arr [o]) [.inv (fun a w' => anyC P ro arr C last K f (listed.setIfInBounds i true) a w')])
    (t' : T P ro n ds (QN K) l w (.ops arr [o']) [.inv (fun a w' => anyC P ro arr C last K f (listed.setIfInBounds j true) a w')]) : TA P ro n ds arr C last K (f + 1) listed l w := by
  rw [← ready_eq] at hr
  intro a hf
  refine ⟨hC, fun h => (by rw [hr] at h; cases h), fun q hq => ?_⟩
  have key : ∀ q o, arr[q]? = some o → T P ro n ds (QN K) l w (.ops arr [o]) [.inv (fun a w' => anyC P ro arr C last K f (listed.setIfInBounds q true) a w')] → wpOpIn (FW ro) 0 P arr (QN K) q (anyC P ro arr C last K f (listed.setIfInBounds q true)) a w := by
    intro i o ho t
    have h1 := t a hf
    change wpListIn _ _ _ _ _ _ _ _ at h1
    unfold wpListIn at h1
    unfold wpOpIn
    rw [ho]
    split at h1
    · rename_i hw
      simp only [hw, if_true]
      have hQ : ∀ a w, wpListIn (FW ro) 0 P arr (KQ P ro [.inv (fun a w' => anyC P ro arr C last K f (listed.setIfInBounds i true) a w')] (QN K)) [] a w → anyC P ro arr C last K f (listed.setIfInBounds i true) a w := fun a w h => h
      have h2 := Oper.wpIn_mono hQ h1
      refine ⟨h2.1, ?_⟩
      have h3 := h2.2
      generalize (o.semAt (FW ro).round a.eval).run P w = r at h3 ⊢
      cases r with
      | ok x w' =>
        cases x <;> simp only [Oper.uponIn] at h3 ⊢ <;> first
          | exact h3
          | exact ⟨h3.1, h3.2.mono fun e w'' he => by cases e <;> first | exact he | (obtain ⟨_, _, h⟩ := he; exact h.elim)⟩
      | halt x w' => cases x <;> simp only [Oper.uponIn] at h3 ⊢ <;> exact h3
    · rename_i hw
      simp only [hw]
      exact h1
  rw [hr] at hq
  simp at hq
  rcases hq with rfl | rfl
  · exact key _ _ ho t
  · exact key _ _ ho' t'
end
end Go.Proofs.YtejlpdbiacmfcaaGreatDoor
end
