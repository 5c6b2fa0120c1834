/-
  Lists of ints and rows of them: literals, the kit's Same and Own, the law package's same and light; pairs built.
  Conditions: lists have at most 2^40 elements.
  Walk of package matrix's Apply.
  Conditions: lists have at most a million elements.
  The law package's lives: it returns true; what package matrix answers at examples. Printed by names28.py.
  Conditions: the library's table of powers of ten is laid.
  What the rows of this seat share where an argument is a list of ints, of rows of ints, or of pairs: what it reads as, and how great it may be.
  No conditions: each theorem names its own premises.
-/
import Derived.Test.YtejlpdbiacmfcaaGreatDoorYKa
import Derived.Test.YtejlpdbiacmfcaaGreatDoorYNi
import Derived.Test.YtejlpdbiacmfcaaGreatDoorYNm
set_option linter.unusedSimpArgs false
set_option linter.unusedVariables false
namespace Go.Proofs.YtejlpdbiacmfcaaGreatDoor
section
set_option maxHeartbeats 2000000
open Go Go.Proofs Go.RowKit Go.Lib

section
variable {ro : Option Nat} {n : Nat} {ds : List Deferred} {Q : PT} {l l' : Fr} {w w' : World} {arr : Array Oper} {r : List Oper} {k : List It}
theorem bdp {d : Nat} {ty : TypeId} {x y : Operand} {ps : String} {af : Array Edge} {g1 : Option (Nat × Bool)} {k1 k2 : IntKind} {v1 v2 : Int}
  (hx : ev l x = some (.int k1 v1)) (hy : ev l y = some (.int k2 v2)) (hg1 : gd arr l g1 = some true) (hd1 : Nat.blt d n = true)
  (t' : T Tryz.prog ro n ds Q ((d, .agg ⟨[.int k1 v1, .int k2 v2]⟩) :: l) w (.ops arr r) k) : T Tryz.prog ro n ds Q l w (.ops arr (⟨some d, .build 33 #[(0, x), (1, y)], ty, ps, af, g1⟩ :: r)) k := by
 refine op1 (w' := w) (v := .agg ⟨[.int k1 v1, .int k2 v2]⟩) (by intro c h; cases h) hg1 (put1_some hd1) (fun a hf => ?_) t'
 obtain ⟨i, hi0, hz1, hz2, hz3⟩ := U.hi _ _ _ _ (show U.tb.inf 33 = some (2, _, .agg #[.int .i64 0, .int .i64 0]) from rfl)
 obtain ⟨ii, hi1, hz4⟩ := U.hs _ _ (show U.tb.sz 3 = some 1 from rfl)
 have hrun : (Instr.build 33 #[(0, .int k1 v1), (1, .int k2 v2)]).run Tryz.prog w = .ok (.agg ⟨[.int k1 v1, .int k2 v2]⟩) w := by
  simp only [Instr.build, zeroValue, typeInfo, sizeOf, program]
  simp [Sem.run, hi0, hz3, hi1, hz4, run_under Tryz.underlying33]
  rfl
 simp [execOp, hf.ev hx, hf.ev hy, hrun]
end

def LitI (w : World) (v : Value) (xs : List Int) : Prop := ∃ a c, v = .slice a xs.length c ∧ Sl w a (ivs xs)
theorem LitI.stay {w w' : World} {v : Value} {xs : List Int} (h : LitI w v xs) (hb : Below w.heap.size w w') : LitI w' v xs := by
 obtain ⟨a, c, rfl, h1⟩ := h
 exact ⟨a, c, rfl, h1.stay hb⟩
theorem liti_bk {w : World} {g n c : Nat} {t : TypeId} {xs : List Int} (h : Bk w g t (ivs xs)) (hn : n = xs.length) : LitI w (.slice (some ⟨g, 0, none⟩) n c) xs :=
 ⟨some ⟨g, 0, none⟩, c, by rw [hn], h.sl 0⟩
theorem LitI.sl {w : World} {a : Option Addr} {n c : Nat} {xs : List Int} (h : LitI w (.slice a n c) xs) : Sl w a (ivs xs) ∧ n = xs.length := by
 obtain ⟨a', c', e, h1⟩ := h
 simp only [Value.slice.injEq] at e
 obtain ⟨rfl, rfl, rfl⟩ := e
 exact ⟨h1, rfl⟩
def Rwi (w : World) : List Value → List (List Int) → Prop
 | [], [] => True
 | v :: vs, x :: xs => LitI w v x ∧ Rwi w vs xs
 | _, _ => False
theorem rwi_get {w : World} : ∀ {vs : List Value} {xss : List (List Int)}, Rwi w vs xss → vs.length = xss.length ∧ ∀ i, i < xss.length → ∃ v, vs[i]? = some v ∧ LitI w v (irow xss i)
 | [], [], _ => ⟨rfl, fun i hi => absurd hi (by simp)⟩
 | v :: vs, x :: xs, h => by
  obtain ⟨h1, h2⟩ := rwi_get h.2
  refine ⟨by simp [h1], fun i hi => ?_⟩
  cases i with
  | zero => exact ⟨v, rfl, h.1⟩
  | succ i => exact h2 i (by simpa using hi)
 | [], _ :: _, h => h.elim
 | _ :: _, [], h => h.elim
theorem rwi_sz {w : World} {a : Option Addr} {vs : List Value} {xss : List (List Int)} (hs : Sl w a vs) (h : Rwi w vs xss) : SZ w a xss := by
 obtain ⟨h1, h2⟩ := rwi_get h
 refine ⟨fun i => vadr vs[i]?, fun i => vcap vs[i]?, ?_, fun i hi => ?_⟩
 ·have : irws xss (fun i => vadr vs[i]?) (fun i => vcap vs[i]?) = vs := by
   apply List.ext_getElem?
   intro i
   by_cases hi : i < xss.length
   ·obtain ⟨v, hv, a', c', rfl, _⟩ := h2 i hi
    rw [irws_get hi, hv]; rfl
   ·rw [List.getElem?_eq_none (by rw [irws_length]; omega), List.getElem?_eq_none (by omega)]
  rw [this]; exact hs
 ·obtain ⟨v, hv, a', c', rfl, h3⟩ := h2 i hi
  show Sl w (vadr vs[i]?) _
  rw [hv]; exact h3
theorem rwi_bk {w : World} {g : Nat} {t : TypeId} {vs : List Value} {xss : List (List Int)} (h : Bk w g t vs) (hr : Rwi w vs xss) : SZ w (some ⟨g, 0, none⟩) xss :=
 rwi_sz (h.sl 0) hr
structure LenZ (xss : List (List Int)) : Prop where
 l : xss.length ≤ 1099511627776
 r : ∀ i, i < xss.length → (irow xss i).length ≤ 1000000
theorem strat_lenz (kind n : Int) : LenZ (strat kind n) := ⟨by have := strat_len64 kind n; omega, fun i hi => by
 rw [irow_strat hi]
 have hs : strat kind n ≠ [] := fun e => by rw [e] at hi; simp at hi
 have := (strat_kind hs).1; omega⟩

theorem isame_calls (xs ys : List Int) (a b : Option Addr) (c d : Nat) (w : World) (hx : Sl w a (ivs xs)) (hy : Sl w b (ivs ys)) (hxl : xs.length ≤ 1099511627776) (hyl : ys.length ≤ 1099511627776) :
  Calls Tryz.prog 15 #[.slice a xs.length c, .slice b ys.length d] w (Ret fun v w' => v = .bool (decide (xs = ys)) ∧ Below w.heap.size w w') := by
 refine enter Tryz.func15 rfl Tryz.ntmps15 (Nat.le_of_ble_eq_true rfl) ?_
 refine dT rfl ?_
 refine cS rfl rfl rfl rfl (fun hq => ?_) (fun hq => ?_)
 ·refine dT rfl ?_
  exact ret Tryz.results15 rfl ⟨_, rfl, by rw [decide_eq_false (fun h => hq (by rw [h]))]; rfl, Below.refl _ _⟩
 have hl : xs.length = ys.length := by omega
 refine dT rfl ?_
 refine loopR (fun f w' m => ∃ i : Nat, f = [(0, .slice a xs.length c), (1, .slice b ys.length d), (5, .int .i64 (i : Nat))] ∧ i ≤ xs.length ∧ (∀ j, j < i → xs.getD j 0 = ys.getD j 0) ∧ Below w.heap.size w w' ∧ m = xs.length - i)
  ⟨0, rfl, by omega, fun j hj => absurd hj (by omega), Below.refl _ _, rfl⟩ (by repeat' (first | exact True.intro | exact rfl | exact iv (by omega) | refine ⟨?_, ?_⟩)) ?_
 rintro f w1 m ⟨i, rfl, hi, he, hB, rfl⟩
 refine dT rfl ?_
 refine cS rfl rfl rfl rfl (fun hq => ?_) (fun hq => ?_)
 ·have hix : i < xs.length := by omega
  have hiy : i < ys.length := by omega
  obtain ⟨ga, oa, rfl, _⟩ := hx i _ (ivs_get hix)
  obtain ⟨gb, ob, rfl, _⟩ := hy i _ (ivs_get hiy)
  refine dT rfl ?_
  refine dwn 8 (fun W => Sl W (some ⟨ga, oa, none⟩) (ivs xs) ∧ Sl W (some ⟨gb, ob, none⟩) (ivs ys)) hmo ?_
  intro w2 hh2 hg2
  have hB2 : Below w.heap.size w w2 := hB.grown hg2 hB.size (fun k e => by cases e)
  have hl3 : ∀ W, (Sl W (some ⟨ga, oa, none⟩) (ivs xs) ∧ Sl W (some ⟨gb, ob, none⟩) (ivs ys)) → (loadVar 3 ((⟨ga, oa, none⟩ : Addr).add (((i : Nat) : Int).toNat * 1))).run Tryz.prog W = .ok (.int .i64 (xs.getD i 0)) W := fun W h => run_load_cell U rfl (by simpa [add_plain] using slc2 h.1 (ivs_get hix))
  have hl7 : ∀ W, (Sl W (some ⟨ga, oa, none⟩) (ivs xs) ∧ Sl W (some ⟨gb, ob, none⟩) (ivs ys)) → (loadVar 3 ((⟨gb, ob, none⟩ : Addr).add (((i : Nat) : Int).toNat * 1))).run Tryz.prog W = .ok (.int .i64 (ys.getD i 0)) W := fun W h => run_load_cell U rfl (by simpa [add_plain] using slc2 h.2 (ivs_get hiy))
  refine dq U [0,1,2,3,4,5,6,7] [(3, .int .i64 (xs.getD i 0)), (7, .int .i64 (ys.getD i 0))] (by kernel_rfl) rfl rfl ⟨hx.stay hB2, hy.stay hB2⟩ (by simp only [AllP, InR, List.nil_append, List.cons_append]; (repeat' apply And.intro); all_goals first | exact True.intro | omega | (with_reducible exact hl3) | (with_reducible exact hl7)) ?_
  refine d1 rfl rfl (fun _ => ⟨hx.stay hB2, hy.stay hB2⟩) ?_
  refine cS rfl rfl rfl rfl (fun hq2 => ?_) (fun hq2 => ?_)
  ·refine d2 ?_; refine dend rfl (fun h => by cases h) ?_
   refine dT rfl ?_
   refine ret Tryz.results15 rfl ⟨_, rfl, ?_, hB2⟩
   rw [decide_eq_false (fun h => hq2 (by rw [h]))]; rfl
  ·refine d2 ?_; refine dend rfl (fun h => by cases h) ?_
   refine dS rfl ?_
   refine rend _ _ ⟨i + 1, rfl, by omega, fun j hj => ?_, hB2, rfl⟩ (by omega) (by repeat' (first | exact True.intro | exact rfl | exact iv (by omega) | refine ⟨?_, ?_⟩))
   rcases Nat.lt_succ_iff_lt_or_eq.1 hj with h' | rfl
   ·exact he j h'
   ·exact Classical.not_not.1 hq2
 ·obtain rfl : i = xs.length := by omega
  refine dT rfl ?_
  refine ret Tryz.results15 rfl ⟨_, rfl, ?_, hB⟩
  rw [decide_eq_true (ivs_eq hl he)]; rfl
theorem iown_calls (ls : List Int) (a : Option Addr) (c : Nat) (w : World) (hs : Sl w a (ivs ls)) (hl : ls.length ≤ 8796093022208) :
  Calls Tryz.prog 21 #[.slice a ls.length c] w (Ret fun v w' => (∃ a' c', v = .slice a' ls.length c' ∧ w'.ownsRow w.heap.size 3 1 (.slice a' ls.length c') ls.length (ivs ls)) ∧ Below w.heap.size w w') := by
 refine enter Tryz.func21 rfl Tryz.ntmps21 (Nat.le_of_ble_eq_true rfl) ?_
 refine dT rfl ?_
 refine bs0 U rfl rfl rfl rfl ?_
 intro w1 ho1 hs1 hg1
 have hB1 : Below w.heap.size w w1 := (Below.refl _ _).grown hg1 (Nat.le_refl _) (fun k e => by cases e)
 refine dT rfl ?_
 refine aw U rfl rfl rfl rfl rfl rfl rfl rfl rfl ho1 (hs.stay hB1) (by rw [ivs_len, Nat.mul_one]) (ivs_one ls) hB1.size (by omega) rfl ?_
 intro a2 c2 w2 ho2 hg2
 rw [Nat.zero_add, List.nil_append] at ho2
 simp only [Nat.zero_add]
 refine dT rfl ?_
 exact ret Tryz.results21 rfl ⟨_, rfl, ⟨a2, c2, rfl, ho2⟩, hB1.grown hg2 hB1.size (fun g e => (own_block ho1 g e).1)⟩
theorem zsame_calls (xss yss : List (List Int)) (a b : Option Addr) (c d : Nat) (w : World) (hx : SZ w a xss) (hy : SZ w b yss) (hxl : LenZ xss) (hyl : LenZ yss) :
  Calls Tryz.prog 33 #[.slice a xss.length c, .slice b yss.length d] w (Ret fun v w' => v = .bool (decide (xss = yss)) ∧ Below w.heap.size w w') := by
 obtain ⟨A, C, hSl, hR⟩ := hx
 obtain ⟨A1, C1, hSl1, hR1⟩ := hy
 have hl1 := hxl.l
 refine enter Tryz.func33 rfl Tryz.ntmps33 (Nat.le_of_ble_eq_true rfl) ?_
 refine dT rfl ?_
 refine cS rfl rfl rfl rfl (fun hq => ?_) (fun hq => ?_)
 ·refine dT rfl ?_
  exact ret Tryz.results33 rfl ⟨_, rfl, by rw [decide_eq_false (fun h => hq (by rw [h]))]; rfl, Below.refl _ _⟩
 have hl : xss.length = yss.length := by omega
 refine dT rfl ?_
 refine loopR (fun f w' m => ∃ i : Nat, f = [(0, .slice a xss.length c), (1, .slice b yss.length d), (5, .int .i64 (i : Nat))] ∧ i ≤ xss.length ∧ (∀ j, j < i → irow xss j = irow yss j) ∧ Below w.heap.size w w' ∧ m = xss.length - i)
  ⟨0, rfl, by omega, fun j hj => absurd hj (by omega), Below.refl _ _, rfl⟩ ⟨rfl, rfl, rfl, trivial⟩ ?_
 rintro f w1 m ⟨i, rfl, hi, he, hB, rfl⟩
 refine dT rfl ?_
 refine cS rfl rfl rfl rfl (fun hq => ?_) (fun hq => ?_)
 ·have hix : i < xss.length := by omega
  have hiy : i < yss.length := by omega
  obtain ⟨ga, oa, rfl, _⟩ := hSl.at (j := i) (by simp [irws]; omega)
  obtain ⟨gb, ob, rfl, _⟩ := hSl1.at (j := i) (by simp [irws]; omega)
  refine dT rfl ?_
  refine dwn 9 (fun W => Sl W (some ⟨ga, oa, none⟩) (irws xss A C) ∧ Sl W (some ⟨gb, ob, none⟩) (irws yss A1 C1)) hmo ?_
  intro w2 hh2 hg2
  have hB2 : Below w.heap.size w w2 := hB.grown hg2 hB.size (fun k e => by cases e)
  have hl3 : ∀ W, (Sl W (some ⟨ga, oa, none⟩) (irws xss A C) ∧ Sl W (some ⟨gb, ob, none⟩) (irws yss A1 C1)) → (loadVar 23 ((⟨ga, oa, none⟩ : Addr).add (((i : Nat) : Int).toNat * 1))).run Tryz.prog W = .ok (.slice (A i) (irow xss i).length (C i)) W := fun W h => run_load_cell U rfl (by simpa [add_plain] using slc2 h.1 (irws_get hix))
  have hl7 : ∀ W, (Sl W (some ⟨ga, oa, none⟩) (irws xss A C) ∧ Sl W (some ⟨gb, ob, none⟩) (irws yss A1 C1)) → (loadVar 23 ((⟨gb, ob, none⟩ : Addr).add (((i : Nat) : Int).toNat * 1))).run Tryz.prog W = .ok (.slice (A1 i) (irow yss i).length (C1 i)) W := fun W h => run_load_cell U rfl (by simpa [add_plain] using slc2 h.2 (irws_get hiy))
  refine dq U [0,1,2,3,4,5,6,7] [(3, .slice (A i) (irow xss i).length (C i)), (7, .slice (A1 i) (irow yss i).length (C1 i))] (by kernel_rfl) rfl rfl ⟨hSl.stay hB2, hSl1.stay hB2⟩ (by simp only [AllP, InR, List.nil_append, List.cons_append]; (repeat' apply And.intro); all_goals first | exact True.intro | omega | (with_reducible exact hl3) | (with_reducible exact hl7)) ?_
  refine d1 rfl rfl (fun _ => ⟨hSl.stay hB2, hSl1.stay hB2⟩) ?_
  refine call (f := 15) rfl rfl cb15 (isame_calls (irow xss i) (irow yss i) (A i) (A1 i) (C i) (C1 i) w2 ((hR i hix).stay hB2) ((hR1 i hiy).stay hB2) (by have := hxl.r i hix; omega) (by have := hyl.r i hiy; omega)) ?_
  rintro v w3 ⟨rfl, hB3⟩
  have hB3' := bl_tr hB2 hB3 hB2.size
  refine ⟨_, rfl, d2 ?_⟩
  refine d1 rfl rfl (fun _ => ⟨hSl.stay hB3', hSl1.stay hB3'⟩) ?_
  by_cases h : irow xss i = irow yss i
  ·rw [decide_eq_true h]
   refine dT rfl ?_
   refine d3 ?_; refine dend rfl (fun h => by cases h) ?_
   refine dS rfl ?_
   refine rend _ _ ⟨i + 1, rfl, by omega, fun j hj => ?_, hB3', rfl⟩ (by omega) ⟨rfl, rfl, iv (by omega), trivial⟩
   rcases Nat.lt_succ_iff_lt_or_eq.1 hj with h' | rfl
   ·exact he j h'
   ·exact h
  ·rw [decide_eq_false h]
   refine dT rfl ?_
   refine d3 ?_; refine dend rfl (fun h => by cases h) ?_
   refine dT rfl ?_
   refine ret Tryz.results33 rfl ⟨_, rfl, ?_, hB3'⟩
   rw [decide_eq_false (fun e => h (by rw [e]))]; rfl
 ·obtain rfl : i = xss.length := by omega
  refine dT rfl ?_
  refine ret Tryz.results33 rfl ⟨_, rfl, ?_, hB⟩
  have : xss = yss := by
   apply List.ext_getElem hl
   intro j h1 h2
   have := he j h1
   simpa [irow, List.getD, h1, h2] using this
  rw [decide_eq_true this]; rfl
end
section
set_option maxHeartbeats 2000000
open Go Go.Proofs Go.RowKit Go.Lib

def IOut (l : List Int) (e : Int) (v : Value) (w : World) : Prop := ∃ a c, v = .tuple ⟨[.slice a l.length c, .int .i64 e]⟩ ∧ Sl w a (ivs l)
theorem IOut.nil (e : Int) (w : World) : IOut [] e (.tuple ⟨[.slice none 0 0, .int .i64 e]⟩) w := ⟨none, 0, rfl, Sl.nil _ _⟩
end
section
set_option maxHeartbeats 4000000
set_option maxRecDepth 100000
open Go Go.Proofs Go.RowKit Go.Lib

theorem mest_x (kind : Int) (n : Nat) (noisy : List Int) (y : Nat → Rat) (hs : strat kind n ≠ []) (hl : noisy.length = (strat kind n).length) (hw : Wthn noisy 1000000000000) (hn : n ≤ 7)
  (hy : ∀ i, i < n → mapp n (nrm (strat kind n)) y i = rhs (strat kind n) (ratsI noisy) i (strat kind n).length) (a : Option Addr) (m c : Nat) (w : World) (hli : LitI w (.slice a m c) noisy) (ht : TabOk w) :
  Calls Tryz.prog 12 #[.int .i64 kind, .int .i64 (n : Nat), .slice a m c] w (Ret fun v w' => (∃ a c, v = .tuple ⟨[.slice a n c, .int .i64 0]⟩ ∧ Lit w' (.slice a n c) (txs n y) ∧ n ≤ c) ∧ Below w.heap.size w w') := by
 obtain ⟨h1, rfl⟩ := hli.sl
 have hlen := strat_len7 (kind := kind) (n := (n : Int)) (by omega)
 refine (mest_calls kind n noisy (by omega) (by omega) a c w h1 ht).mono ?_
 rintro _ w' ⟨v, rfl, hE, hB⟩
 rcases hE with ⟨h, _⟩ | ⟨_, h, _⟩ | ⟨_, _, h, _⟩ | ⟨_, _, _, x, a', c', hx1, hx2, rfl, hx3, hx4⟩
 ·exact absurd h hs
 ·exact absurd hl h
 ·exact absurd hw h
 ·rw [Int.toNat_natCast] at hx1 hx2 hx3 hx4
  have hreg := strat_reg hs
  rw [Int.toNat_natCast] at hreg
  have e : txs n x = txs n y := txs_congr (sol_same hreg hx1 hy)
  rw [e] at hx3
  exact ⟨_, rfl, ⟨a', c', rfl, hx3, hx4⟩, hB⟩
theorem mspd_x {kind z lo hi : Int} {t : Tx} {e : Int} (h : SpdS kind z lo hi t e) (hz : z ≤ 7 ∨ 64 < z) (w : World) (ht : TabOk w) :
  Calls Tryz.prog 14 #[.int .i64 kind, .int .i64 z, .int .i64 lo, .int .i64 hi] w (Ret fun v w' => v = .tuple ⟨[.string ⟨⟨t⟩⟩, .int .i64 e]⟩ ∧ Below w.heap.size w w') :=
 (mspd_calls kind z lo hi hz w ht).mono (by
  rintro _ w' ⟨v, rfl, ⟨t', e', h', rfl⟩, hB⟩
  obtain ⟨rfl, rfl⟩ := h'.uniq h
  exact ⟨_, rfl, rfl, hB⟩)
def LitP (w : World) (v : Value) (rs : List (Int × Int)) : Prop := ∃ a c, v = .slice a rs.length c ∧ Sl w a (pvs rs)
theorem LitP.stay {w w' : World} {v : Value} {rs : List (Int × Int)} (h : LitP w v rs) (hb : Below w.heap.size w w') : LitP w' v rs := by
 obtain ⟨a, c, rfl, h1⟩ := h
 exact ⟨a, c, rfl, h1.stay hb⟩
theorem LitP.sl {w : World} {a : Option Addr} {n c : Nat} {rs : List (Int × Int)} (h : LitP w (.slice a n c) rs) : Sl w a (pvs rs) ∧ n = rs.length := by
 obtain ⟨a', c', e, h1⟩ := h
 simp only [Value.slice.injEq] at e
 obtain ⟨rfl, rfl, rfl⟩ := e
 exact ⟨h1, rfl⟩
theorem litp_bk {w : World} {g n c : Nat} {t : TypeId} {cs : List Value} {rs : List (Int × Int)} (h : Bk w g t cs) (hc : cs = pvs rs) (hn : n = rs.length) : LitP w (.slice (some ⟨g, 0, none⟩) n c) rs :=
 ⟨some ⟨g, 0, none⟩, c, by rw [hn], hc ▸ h.sl 0⟩
theorem zsame_x {xss yss : List (List Int)} (a b : Option Addr) (c d m n : Nat) (w : World) (h1 : SZ w a xss) (h2 : SZ w b yss) (hx : LenZ xss) (hy : LenZ yss) (hm : m = xss.length) (hn : n = yss.length) :
  Calls Tryz.prog 33 #[.slice a m c, .slice b n d] w (Ret fun v w' => v = .bool (decide (xss = yss)) ∧ Below w.heap.size w w') := by
 subst hm; subst hn
 exact zsame_calls xss yss a b c d w h1 h2 hx hy
theorem lenz_of {xss : List (List Int)} (h : xss.length ≤ 1000) (hr : ∀ r, r ∈ xss → r.length ≤ 1000) : LenZ xss := ⟨by omega, fun i hi => by have := hr _ (irow_mem hi); omega⟩
theorem ex_e1 : ∀ i, i < 2 → mapp 2 (nrm (strat 2 2)) (fun _ => (5 : Rat) / 3) i = rhs (strat 2 2) (ratsI [1, 1, 4]) i (strat 2 2).length := by decide +kernel
theorem ex_s1 : SpdS 2 2 0 1 [50, 47, 51] 0 := .inr ⟨by decide +kernel, by decide, rfl, fun _ => (1 : Rat) / 3, by decide +kernel, by decide +kernel⟩
theorem ex_t1 : txs 2 (fun _ => (5 : Rat) / 3) = [[53, 47, 51], [53, 47, 51]] := by decide +kernel
theorem ex_st3 : strat 2 3 = [[1, 0, 0], [0, 1, 0], [0, 0, 1], [1, 1, 0], [1, 1, 1]] := by decide +kernel

theorem lives28_calls (w : World) (ht : TabOk w) : Calls Tryz.prog 9 #[] w (Ret fun v w' => v = .bool true ∧ Below w.heap.size w w') := by
 refine enter Tryz.func9 rfl Tryz.ntmps9 (Nat.le_of_ble_eq_true rfl) ?_
 refine dT rfl ?_
 have hB := Below.refl w.heap.size w
 refine call (f := 11) rfl rfl cb11 (mstrat_calls 2 3 w) ?_
 rintro v w1 ⟨⟨a1, c1, rfl, hO1, _⟩, hq1⟩
 have ht := ht.below hq1
 have hB := bl_tr hB hq1 hB.size
 refine ⟨_, rfl, ?_⟩
 refine dT rfl ?_
 refine bsv U (ivs [1, 1, 4]) rfl rfl rfl rfl rfl rfl (by decide) (by decide) rfl ?_
 intro w2 hk2 hz2 hg2
 have hq2 : Below w1.heap.size w1 w2 := (Below.refl _ _).grown hg2 (Nat.le_refl _) (fun k e => by cases e)
 have hO1 := hO1.stay hq2
 have ht := ht.below hq2
 have hB := bl_tr hB hq2 hB.size
 have hl2 := liti_bk (n := 3) (c := 3) (xs := [1, 1, 4]) hk2 rfl
 refine call (f := 12) rfl rfl cb12 (mest_x 2 2 [1, 1, 4] _ (by decide +kernel) (by decide +kernel) (by decide +kernel) (by omega) ex_e1 _ _ _ w2 hl2 ht) ?_
 rintro v w3 ⟨⟨a2, c2, rfl, hE2, _⟩, hq3⟩
 have hO1 := hO1.stay hq3
 have hl2 := hl2.stay hq3
 have ht := ht.below hq3
 have hB := bl_tr hB hq3 hB.size
 refine ⟨_, rfl, ?_⟩
 refine dT rfl ?_
 refine call (f := 14) rfl rfl cb14 (mspd_x ex_s1 (by omega) w3 ht) ?_
 rintro v w4 ⟨rfl, hq4⟩
 have hO1 := hO1.stay hq4
 have hE2 := hE2.stay hq4
 have ht := ht.below hq4
 have hB := bl_tr hB hq4 hB.size
 refine ⟨_, rfl, ?_⟩
 refine dT rfl ?_
 refine bsv U (ivs [1, 0, 0]) rfl rfl rfl rfl rfl rfl (by decide) (by decide) rfl ?_
 intro w5 hk5 hz5 hg5
 have hq5 : Below w4.heap.size w4 w5 := (Below.refl _ _).grown hg5 (Nat.le_refl _) (fun k e => by cases e)
 have hO1 := hO1.stay hq5
 have hE2 := hE2.stay hq5
 have ht := ht.below hq5
 have hB := bl_tr hB hq5 hB.size
 have hmr0 := liti_bk (n := 3) (c := 3) (xs := [1, 0, 0]) hk5 rfl
 refine bsv U (ivs [0, 1, 0]) rfl rfl rfl rfl rfl rfl (by decide) (by decide) rfl ?_
 intro w6 hk6 hz6 hg6
 have hq6 : Below w5.heap.size w5 w6 := (Below.refl _ _).grown hg6 (Nat.le_refl _) (fun k e => by cases e)
 have hO1 := hO1.stay hq6
 have hE2 := hE2.stay hq6
 have hmr0 := hmr0.stay hq6
 have ht := ht.below hq6
 have hB := bl_tr hB hq6 hB.size
 have hmr1 := liti_bk (n := 3) (c := 3) (xs := [0, 1, 0]) hk6 rfl
 refine bsv U (ivs [0, 0, 1]) rfl rfl rfl rfl rfl rfl (by decide) (by decide) rfl ?_
 intro w7 hk7 hz7 hg7
 have hq7 : Below w6.heap.size w6 w7 := (Below.refl _ _).grown hg7 (Nat.le_refl _) (fun k e => by cases e)
 have hO1 := hO1.stay hq7
 have hE2 := hE2.stay hq7
 have hmr0 := hmr0.stay hq7
 have hmr1 := hmr1.stay hq7
 have ht := ht.below hq7
 have hB := bl_tr hB hq7 hB.size
 have hmr2 := liti_bk (n := 3) (c := 3) (xs := [0, 0, 1]) hk7 rfl
 refine bsv U (ivs [1, 1, 0]) rfl rfl rfl rfl rfl rfl (by decide) (by decide) rfl ?_
 intro w8 hk8 hz8 hg8
 have hq8 : Below w7.heap.size w7 w8 := (Below.refl _ _).grown hg8 (Nat.le_refl _) (fun k e => by cases e)
 have hO1 := hO1.stay hq8
 have hE2 := hE2.stay hq8
 have hmr0 := hmr0.stay hq8
 have hmr1 := hmr1.stay hq8
 have hmr2 := hmr2.stay hq8
 have ht := ht.below hq8
 have hB := bl_tr hB hq8 hB.size
 have hmr3 := liti_bk (n := 3) (c := 3) (xs := [1, 1, 0]) hk8 rfl
 refine bsv U (ivs [1, 1, 1]) rfl rfl rfl rfl rfl rfl (by decide) (by decide) rfl ?_
 intro w9 hk9 hz9 hg9
 have hq9 : Below w8.heap.size w8 w9 := (Below.refl _ _).grown hg9 (Nat.le_refl _) (fun k e => by cases e)
 have hO1 := hO1.stay hq9
 have hE2 := hE2.stay hq9
 have hmr0 := hmr0.stay hq9
 have hmr1 := hmr1.stay hq9
 have hmr2 := hmr2.stay hq9
 have hmr3 := hmr3.stay hq9
 have ht := ht.below hq9
 have hB := bl_tr hB hq9 hB.size
 have hmr4 := liti_bk (n := 3) (c := 3) (xs := [1, 1, 1]) hk9 rfl
 refine bsv U [.slice (some ⟨w4.heap.size, 0, none⟩) 3 3, .slice (some ⟨w5.heap.size, 0, none⟩) 3 3, .slice (some ⟨w6.heap.size, 0, none⟩) 3 3, .slice (some ⟨w7.heap.size, 0, none⟩) 3 3, .slice (some ⟨w8.heap.size, 0, none⟩) 3 3] rfl rfl rfl rfl rfl rfl (by decide) (by decide) rfl ?_
 intro w10 hk10 hz10 hg10
 have hq10 : Below w9.heap.size w9 w10 := (Below.refl _ _).grown hg10 (Nat.le_refl _) (fun k e => by cases e)
 have hO1 := hO1.stay hq10
 have hE2 := hE2.stay hq10
 have hmr0 := hmr0.stay hq10
 have hmr1 := hmr1.stay hq10
 have hmr2 := hmr2.stay hq10
 have hmr3 := hmr3.stay hq10
 have hmr4 := hmr4.stay hq10
 have ht := ht.below hq10
 have hB := bl_tr hB hq10 hB.size
 have hm := rwi_bk (xss := [[1, 0, 0], [0, 1, 0], [0, 0, 1], [1, 1, 0], [1, 1, 1]]) hk10 ⟨hmr0, hmr1, hmr2, hmr3, hmr4, trivial⟩
 refine call (f := 33) rfl rfl cb33 (zsame_x _ _ _ _ _ _ w10 hO1.sz hm (strat_lenz _ _) (lenz_of (by decide) (by decide)) rfl rfl) ?_
 rintro v w11 ⟨rfl, hq11⟩
 have hO1 := hO1.stay hq11
 have hE2 := hE2.stay hq11
 have hm := hm.stay hq11
 have ht := ht.below hq11
 have hB := bl_tr hB hq11 hB.size
 refine ⟨_, rfl, ?_⟩
 rw [decide_eq_true ex_st3]
 refine dT rfl ?_
 refine cT rfl rfl rfl rfl ?_
 refine dT rfl ?_
 refine bsv U (strs [[53, 47, 51], [53, 47, 51]]) rfl rfl rfl rfl rfl rfl (by decide) (by decide) rfl ?_
 intro w12 hk12 hz12 hg12
 have hq12 : Below w11.heap.size w11 w12 := (Below.refl _ _).grown hg12 (Nat.le_refl _) (fun k e => by cases e)
 have hO1 := hO1.stay hq12
 have hE2 := hE2.stay hq12
 have hm := hm.stay hq12
 have ht := ht.below hq12
 have hB := bl_tr hB hq12 hB.size
 have ht3 := lit_bk (n := 2) (c := 2) (xs := [[53, 47, 51], [53, 47, 51]]) hk12 rfl
 refine call (f := 16) rfl rfl cb16 (nsame_x _ _ _ _ _ _ w12 hE2 ht3 (by rw [txs_length]; omega) (by decide)) ?_
 rintro v w13 ⟨rfl, hq13⟩
 have hO1 := hO1.stay hq13
 have hE2 := hE2.stay hq13
 have hm := hm.stay hq13
 have ht3 := ht3.stay hq13
 have ht := ht.below hq13
 have hB := bl_tr hB hq13 hB.size
 refine ⟨_, rfl, ?_⟩
 rw [decide_eq_true ex_t1]
 refine dT rfl ?_
 refine cT rfl rfl rfl rfl ?_
 refine dT rfl ?_
 refine cT rfl rfl rfl rfl ?_
 refine dT rfl ?_
 exact ret Tryz.results9 rfl ⟨_, rfl, rfl, hB⟩
end
section
open Go Go.Proofs Go.RowKit Go.Lib Go.WideShapes Go.ChangeAt
open Go.ChangeShapes hiding strs

theorem cells_int : Tryz.prog.cellsOf 3 = 1 := by kernel_rfl
theorem cells_pair : Tryz.prog.cellsOf 33 = 2 := by kernel_rfl
theorem bytes_int : Tryz.prog.bytesOf 3 = 8 := by kernel_rfl
theorem bytes_pair : Tryz.prog.bytesOf 33 = 16 := by kernel_rfl
def I64 (l : List Int) : Prop := ∀ x, x ∈ l → -9223372036854775808 ≤ x ∧ x ≤ 9223372036854775807
theorem wf_i64 {n : Int} (h : (Lit.int .i64 n).wf = true) : -9223372036854775808 ≤ n ∧ n ≤ 9223372036854775807 := by
 simp only [Lit.wf, Bool.and_eq_true, decide_eq_true_eq] at h
 exact h

section
variable {H : Type} {enc : TypeId × Value → H}

set_option maxRecDepth 100000 in
/-- A list of ints, wherever it stands. -/
theorem ints_at {W : World} {fuel : Nat} {cs : List Value} {x : DataW H × List MemPlace} (hf : DataW.trod enc Tryz.prog W 0 (fun _ => true) true fuel 23 cs = some x) :
  ∃ (l : List Int) (a : Option Addr) (c : Nat), cs = [.slice a l.length c] ∧ Sl W a (ivs l) ∧ I64 l ∧ ((∀ n ∈ x.1.weights Tryz.prog 23, n ≤ reachBytes) → l.length ≤ 17592186044416) := by
 rcases Go.ChangeShapes.open_ints Tryz.underlying23 Tryz.underlying3 cells_int hf with ⟨hcs, hx⟩ | ⟨a, len, cap, zs, hcs, _, hl, hm, hz, hx, hcell, hwz⟩
 ·exact ⟨[], none, 0, hcs, Sl.nil _ _, fun x h => by simp at h, fun _ => by simp⟩
 ·simp only [if_true] at hz
  have hlen : (zs.take len).length = len := by simp; omega
  refine ⟨zs.take len, some a, cap, by rw [hlen]; exact hcs, fun j v hv => ?_, fun x h => wf_i64 (hwz x (List.mem_of_mem_take h)), fun hw => ?_⟩
  ·have hj : j < len := by
    have := (List.getElem?_eq_some_iff.1 hv).1
    rw [ivs_len, hlen] at this
    exact this
   obtain ⟨ab, ao, spot⟩ := a
   have hspot : spot = none := by simpa [Addr.add] using World.cell?_spot (hcell 0 (by omega))
   subst hspot
   refine ⟨ab, ao, rfl, ?_⟩
   have hcj := hcell j (by omega)
   rw [add_plain] at hcj
   rw [hcj]
   have hjz : j < zs.length := by omega
   rw [ivs_get (by rw [hlen]; exact hj)] at hv
   rw [← hv]
   simp [List.getD, hj, hjz]
  ·subst hx
   have h1 := hw (((Go.ChangeShapes.lits .i64 (zs.take len) : List (DataW H)).length + (Go.ChangeShapes.lits .i64 (zs.drop len) : List (DataW H)).length) * Tryz.prog.bytesOf 3) (by
    simp [DataW.weights, Tryz.underlying23])
   rw [bytes_int] at h1
   have h2 : (Go.ChangeShapes.lits .i64 (zs.take len) : List (DataW H)).length = len := by simp [Go.ChangeShapes.lits]; omega
   rw [h2] at h1
   rw [hlen]
   unfold reachBytes at h1
   omega
theorem ints_in {W : World} {v : Value} {d : DataW H} {p : List MemPlace} (hval : ∃ a len cap, v = .slice a len cap) (h : DataW.Trod enc Tryz.prog W 0 (fun _ => true) true 23 v d p) :
  ∃ (l : List Int) (a : Option Addr) (c : Nat), v = .slice a l.length c ∧ (LitI W v l ∧ I64 l) ∧ ((∀ n ∈ d.weights Tryz.prog 23, n ≤ reachBytes) → l.length ≤ 17592186044416) := by
 obtain ⟨a1, len, cap, rfl⟩ := hval
 obtain ⟨fuel, hf⟩ := h
 obtain ⟨l, a, c, e, hs, hi, hw⟩ := ints_at hf
 have e' : Value.slice a1 len cap = .slice a l.length c := List.head_eq_of_cons_eq e
 exact ⟨l, a, c, e', ⟨⟨a, c, e', hs⟩, hi⟩, hw⟩
theorem numsc_in {W : World} {v : Value} {d : DataW H} {p : List MemPlace} (hval : ∃ a len cap, v = .slice a len cap) (h : DataW.Trod enc Tryz.prog W 0 (fun _ => true) true 29 v d p) :
  ∃ (ls : List Tx) (a : Option Addr) (c : Nat), v = .slice a ls.length c ∧ (Lit W v ls ∧ ls.length ≤ c) ∧ ((∀ n ∈ d.weights Tryz.prog 29, n ≤ reachBytes) → ls.length ≤ 8796093022208) := by
 obtain ⟨ls, a, c, e, hl, hw⟩ := nums_in hval h
 refine ⟨ls, a, c, e, ⟨hl, ?_⟩, hw⟩
 obtain ⟨a1, len, cap, rfl⟩ := hval
 obtain ⟨fuel, hf⟩ := h
 simp only [Value.slice.injEq] at e
 obtain ⟨rfl, rfl, rfl⟩ := e
 rcases Go.ChangeShapes.open_strings Tryz.underlying29 Tryz.underlying35 cells_num hf with ⟨hcs, hx⟩ | ⟨a, len, cap, ss, hcs, _, hl, hm, hz, hx, hcell, hsz⟩
 ·have hcs : [Value.slice _ _ _] = [.slice none 0 0] := hcs
  simp only [List.cons.injEq, Value.slice.injEq, and_true] at hcs
  omega
 ·have hcs : [Value.slice _ _ _] = [.slice (some a) len cap] := hcs
  simp only [List.cons.injEq, Value.slice.injEq, and_true] at hcs
  omega
theorem pairs_in {W : World} {v : Value} {d : DataW H} {p : List MemPlace} (hval : ∃ a len cap, v = .slice a len cap) (h : DataW.Trod enc Tryz.prog W 0 (fun _ => true) true 34 v d p) :
  ∃ (rs : List (Int × Int)) (a : Option Addr) (c : Nat), v = .slice a rs.length c ∧ LitP W v rs ∧ ((∀ n ∈ d.weights Tryz.prog 34, n ≤ reachBytes) → rs.length ≤ 8796093022208) := by
 obtain ⟨a1, len, cap, rfl⟩ := hval
 obtain ⟨fuel, hf⟩ := h
 have hf : DataW.trod enc Tryz.prog W 0 (fun _ => true) true fuel 34 [.slice a1 len cap] = some (d, p) := hf
 rcases DataW.trod_slice Tryz.underlying34 hf with ⟨hcs, hx⟩ | ⟨a, len', cap', elems, rest, n, _, hcs, hx, hb, hl, hm, hlen, hel, hsp, hns⟩
 ·simp at hcs
  obtain ⟨rfl, rfl, rfl⟩ := hcs
  exact ⟨[], none, 0, rfl, ⟨none, 0, rfl, Sl.nil _ _⟩, fun _ => by simp⟩
 ·simp at hcs
  obtain ⟨rfl, rfl, rfl⟩ := hcs
  rw [cells_pair] at hel
  have each : ∀ i, ∃ q : Int × Int, i < len → W.cell? (a.add (i * 2)) = some (.int .i64 q.1) ∧ W.cell? ((a.add (i * 2)).add 1) = some (.int .i64 q.2) := by
   intro i
   by_cases hi : i < len
   ·have h1 := hel i hi
    have hi' : i < elems.length := by omega
    rw [List.getElem?_eq_getElem hi', Option.bind_eq_some_iff] at h1
    obtain ⟨cs', hcs', hy⟩ := h1
    obtain ⟨hbk, hc2, hcc⟩ := World.cells?_some hcs'
    obtain ⟨xs, m, _, _, hlen2, hxl, hxe⟩ := DataW.trod_array Tryz.underlying33 hy
    rw [cells_pair] at hlen2
    rw [cells_int] at hxe
    match cs', hlen2 with
    | [c0, c1], _ =>
     have e0 := hxe 0 (by omega)
     have e1 := hxe 1 (by omega)
     rw [List.getElem?_eq_getElem (by omega)] at e0 e1
     obtain ⟨z0, g0, _, _⟩ := DataW.trod_int Tryz.underlying3 e0
     obtain ⟨z1, g1, _, _⟩ := DataW.trod_int Tryz.underlying3 e1
     simp at g0 g1
     subst g0; subst g1
     have k0 := hcc 0 (by omega)
     have k1 := hcc 1 (by omega)
     refine ⟨(z0, z1), fun _ => ⟨?_, ?_⟩⟩
     ·simpa [Addr.add] using k0
     ·simpa using k1
   ·exact ⟨(0, 0), fun h => absurd h hi⟩
  obtain ⟨f, hf'⟩ := Classical.axiomOfChoice each
  have hL : ((List.range len).map f).length = len := by simp
  have hget : ∀ i, i < len → pget ((List.range len).map f) i = f i := fun i hi => by simp [pget, List.getD, hi]
  refine ⟨(List.range len).map f, some a, cap, by rw [hL], ⟨some a, cap, by rw [hL], fun j v hv => ?_⟩, fun hw => ?_⟩
  ·have hj2 : j < len * 2 := by
    have := (List.getElem?_eq_some_iff.1 hv).1
    rw [pvs_len, hL] at this
    exact this
   obtain ⟨h0, _⟩ := hf' 0 (by omega)
   obtain ⟨ab, ao, spot⟩ := a
   have hspot : spot = none := by simpa [Addr.add] using World.cell?_spot h0
   subst hspot
   refine ⟨ab, ao, rfl, ?_⟩
   have hi : j / 2 < len := by omega
   obtain ⟨h1, h2⟩ := hf' (j / 2) hi
   have hp := pvs_get (rs := (List.range len).map f) (j := j / 2) (by rw [hL]; exact hi)
   rw [hget _ hi] at hp
   by_cases hm2 : j % 2 = 0
   ·have hp0 := hp 0 _ rfl
    rw [show j / 2 * 2 + 0 = j by omega, hv] at hp0
    rw [Option.some.inj hp0]
    rw [add_plain, show ao + j / 2 * 2 = ao + j by omega] at h1
    exact h1
   ·have hp1 := hp 1 _ rfl
    rw [show j / 2 * 2 + 1 = j by omega, hv] at hp1
    rw [Option.some.inj hp1]
    rw [add_plain, add_plain, show ao + j / 2 * 2 + 1 = ao + j by omega] at h2
    exact h2
  ·have hd : d = .slice (elems.map (·.1)) (rest.map (·.1)) := congrArg Prod.fst hx
   have h1 := hw (((elems.map (·.1)).length + (rest.map (·.1)).length) * Tryz.prog.bytesOf 33) (by
    rw [hd]
    simp only [DataW.weights, Tryz.underlying34, List.mem_cons, List.mem_append]
    exact .inl trivial)
   rw [bytes_pair, List.length_map, hlen] at h1
   rw [hL]
   unfold reachBytes at h1
   omega
end
end
end Go.Proofs.YtejlpdbiacmfcaaGreatDoor
