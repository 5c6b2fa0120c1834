/-
  Walk of the reference's reduce: it does what elimination does.
  Conditions: a bound on the sizes of the numbers.

  Walk of the reference's solve.
  Conditions: a bound on the sizes of the numbers.

  Walks of the reference's with, Identity, Transpose, Mul, Apply, Rank, Solve.
  Conditions: a bound on the sizes of the numbers.

  Walks of the reference's Solve, Inverse, Least.
  Conditions: a bound on the sizes of the numbers.

  Package linear at light arguments; what it answers at written-out ones.
  Conditions: rows of at most 6 texts of 12 bytes; the library's table of powers of ten is laid.

  The law package's lives, and LinearNames: it returns true. Printed by names27.py.
  Conditions: the library's table of powers of ten is laid.

  The lengths of what package linear answers; calls at matrices of numbers.
  Conditions: the library's table of powers of ten is laid.

  Walks of the law package's square and tall.
  Conditions: what is copied fits into memory.

  Walk of the statements' Pick; digits of powers.
  Conditions: the number of choices is at least 1.

  What the solver answers at small systems of numbers.
  Conditions: each theorem names its own.

  The reference's solver at numbers; the sizes that a strategy's systems ask.
  Conditions: each theorem names its own.

  Plain parts of the walks of fit and Spread: right sides as they are filled, rows of the normal matrix in memory.
  No conditions: each theorem names its own premises.

  Numbers' texts under the reference's arithmetic; inverses and ranks of small matrices.
  Conditions: each theorem names its own.
-/
import Derived.Test.YtejlpdbiacmfcaaGreatDoorYTab
import Derived.Test.YtejlpdbiacmfcaaGreatDoorYNumD
import Derived.Test.YtejlpdbiacmfcaaGreatDoorYLb
import Derived.Test.YtejlpdbiacmfcaaGreatDoorYRA
import Derived.Test.YtejlpdbiacmfcaaGreatDoorYMl
import Derived.Test.YtejlpdbiacmfcaaGreatDoorYHa
section
set_option linter.unusedSimpArgs false
set_option linter.unusedVariables false
set_option maxHeartbeats 4000000
namespace Go.Proofs.YtejlpdbiacmfcaaGreatDoor
open Go Go.Proofs Go.RowKit Go.Lib

theorem VecQ.congr {w : World} {a : Option Addr} {n : Nat} {f g : Nat → Rat} (h : VecQ w a n f) (he : ∀ i, i < n → f i = g i) : VecQ w a n g := by
  obtain ⟨cs, h1, h2, h3⟩ := h
  exact ⟨cs, h1.congr he, h2, h3⟩
theorem RwsQ.congr {w : World} {m n : Nat} {A : Nat → Option Addr} {C : Nat → Nat} {f g : Nat → Nat → Rat} (h : RwsQ w m n A C f) (he : ∀ i, i < m → ∀ t, t < n → f i t = g i t) : RwsQ w m n A C g :=
  fun i hi => ⟨(h i hi).1.congr (he i hi), (h i hi).2⟩
theorem RwsQ.set {w : World} {m n : Nat} {A : Nat → Option Addr} {C : Nat → Nat} {f : Nat → Nat → Rat} {a : Option Addr} {c r : Nat} {f' : Nat → Rat} (h : RwsQ w m n A C f) (hv : VecQ w a n f') (hc : n ≤ c) : RwsQ w m n (upd A r a) (upd C r c) (upd f r f') := by
  intro i hi
  by_cases hir : i = r
  · subst hir; rw [upd_same, upd_same, upd_same]; exact ⟨hv, hc⟩
  · rw [upd_ne _ _ hir, upd_ne _ _ hir, upd_ne _ _ hir]; exact h i hi
theorem RwsQ.swap {w : World} {m n r i : Nat} {A : Nat → Option Addr} {C : Nat → Nat} {f : Nat → Nat → Rat} (h : RwsQ w m n A C f) (hr : r < m) (hi : i < m) : RwsQ w m n (upd (upd A r (A i)) i (A r)) (upd (upd C r (C i)) i (C r)) (swp r i f) := by
  intro j hj
  by_cases hji : j = i
  · subst hji
    rw [upd_same, upd_same]
    have : swp r j f j = f r := by
      unfold swp
      rw [if_pos rfl]
      split
      · rename_i h2; rw [h2]
      · rfl
    rw [this]; exact h r hr
  · rw [upd_ne _ _ hji, upd_ne _ _ hji]
    by_cases hjr : j = r
    · subst hjr
      rw [upd_same, upd_same]
      have : swp j i f j = f i := by unfold swp; rw [if_pos rfl]
      rw [this]; exact h i hi
    · rw [upd_ne _ _ hjr, upd_ne _ _ hjr]
      have : swp r i f j = f j := by unfold swp; rw [if_neg hjr, if_neg hji]
      rw [this]; exact h j hj

/-- What holds while the reference eliminates. -/
def RdqI (w w' : World) (base go c m n : Nat) (A : Nat → Option Addr) (C : Nat → Nat) (g : Mx) : Prop :=
  w'.ownsRow base 169 1 (.slice (some ⟨go, 0, none⟩) m c) m (rws m n A C) ∧ RwsQ w' m n A C g ∧ Below base w w'
theorem RdqI.step {w w1 w2 : World} {base go c m n : Nat} {A : Nat → Option Addr} {C : Nat → Nat} {g : Mx} (h : RdqI w w1 base go c m n A C g) (hb : Below w1.heap.size w1 w2) (hbase : base ≤ w.heap.size) : RdqI w w2 base go c m n A C g :=
  ⟨own_bw h.1 hb, h.2.1.stay hb, bl_base h.2.2 hb hbase⟩
theorem RdqI.congr {w w1 : World} {base go c m n : Nat} {A : Nat → Option Addr} {C : Nat → Nat} {g g' : Mx} (h : RdqI w w1 base go c m n A C g) (he : ∀ i, i < m → ∀ t, t < n → g i t = g' i t) : RdqI w w1 base go c m n A C g' :=
  ⟨h.1, h.2.1.congr he, h.2.2⟩
/-- A row's place is taken by another. -/
theorem RdqI.put {w w1 w2 : World} {base go c m n r : Nat} {A : Nat → Option Addr} {C : Nat → Nat} {g : Mx} {a : Option Addr} {d : Nat} {f' : Nat → Rat} (h : RdqI w w1 base go c m n A C g) (hr : r < m) (hv : VecQ w1 a n f') (hd : n ≤ d)
    (ho : w2.ownsRow base 169 1 (.slice (some ⟨go, 0, none⟩) m c) m ((rws m n A C).set r (.slice a n d))) (hg : w1.grownBy w2 (some go)) (hbase : base ≤ w.heap.size) : RdqI w w2 base go c m n (upd A r a) (upd C r d) (upd g r f') := by
  have htg : ∀ q, some go = some q → Tg w1 169 q := fun q e => by cases e; exact own_tag h.1 go rfl
  rw [rws_set hr] at ho
  exact ⟨ho, (h.2.1.push hg htg).set (hv.push hg htg) hd, h.2.2.grown hg (Nat.le_trans hbase h.2.2.size) (fun q e => by cases e; exact (own_block h.1 go rfl).1)⟩
/-- A row of numbers is somewhere. -/
theorem VecQ.at {w : World} {a : Option Addr} {n : Nat} {f : Nat → Rat} (h : VecQ w a n f) (hn : 0 < n) : ∃ g o cs, a = some ⟨g, o, none⟩ ∧ ElsQ w cs n f ∧ Sl w (some ⟨g, o, none⟩) cs ∧ g < w.heap.size := by
  obtain ⟨cs, h1, h2, h3⟩ := h
  obtain ⟨g, o, rfl, _⟩ := h2.at (j := 0) (by rw [h1.1]; omega)
  exact ⟨g, o, cs, rfl, h1, h2, (h3 g rfl).lt⟩

end Go.Proofs.YtejlpdbiacmfcaaGreatDoor
end
section
set_option linter.unusedSimpArgs false
set_option linter.unusedVariables false
set_option maxHeartbeats 4000000
namespace Go.Proofs.YtejlpdbiacmfcaaGreatDoor
open Go Go.Proofs Go.RowKit Go.Lib

end Go.Proofs.YtejlpdbiacmfcaaGreatDoor
end
section
set_option linter.unusedSimpArgs false
set_option linter.unusedVariables false
set_option maxHeartbeats 4000000
namespace Go.Proofs.YtejlpdbiacmfcaaGreatDoor
open Go Go.Proofs Go.RowKit Go.Lib

end Go.Proofs.YtejlpdbiacmfcaaGreatDoor
end
section
set_option linter.unusedSimpArgs false
set_option linter.unusedVariables false
set_option maxHeartbeats 4000000
namespace Go.Proofs.YtejlpdbiacmfcaaGreatDoor
open Go Go.Proofs Go.RowKit Go.Lib

end Go.Proofs.YtejlpdbiacmfcaaGreatDoor
end
section
set_option linter.unusedSimpArgs false
set_option linter.unusedVariables false
set_option maxHeartbeats 2000000
namespace Go.Proofs.YtejlpdbiacmfcaaGreatDoor
open Go Go.Proofs Go.RowKit Go.Lib

/-- At most 7 light rows. -/
def LtM (xss : List (List Tx)) : Prop := xss.length ≤ 7 ∧ ∀ i, i < xss.length → RowL (rw' xss i)
theorem RowL.small {ys : List Tx} (h : RowL ys) (he : VErr ys 0) : ∀ i, i < ys.length → Small 12 (vval ys i) := fun i hi => q_len_small (he.qok i hi) (h.2 i hi)
theorem LtM.small {xss : List (List Tx)} (h : LtM xss) (he : XErr xss 0) : ∀ i t, i < xss.length → t < (rw' xss 0).length → Small 12 (mval xss i t) := fun i t hi ht =>
  q_len_small (he.rows.2 i hi t ht) ((h.2 i hi).2 t (by rw [he.rows.1 i hi]; exact ht))
theorem LtM.cols {xss : List (List Tx)} (h : LtM xss) (he : XErr xss 0) : (rw' xss 0).length ≤ 6 := (h.2 0 he.ok.1).1
theorem grw_at {n k L B : Nat} (hn : n ≤ k) (hB : grw k L ≤ B) : grw n L ≤ B := Nat.le_trans (grw_mono L hn) hB
theorem grw_mono2 {L M : Nat} (h : L ≤ M) : ∀ k, grw k L ≤ grw k M
  | 0 => h
  | k + 1 => by have := grw_mono2 h k; rw [grw, grw]; omega

def VChk (ys : List Tx) : Prop := 0 < ys.length ∧ ys.length ≤ 64 ∧ ∀ j, j < ys.length → QChk (ys.getD j [])
instance (ys : List Tx) : Decidable (VChk ys) := by unfold VChk; infer_instance
theorem VChk.ok {ys : List Tx} (h : VChk ys) : VErr ys 0 := .inr (.inr (.inr ⟨h.1, h.2.1, fun j hj => qok_chk (h.2.2 j hj), rfl⟩))
def XChk (xss : List (List Tx)) : Prop := 0 < xss.length ∧ xss.length ≤ 64 ∧ ∀ i, i < xss.length → (rw' xss i).length = (rw' xss 0).length ∧ VChk (rw' xss i)
instance (xss : List (List Tx)) : Decidable (XChk xss) := by unfold XChk; infer_instance
theorem XChk.ok {xss : List (List Tx)} (h : XChk xss) : XErr xss 0 :=
  .inr (.inr (.inr ⟨h.1, (h.2.2 0 h.1).2.1, h.2.1, (h.2.2 0 h.1).2.2.1, fun i hi => ⟨(h.2.2 i hi).1, (h.2.2 i hi).2.ok⟩, rfl⟩))
theorem txs_back {ys : List Tx} (h : VErr ys 0) : txs ys.length (vval ys) = ys := by
  apply List.ext_getElem (txs_length _ _)
  intro i h1 h2
  have e := q_text_back (h.qok i h2)
  simp only [txs, List.getElem_map, List.getElem_range, vval]
  rw [e]; simp [List.getD, h2]
theorem mtx_back {xss : List (List Tx)} (h : XErr xss 0) : mtx xss.length (rw' xss 0).length (mval xss) = xss := by
  apply List.ext_getElem (mtx_length _ _ _)
  intro i h1 h2
  have hr := h.ok.2.2.2.2 i h2
  have e := txs_back hr.2
  have hg : xss[i] = rw' xss i := by simp [rw', List.getD, h2]
  rw [hr.1] at e
  simp only [mtx, List.getElem_map, List.getElem_range]
  rw [hg]; exact e
theorem TxtS.lit {zs : List Tx} {n : Nat} {f : Nat → Rat} (hz : VErr zs 0) (hn : zs.length = n) (hf : ∀ i, i < n → f i = vval zs i) : TxtS n f zs 0 := by
  subst hn
  exact TxtS.congr (f := vval zs) (.inr ⟨hz.small, (txs_back hz).symm, rfl⟩) (fun i hi => (hf i hi).symm)
theorem MtxS.lit {zss : List (List Tx)} {m n : Nat} {f : Mx} (hz : XErr zss 0) (hm : zss.length = m) (hn : (rw' zss 0).length = n) (hf : ∀ i, i < m → ∀ k, k < n → f i k = mval zss i k) : MtxS m n f zss 0 := by
  subst hm; subst hn
  exact MtxS.congr (f := mval zss) (.inr ⟨hz.small, (mtx_back hz).symm, rfl⟩) (fun i hi k hk => (hf i hi k hk).symm)
instance (ys : List Tx) : Decidable (RowL ys) := by unfold RowL; infer_instance
instance (xss : List (List Tx)) : Decidable (LtM xss) := by unfold LtM; infer_instance
end Go.Proofs.YtejlpdbiacmfcaaGreatDoor
end
section
set_option linter.unusedSimpArgs false
set_option linter.unusedVariables false
set_option maxHeartbeats 4000000
namespace Go.Proofs.YtejlpdbiacmfcaaGreatDoor
open Go Go.Proofs Go.RowKit Go.Lib

/-- A value that is a list of texts. -/
def Lit (w : World) (v : Value) (xs : List Tx) : Prop := ∃ a c, v = .slice a xs.length c ∧ Sl w a (strs xs)
theorem Lit.stay {w w' : World} {v : Value} {xs : List Tx} (h : Lit w v xs) (hb : Below w.heap.size w w') : Lit w' v xs := by
  obtain ⟨a, c, rfl, h1⟩ := h
  exact ⟨a, c, rfl, h1.stay hb⟩
theorem lit_bk {w : World} {g n c : Nat} {t : TypeId} {xs : List Tx} (h : Bk w g t (strs xs)) (hn : n = xs.length) : Lit w (.slice (some ⟨g, 0, none⟩) n c) xs :=
  ⟨some ⟨g, 0, none⟩, c, by rw [hn], h.sl 0⟩
theorem Lit.sl {w : World} {a : Option Addr} {n c : Nat} {xs : List Tx} (h : Lit w (.slice a n c) xs) : Sl w a (strs xs) ∧ n = xs.length := by
  obtain ⟨a', c', e, h1⟩ := h
  simp only [Value.slice.injEq] at e
  obtain ⟨rfl, rfl, rfl⟩ := e
  exact ⟨h1, rfl⟩
def vadr : Option Value → Option Addr | some (.slice a _ _) => a | _ => none
def vcap : Option Value → Nat | some (.slice _ _ c) => c | _ => 0
section
variable {xss yss zss : List (List Tx)} {ys zs : List Tx} {e : Int}
theorem nsame_x {xs zs' : List Tx} (a b : Option Addr) (c d m n : Nat) (w : World) (h1 : Lit w (.slice a m c) xs) (h2 : Lit w (.slice b n d) zs') (hx : xs.length ≤ 1099511627776) (hy : zs'.length ≤ 1099511627776) :
    Calls Tryz.prog 16 #[.slice a m c, .slice b n d] w (Ret fun v w' => v = .bool (decide (xs = zs')) ∧ Below w.heap.size w w') := by
  obtain ⟨g1, rfl⟩ := h1.sl
  obtain ⟨k1, rfl⟩ := h2.sl
  exact nsame_calls xs zs' a b c d w g1 k1 hx hy
end

end Go.Proofs.YtejlpdbiacmfcaaGreatDoor
end
section
set_option linter.unusedSimpArgs false
set_option linter.unusedVariables false
set_option maxHeartbeats 2000000
namespace Go.Proofs.YtejlpdbiacmfcaaGreatDoor
open Go Go.Proofs Go.RowKit Go.Lib

theorem LightM.row {xss : List (List Tx)} {xs : List Tx} (h : LightM xss [xs]) : RowL xs := by
  have := h.1 xss.length (by rw [List.length_append, List.length_singleton]; omega)
  rwa [rw_app2] at this
theorem VOut.lit {ys : List Tx} {e : Int} {v : Value} {w : World} (h : VOut ys e v w) : ∃ a c, v = .tuple ⟨[.slice a ys.length c, .int .i64 e]⟩ ∧ Lit w (.slice a ys.length c) ys := by
  obtain ⟨a, c, h1, h2, _, h4⟩ := h
  exact ⟨a, c, h1, a, c, rfl, h2⟩
theorem IdR.out {n : Int} {v : Value} {w : World} (h : IdR n v w) : ∃ a c ys, v = .slice a ys.length c ∧ SM w a ys ∧ Lens ys ∧ ((n < 1 ∨ 64 < n) ∧ ys = [] ∨ (1 ≤ n ∧ n ≤ 64) ∧ ys = mtx n.toNat n.toNat idn) := by
  rcases h with ⟨h1, rfl⟩ | ⟨h1, h2, a, c, rfl, h3⟩
  · exact ⟨none, 0, [], rfl, SM.nil w, nil_lens, .inl ⟨h1, rfl⟩⟩
  · exact ⟨a, c, mtx n.toNat n.toNat idn, by rw [mtx_length], h3, mtx_lens (by omega) (by omega) (fun i _ k _ => small_mono (idn_small i k) (by omega)), .inr ⟨⟨h1, h2⟩, rfl⟩⟩


section
variable {m n p : Nat} {f g : Mx}
end
/-- What the solver answers at numbers. -/
def SolvedR (n : Nat) (f : Mx) (b : Nat → Rat) (v : Value) (w : World) : Prop :=
  ((gj n f n).2 ≠ n ∧ ∃ a c, v = .tuple ⟨[.slice a 0 c, .int .i64 17]⟩) ∨
  ((gj n f n).2 = n ∧ ∃ x a c, (∀ i, i < n → mapp n f x i = b i) ∧ (∀ i, i < n → Small 4000 (x i)) ∧ v = .tuple ⟨[.slice a n c, .int .i64 0]⟩ ∧ Lit w (.slice a n c) (txs n x))
theorem SlvS.solved {n : Nat} {f : Mx} {b : Nat → Rat} {zs : List Tx} {e : Int} {v : Value} {w : World} (h : SlvS n f b zs e) (ho : VOut zs e v w) (hsol : ∀ x, (∀ i, i < n → mapp n f x i = b i) → (gj n f n).2 = n → ∀ i, i < n → Small 4000 (x i)) : SolvedR n f b v w := by
  obtain ⟨a, c, rfl, hl⟩ := ho.lit
  rcases h with ⟨h1, rfl, rfl⟩ | ⟨h1, x, h2, h3⟩
  · exact .inl ⟨h1, a, c, rfl⟩
  · have hs := hsol x h2 h1
    rcases h3 with ⟨⟨i, hi, h4⟩, _⟩ | ⟨_, rfl, rfl⟩
    · exact absurd (hs i hi) h4
    · rw [txs_length] at hl ⊢
      exact .inr ⟨h1, x, a, c, h2, hs, rfl, hl⟩
end Go.Proofs.YtejlpdbiacmfcaaGreatDoor
end
section
set_option linter.unusedSimpArgs false
set_option linter.unusedVariables false
set_option maxHeartbeats 2000000
namespace Go.Proofs.YtejlpdbiacmfcaaGreatDoor
open Go Go.Proofs Go.RowKit Go.Lib

/-- A new list of rows of texts whose places reach over their texts. -/
def OwnMC (w : World) (B : Nat) (a : Option Addr) (c : Nat) (xss : List (List Tx)) : Prop := ∃ A C, w.ownsRow B 29 1 (.slice a xss.length c) xss.length (srws xss A C) ∧ (∀ i, i < xss.length → Sl w (A i) (strs (rw' xss i)) ∧ ∀ g, ab (A i) = some g → Tg w 35 g) ∧ ∀ i, i < xss.length → (rw' xss i).length ≤ C i
/-- A list of rows of texts whose places reach over their texts. -/
def SMC (w : World) (a : Option Addr) (xss : List (List Tx)) : Prop := ∃ A C, Sl w a (srws xss A C) ∧ (∀ i, i < xss.length → Sl w (A i) (strs (rw' xss i))) ∧ ∀ i, i < xss.length → (rw' xss i).length ≤ C i
theorem SMC.sm {w : World} {a : Option Addr} {xss : List (List Tx)} (h : SMC w a xss) : SM w a xss := by
  obtain ⟨A, C, h1, h2, _⟩ := h
  exact ⟨A, C, h1, h2⟩
theorem SMC.stay {w w' : World} {a : Option Addr} {xss : List (List Tx)} (h : SMC w a xss) (hb : Below w.heap.size w w') : SMC w' a xss := by
  obtain ⟨A, C, h1, h2, h3⟩ := h
  exact ⟨A, C, h1.stay hb, fun i hi => (h2 i hi).stay hb, h3⟩
theorem OwnMC.nil (w : World) (B : Nat) : OwnMC w B none 0 [] := ⟨fun _ => none, fun _ => 0, ⟨rfl, .inl ⟨rfl, rfl⟩⟩, fun i hi => absurd hi (by simp), fun i hi => absurd hi (by simp)⟩
theorem OwnMC.stay {w w' : World} {B : Nat} {a : Option Addr} {c : Nat} {xss : List (List Tx)} (h : OwnMC w B a c xss) (hb : Below w.heap.size w w') : OwnMC w' B a c xss := by
  obtain ⟨A, C, h1, h2, h3⟩ := h
  exact ⟨A, C, own_bw h1 hb, fun i hi => ⟨(h2 i hi).1.below hb (fun g hg => ((h2 i hi).2 g hg).lt), fun g hg => ((h2 i hi).2 g hg).below hb⟩, h3⟩
theorem OwnMC.snoc {w w' : World} {B : Nat} {a a' b : Option Addr} {c c' d : Nat} {xss : List (List Tx)} {xs : List Tx} {A : Nat → Option Addr} {C : Nat → Nat}
    (ho : w.ownsRow B 29 1 (.slice a xss.length c) xss.length (srws xss A C)) (h2 : ∀ i, i < xss.length → Sl w (A i) (strs (rw' xss i)) ∧ ∀ g, ab (A i) = some g → Tg w 35 g)
    (h3 : ∀ i, i < xss.length → (rw' xss i).length ≤ C i)
    (hb : Sl w b (strs xs)) (hbt : ∀ g, ab b = some g → Tg w 35 g) (hd : xs.length ≤ d) (hg : w.grownBy w' (ab a)) (ho' : w'.ownsRow B 29 1 (.slice a' (xss.length + 1) c') (xss.length + 1) (srws xss A C ++ [.slice b xs.length d])) : OwnMC w' B a' c' (xss ++ [xs]) := by
  have key : ∀ (b : Option Addr) (vs : List Value), Sl w b vs → (∀ g, ab b = some g → Tg w 35 g) → Sl w' b vs ∧ ∀ g, ab b = some g → Tg w' 35 g := fun b vs h1 h2 =>
    have hne : ∀ g, ab b = some g → ab a ≠ some g := fun g hg e => (h2 g hg).ne (own_tag ho g e) rfl rfl
    ⟨h1.keep hg hne, fun q hq => (h2 q hq).grown hg (hne q hq)⟩
  rw [srws_snoc] at ho'
  refine ⟨_, _, by rw [List.length_append, List.length_singleton]; exact ho', fun i hi => ?_, fun i hi => ?_⟩
  · rw [List.length_append, List.length_singleton] at hi
    by_cases h : i = xss.length
    · subst h; rw [upd_same, rw_app2]; exact key b _ hb hbt
    · rw [upd_ne _ _ h, rw_app1 (by omega)]; exact key _ _ (h2 i (by omega)).1 (h2 i (by omega)).2
  · rw [List.length_append, List.length_singleton] at hi
    by_cases h : i = xss.length
    · subst h; rw [upd_same, rw_app2]; exact hd
    · rw [upd_ne _ _ h, rw_app1 (by omega)]; exact h3 i (by omega)
theorem own_cap {w : World} {base e : Nat} {a : Option Addr} {m c : Nat} {cs : List Value} (h : w.ownsRow base e 1 (.slice a m c) m cs) : m ≤ c := by
  by_cases hm : 0 < m
  · obtain ⟨_, _, _, _, _, _, _, h⟩ := own_bk h hm
    exact h
  · omega

/-- What square answers, told by its second result. -/
def SqC (n : Nat) (v : Value) (ok : Bool) (w : World) : Prop := ok = true → ∃ (F : Mx) (a : Option Addr) (c : Nat), (∀ i, i < n → ∀ k, k < n → Small 12 (F i k)) ∧ v = .slice a n c ∧ SMC w a (mtx n n F)
theorem SqC.stay {n : Nat} {v : Value} {ok : Bool} {w w' : World} (h : SqC n v ok w) (hb : Below w.heap.size w w') : SqC n v ok w' := fun e => by
  obtain ⟨F, a, c, h1, h2, h3⟩ := h e
  exact ⟨F, a, c, h1, h2, h3.stay hb⟩
theorem SM.rows {w : World} {a : Option Addr} {m n : Nat} {f : Mx} (h : SM w a (mtx m n f)) : ∃ A C, Sl w a (srws (mtx m n f) A C) ∧ ∀ i, i < m → Lit w (.slice (A i) n (C i)) (txs n (f i)) := by
  obtain ⟨A, C, h1, h2⟩ := h
  refine ⟨A, C, h1, fun i hi => ⟨A i, C i, by rw [txs_length], ?_⟩⟩
  have := h2 i (by rw [mtx_length]; exact hi)
  rwa [mtx_row hi] at this
end Go.Proofs.YtejlpdbiacmfcaaGreatDoor
end
section
set_option linter.unusedSimpArgs false
set_option linter.unusedVariables false
set_option maxHeartbeats 1000000
namespace Go.Proofs.YtejlpdbiacmfcaaGreatDoor
open Go Go.Proofs Go.RowKit Go.Lib

end Go.Proofs.YtejlpdbiacmfcaaGreatDoor
end
section
set_option linter.unusedSimpArgs false
set_option linter.unusedVariables false
set_option maxHeartbeats 1000000
namespace Go.Proofs.YtejlpdbiacmfcaaGreatDoor
open Go Go.Proofs Go.RowKit Go.Lib

theorem SolvedR.full {n : Nat} {f : Mx} {b : Nat → Rat} {v : Value} {w : World} (h : SolvedR n f b v w) (hF : (gj n f n).2 = n) :
    ∃ x a c, (∀ i, i < n → mapp n f x i = b i) ∧ (∀ i, i < n → Small 4000 (x i)) ∧ v = .tuple ⟨[.slice a n c, .int .i64 0]⟩ ∧ Lit w (.slice a n c) (txs n x) := by
  rcases h with ⟨h, _⟩ | ⟨_, h⟩
  · exact absurd hF h
  · exact h
theorem SolvedR.none {n : Nat} {f : Mx} {b : Nat → Rat} {v : Value} {w : World} (h : SolvedR n f b v w) (hF : (gj n f n).2 ≠ n) :
    ∃ a c, v = .tuple ⟨[.slice a 0 c, .int .i64 17]⟩ := by
  rcases h with ⟨_, h⟩ | ⟨h, _⟩
  · exact h
  · exact absurd h hF
end Go.Proofs.YtejlpdbiacmfcaaGreatDoor
end
section
set_option linter.unusedSimpArgs false
set_option linter.unusedVariables false
set_option maxHeartbeats 2000000
namespace Go.Proofs.YtejlpdbiacmfcaaGreatDoor
open Go Go.Proofs Go.RowKit Go.Lib

/-- What a solver answers at numbers, where there is one solution. -/
def SolC (n : Nat) (f : Mx) (b : Nat → Rat) (v : Value) (w : World) : Prop := ∃ x a c, (∀ i, i < n → mapp n f x i = b i) ∧ (∀ i, i < n → Small 4000 (x i)) ∧ v = .tuple ⟨[.slice a n c, .int .i64 0]⟩ ∧ Lit w (.slice a n c) (txs n x) ∧ n ≤ c
theorem pSolveC_calls {n : Nat} (f : Mx) (b : Nat → Rat) (S : Nat) (h0 : 0 < n) (hn : n ≤ 64) (hS : S ≤ 4000) (hf : ∀ i, i < n → ∀ k, k < n → Small S (f i k)) (hb : ∀ i, i < n → Small S (b i)) (hG : grw n S ≤ 1000000) (hF : (gj n f n).2 = n)
    (hsol : ∀ x, (∀ i, i < n → mapp n f x i = b i) → ∀ i, i < n → Small 4000 (x i)) (a b_ : Option Addr) (c d : Nat) (w : World) (hs : SM w a (mtx n n f)) (hl : Lit w (.slice b_ n d) (txs n b)) (ht : TabOk w) :
    Calls Tryz.prog 50 #[.slice a n c, .slice b_ n d] w (Ret fun v w' => SolC n f b v w' ∧ Below w.heap.size w w') := by
  have hf' : ∀ i, i < n → ∀ k, k < n → Small 4000 (f i k) := fun i hi k hk => small_mono (hf i hi k hk) hS
  have hb' : ∀ i, i < n → Small 4000 (b i) := fun i hi => small_mono (hb i hi) hS
  have hlm := mtx_lens (m := n) (n := n) (by omega) (by omega) hf'
  have hlv := txs_lenv (n := n) (by omega) hb'
  have := lSolve_calls (mtx n n f) (txs n b) S a b_ c d w hs hlm.l hlm.l2 hlm.x hl.sl.1 hlv.l hlv.x ht (fun _ => by
    rw [mtx_length, mtx_len h0, txs_length]
    exact ⟨fun i t hi ht => by rw [mtx_mval hf' hi ht]; exact hf i hi t ht, fun i hi => by rw [txs_vval hb' hi]; exact hb i hi, hG⟩)
  rw [mtx_length, txs_length] at this
  refine this.mono ?_
  rintro e w' ⟨v, rfl, ⟨zs, e', h3, h4⟩, hB⟩
  refine ⟨_, rfl, ?_, hB⟩
  have hE : BErr (mtx n n f) (txs n b) 0 := .inr ⟨mtx_xerr h0 h0 hn hn hf', txs_verr h0 hn hb'⟩
  rcases h3 with ⟨h5, h6, _⟩ | ⟨_, h6, _⟩ | ⟨_, _, _, h6⟩
  · exact absurd (h6.uniq hE) h5
  · rw [mtx_length, mtx_len h0, txs_length] at h6; omega
  · rw [mtx_length] at h6
    have h7 := h6.congr (fun i hi k hk => mtx_mval hf' hi hk) (fun i hi => txs_vval hb' hi)
    obtain ⟨a', c', rfl, hl', hc', hg'⟩ := h4
    rcases h7 with ⟨h8, _, _⟩ | ⟨_, x, h9, h10⟩
    · exact absurd hF h8
    · have hsm := hsol x h9
      rcases h10 with ⟨⟨i, hi, h11⟩, _⟩ | ⟨_, rfl, rfl⟩
      · exact absurd (hsm i hi) h11
      · rw [txs_length] at hc' ⊢
        exact ⟨x, a', c', h9, hsm, rfl, ⟨a', c', by rw [txs_length], hl'⟩, hc'⟩
theorem grw7 {n S : Nat} (hn : n ≤ 7) (hS : S ≤ 15) : grw n S ≤ 1000000 :=
  Nat.le_trans (grw_mono2 hS n) (grw_at hn (by decide))
/-- The solutions of a strategy's systems with ints of 14 digits take at most 150 digits. -/
theorem stsol_small {kind n : Int} (hs : strat kind n ≠ []) (hn : n ≤ 7) {b : Nat → Rat} (hb : ∀ i, i < n.toNat → Isn 13000000000000 (b i)) :
    ∀ x, (∀ i, i < n.toNat → mapp n.toNat (nrm (strat kind n)) x i = b i) → ∀ i, i < n.toNat → Small 150 (x i) := fun x hx => by
  have h1 := (strat_kind hs).1
  refine isol_small (B := 13000000000000) (by omega) (fun i k _ _ => (nrm_isn (B := 13) (strat_len7 hn) i k).mono (by omega)) hb (strat_reg hs) hx (fpow_lt (m := 7) (F := 5040) (by omega) (by omega) (fct7 (by omega)) (by decide)) (by omega)
/-- The solutions of a strategy's systems with the bits of a range take at most 12 digits. -/
theorem stsol_bits {kind n : Int} (hs : strat kind n ≠ []) (hn : n ≤ 7) {b : Nat → Rat} (hb : ∀ i, i < n.toNat → Isn 13 (b i)) :
    ∀ x, (∀ i, i < n.toNat → mapp n.toNat (nrm (strat kind n)) x i = b i) → ∀ i, i < n.toNat → Small 12 (x i) := fun x hx => by
  have h1 := (strat_kind hs).1
  refine isol_small (B := 13) (by omega) (fun i k _ _ => nrm_isn (B := 13) (strat_len7 hn) i k) hb (strat_reg hs) hx (fpow_lt (m := 7) (F := 5040) (by omega) (by omega) (fct7 (by omega)) (by decide)) (by omega)
end Go.Proofs.YtejlpdbiacmfcaaGreatDoor
end
section
set_option linter.unusedSimpArgs false
set_option linter.unusedVariables false
set_option maxHeartbeats 1000000
namespace Go.Proofs.YtejlpdbiacmfcaaGreatDoor
open Go Go.Proofs Go.RowKit Go.Lib

/-- A right side of which the first texts are there. -/
def bls (n i : Nat) (r : Nat → Rat) : List Tx := (List.range n).map fun j => if j < i then qtext (r j) else []
/-- The same with a text in the next place. -/
def blsP (n i : Nat) (r : Nat → Rat) (t : Tx) : List Tx := (List.range n).map fun j => if j < i then qtext (r j) else if j = i then t else []
theorem bls_zero (n : Nat) (r : Nat → Rat) : List.replicate n (Value.string ⟨#[]⟩) = strs (bls n 0 r) := by
  unfold strs bls
  apply List.ext_getElem?
  intro i
  by_cases h : i < n
  · simp [h]
  · simp [h]
theorem strs_lenb (n i : Nat) (r : Nat → Rat) (t : Tx) : (strs (blsP n i r t)).length = n ∧ (strs (bls n i r)).length = n := by simp [strs, bls, blsP]
theorem bls_set {n i : Nat} (h : i < n) (r : Nat → Rat) (t : Tx) : (strs (bls n i r)).set i (.string ⟨⟨t⟩⟩) = strs (blsP n i r t) := by
  apply List.ext_getElem?
  intro j
  by_cases hj : j < n
  · by_cases e : i = j
    · subst e
      rw [List.getElem?_set_self (by rw [(strs_lenb n i r []).2]; exact h)]
      simp [strs, blsP, h]
    · rw [List.getElem?_set_ne e]
      have : ¬ j = i := fun h => e h.symm
      simp [strs, bls, blsP, hj, this]
  · rw [List.getElem?_eq_none (by rw [List.length_set, (strs_lenb n i r []).2]; omega), List.getElem?_eq_none (by rw [(strs_lenb n i r t).1]; omega)]
theorem blsP_set {n i : Nat} (h : i < n) (r : Nat → Rat) (t t' : Tx) : (strs (blsP n i r t)).set i (.string ⟨⟨t'⟩⟩) = strs (blsP n i r t') := by
  rw [← bls_set h r t, List.set_set, bls_set h]
theorem blsP_end {n i : Nat} (r : Nat → Rat) : blsP n i r (qtext (r i)) = bls n (i + 1) r := by
  unfold bls blsP
  apply List.map_congr_left
  intro j hj
  by_cases h1 : j < i
  · rw [if_pos h1, if_pos (by omega)]
  · by_cases h2 : j = i
    · subst h2; rw [if_neg h1, if_pos rfl, if_pos (by omega)]
    · rw [if_neg h1, if_neg h2, if_neg (by omega)]
theorem bls_end (n : Nat) (r : Nat → Rat) : bls n n r = txs n r := by
  unfold bls txs
  apply List.map_congr_left
  intro j hj
  rw [if_pos (List.mem_range.1 hj)]
theorem blsP_get {n i : Nat} (h : i < n) (r : Nat → Rat) (t : Tx) : (strs (blsP n i r t))[i]? = some (.string ⟨⟨t⟩⟩) := by
  simp [strs, blsP, h]
/-- The first rows of a matrix of texts lie behind a place and before another. -/
def RowsT (w : World) (gb lim n i : Nat) (A : Nat → Option Addr) (f : Nat → Nat → Rat) : Prop := ∀ j, j < i → Sl w (A j) (strs (txs n (f j))) ∧ ∀ g, ab (A j) = some g → gb < g ∧ g < lim ∧ Tg w 35 g
theorem RowsT.none (w : World) (gb lim n : Nat) (A : Nat → Option Addr) (f : Nat → Nat → Rat) : RowsT w gb lim n 0 A f := fun j hj => absurd hj (by omega)
theorem RowsT.stay {w w' : World} {gb lim n i : Nat} {A : Nat → Option Addr} {f : Nat → Nat → Rat} (h : RowsT w gb lim n i A f) (hb : Below w.heap.size w w') : RowsT w' gb lim n i A f := fun j hj =>
  ⟨(h j hj).1.stay hb, fun g hg => ⟨((h j hj).2 g hg).1, ((h j hj).2 g hg).2.1, ((h j hj).2 g hg).2.2.below hb⟩⟩
/-- A step that turns no block between the two places. -/
theorem RowsT.grown {w w' : World} {gb lim n i : Nat} {A : Nat → Option Addr} {f : Nat → Nat → Rat} {row : Option Nat} (h : RowsT w gb lim n i A f) (hg : w.grownBy w' row) (hr : ∀ g, row = some g → g ≤ gb ∨ lim ≤ g ∨ ∃ t, Nat.beq 35 t = false ∧ Tg w t g) : RowsT w' gb lim n i A f := fun j hj => by
  have hne : ∀ g, ab (A j) = some g → row ≠ some g := fun g hg' e => by
    obtain ⟨h1, h2, h3⟩ := (h j hj).2 g hg'
    rcases hr g e with h4 | h4 | ⟨t, ht, h4⟩
    · omega
    · omega
    · exact h3.ne h4 ht rfl
  exact ⟨(h j hj).1.keep hg hne, fun g hg' => ⟨((h j hj).2 g hg').1, ((h j hj).2 g hg').2.1, ((h j hj).2 g hg').2.2.grown hg (hne g hg')⟩⟩
theorem RowsT.lim {w : World} {gb lim lim' n i : Nat} {A : Nat → Option Addr} {f : Nat → Nat → Rat} (h : RowsT w gb lim n i A f) (hl : lim ≤ lim') : RowsT w gb lim' n i A f := fun j hj =>
  ⟨(h j hj).1, fun g hg => ⟨((h j hj).2 g hg).1, Nat.lt_of_lt_of_le ((h j hj).2 g hg).2.1 hl, ((h j hj).2 g hg).2.2⟩⟩
theorem RowsT.snoc {w : World} {gb lim n i : Nat} {A : Nat → Option Addr} {f : Nat → Nat → Rat} (h : RowsT w gb lim n i A f) (hs : Sl w (A i) (strs (txs n (f i)))) (hg : ∀ g, ab (A i) = some g → gb < g ∧ g < lim ∧ Tg w 35 g) : RowsT w gb lim n (i + 1) A f := fun j hj => by
  rcases Nat.lt_succ_iff_lt_or_eq.1 hj with h' | rfl
  · exact h j h'
  · exact ⟨hs, hg⟩
theorem RowsT.congr {w : World} {gb lim n i : Nat} {A A' : Nat → Option Addr} {f : Nat → Nat → Rat} (h : RowsT w gb lim n i A f) (hA : ∀ j, j < i → A' j = A j) : RowsT w gb lim n i A' f := fun j hj => by rw [hA j hj]; exact h j hj
/-- How long the rows are while one of them is built. -/
def lenK (n i k j : Nat) : Nat := if j < i then n else if j = i then k else 0
theorem lenK_end (n i j : Nat) : lenK n i n j = lenK n (i + 1) 0 j := by
  unfold lenK
  by_cases h1 : j < i
  · rw [if_pos h1, if_pos (by omega)]
  · by_cases h2 : j = i
    · rw [if_neg h1, if_pos h2, if_pos (by omega)]
    · rw [if_neg h1, if_neg h2, if_neg (by omega)]
      split <;> rfl
theorem lenK_upd (n i k : Nat) : ∀ j, upd (lenK n i k) i (k + 1) j = lenK n i (k + 1) j := fun j => by
  unfold lenK
  by_cases h : j = i
  · subst h; rw [upd_same, if_neg (by omega), if_pos rfl]
  · rw [upd_ne _ _ h, if_neg h, if_neg h]
theorem lenK_all {n j : Nat} (h : j < n) : lenK n n 0 j = n := by unfold lenK; rw [if_pos h]
theorem vws_len {n : Nat} {A : Nat → Option Addr} {L L' C : Nat → Nat} (h : ∀ j, L j = L' j) : vws n A L C = vws n A L' C := by
  have : L = L' := funext h
  rw [this]
/-- The whole matrix. -/
theorem rowsT_sm {w : World} {gb lim n go : Nat} {A : Nat → Option Addr} {C : Nat → Nat} {f : Nat → Nat → Rat} (ho : Sl w (some ⟨go, 0, none⟩) (vws n A (lenK n n 0) C)) (h : RowsT w gb lim n n A f) : SM w (some ⟨go, 0, none⟩) (mtx n n f) := by
  refine ⟨A, C, ?_, fun i hi => ?_⟩
  · have e : srws (mtx n n f) A C = vws n A (lenK n n 0) C := by
      unfold srws vws
      rw [mtx_length]
      apply List.map_congr_left
      intro j hj
      have := List.mem_range.1 hj
      rw [mtx_len this, lenK_all this]
    rw [e]; exact ho
  · rw [mtx_length] at hi
    rw [mtx_row hi]
    exact (h i hi).1
theorem lenK_zero (n j : Nat) : lenK n 0 0 j = 0 := by unfold lenK; rw [if_neg (by omega)]; split <;> rfl
theorem strs_txs_snoc (k : Nat) (f : Nat → Rat) : strs (txs k f) ++ [.string ⟨⟨qtext (f k)⟩⟩] = strs (txs (k + 1) f) := by
  rw [txs_snoc, strs, strs, List.map_append]; rfl
theorem bits_prod {rows : List (List Int)} (h : Bits rows) (i k j : Nat) : 0 ≤ (irow rows j).getD i 0 * (irow rows j).getD k 0 ∧ (irow rows j).getD i 0 * (irow rows j).getD k 0 ≤ 1 := by
  rcases h j i with h1 | h1 <;> rcases h j k with h2 | h2 <;> rw [h1, h2] <;> omega
/-- What is asked of a system of a strategy. -/
structure SysP (rows : List (List Int)) (n : Nat) (b : Nat → Rat) : Prop where
  h0 : 0 < n
  hn : n ≤ 7
  hl0 : 0 < rows.length
  hl : rows.length ≤ 13
  hrow : ∀ i, i < rows.length → (irow rows i).length = n
  bits : Bits rows
  reg : (gj n (nrm rows) n).2 = n
  sol : ∀ x, (∀ i, i < n → mapp n (nrm rows) x i = b i) → ∀ i, i < n → Small 4000 (x i)
  b : ∀ i, i < n → Small 15 (b i)
theorem SysP.nrm {rows : List (List Int)} {n : Nat} {b : Nat → Rat} (P : SysP rows n b) (i k : Nat) : Small 15 (nrm rows i k) := by
  rw [nrm_int]
  have := dotC_le P.bits i k rows.length
  have := P.hl
  exact small_int (by omega) (by omega)
/-- The solution of a strategy's system comes back. -/
def FitR (rows : List (List Int)) (n : Nat) (b : Nat → Rat) (v : Value) (w : World) : Prop := SolC n (Go.Proofs.YtejlpdbiacmfcaaGreatDoor.nrm rows) b v w
theorem lit_txs {w : World} {g n c : Nat} {f : Nat → Rat} (h : Sl w (some ⟨g, 0, none⟩) (strs (txs n f))) : Lit w (.slice (some ⟨g, 0, none⟩) n c) (txs n f) := ⟨_, c, by rw [txs_length], h⟩
end Go.Proofs.YtejlpdbiacmfcaaGreatDoor
end
section
set_option linter.unusedSimpArgs false
set_option linter.unusedVariables false
set_option maxHeartbeats 1000000
namespace Go.Proofs.YtejlpdbiacmfcaaGreatDoor
open Go Go.Proofs Go.RowKit Go.Lib

section
variable {p q : Rat}
end
theorem txs_get {n i : Nat} {f : Nat → Rat} (hi : i < n) : (strs (txs n f))[i]? = some (.string ⟨⟨qtext (f i)⟩⟩) := by
  rw [getS (by rw [txs_length]; exact hi), txs_getD hi]
/-- What the inverter answers, told by its error. -/
def InvC (n : Nat) (f : Mx) (v : Value) (e : Int) (w : World) : Prop :=
  ((gj n f n).2 ≠ n ∧ e = 17) ∨ ((gj n f n).2 = n ∧ e = 0 ∧ ∃ (x : Mx) (a : Option Addr) (c : Nat), (∀ i, i < n → ∀ j, j < n → mmul n f x i j = idn i j) ∧ (∀ i, i < n → ∀ j, j < n → Small 4000 (x i j)) ∧ v = .slice a n c ∧ SM w a (mtx n n x))
theorem InvC.stay {n : Nat} {f : Mx} {v : Value} {e : Int} {w w' : World} (h : InvC n f v e w) (hb : Below w.heap.size w w') : InvC n f v e w' := by
  rcases h with h | ⟨h1, h2, x, a, c, h3, h4, h5, h6⟩
  · exact .inl h
  · exact .inr ⟨h1, h2, x, a, c, h3, h4, h5, h6.stay hb⟩
end Go.Proofs.YtejlpdbiacmfcaaGreatDoor
end
