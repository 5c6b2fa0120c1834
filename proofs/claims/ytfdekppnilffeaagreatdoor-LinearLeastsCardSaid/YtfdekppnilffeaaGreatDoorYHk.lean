/-
  The lengths of what package linear answers; calls at matrices of numbers.
  Conditions: the library's table of powers of ten is laid.

  Walks of the law package's square and tall.
  Conditions: what is copied fits into memory.
-/
import Derived.Test.YtfdekppnilffeaaGreatDoorYLd
import Derived.Test.YtfdekppnilffeaaGreatDoorYHd
section
set_option linter.unusedSimpArgs false
set_option linter.unusedVariables false
set_option maxHeartbeats 2000000
namespace Go.Proofs.YtfdekppnilffeaaGreatDoor
open Go Go.Proofs Go.RowKit Go.Lib

theorem MtxS.lens {m n : Nat} {f : Mx} {ys : List (List Tx)} {e : Int} (h : MtxS m n f ys e) (hm : m ≤ 64) (hn : n ≤ 64) : Lens ys := by
  rcases h with ⟨_, rfl, _⟩ | ⟨h1, rfl, _⟩
  · exact nil_lens
  · exact mtx_lens (by omega) (by omega) h1
theorem TxtS.lens {n : Nat} {f : Nat → Rat} {ys : List Tx} {e : Int} (h : TxtS n f ys e) (hn : n ≤ 64) : LenV ys := by
  rcases h with ⟨_, rfl, _⟩ | ⟨h1, rfl, _⟩
  · exact nil_lenv
  · exact txs_lenv (by omega) h1
theorem TraS.lens {xss ys : List (List Tx)} {e : Int} (h : TraS xss ys e) : Lens ys := by
  rcases h with ⟨_, _, rfl⟩ | ⟨h1, h2⟩
  · exact nil_lens
  · exact h2.lens h1.ok.2.2.2.1 h1.ok.2.2.1
theorem MulS.lens {xss yss ys : List (List Tx)} {e : Int} (h : MulS xss yss ys e) : Lens ys := by
  rcases h with ⟨_, _, rfl⟩ | ⟨_, _, rfl, _⟩ | ⟨h1, _, h2⟩
  · exact nil_lens
  · exact nil_lens
  · rcases h1 with ⟨h, _⟩ | ⟨h1, h1'⟩
    · exact absurd rfl h
    · exact h2.lens h1.ok.2.2.1 h1'.ok.2.2.2.1
theorem InvS.lens {xss ys : List (List Tx)} {e : Int} (h : InvS xss ys e) : Lens ys := by
  rcases h with ⟨_, _, rfl⟩ | ⟨_, _, rfl, _⟩ | ⟨h1, _, ⟨_, rfl, _⟩ | ⟨_, x, _, h2⟩⟩
  · exact nil_lens
  · exact nil_lens
  · exact nil_lens
  · exact h2.lens h1.ok.2.2.1 h1.ok.2.2.1
theorem AppS.lens {xss : List (List Tx)} {ys zs : List Tx} {e : Int} (h : AppS xss ys zs e) : LenV zs := by
  rcases h with ⟨_, _, rfl⟩ | ⟨_, _, rfl, _⟩ | ⟨h1, _, h2⟩
  · exact nil_lenv
  · exact nil_lenv
  · exact h2.lens h1.xok.2.2.1
theorem SlvS.lens {n : Nat} {f : Mx} {b : Nat → Rat} {zs : List Tx} {e : Int} (h : SlvS n f b zs e) (hn : n ≤ 64) : LenV zs := by
  rcases h with ⟨_, rfl, _⟩ | ⟨_, x, _, h2⟩
  · exact nil_lenv
  · exact h2.lens hn
theorem SolS.lens {xss : List (List Tx)} {ys zs : List Tx} {e : Int} (h : SolS xss ys zs e) : LenV zs := by
  rcases h with ⟨_, _, rfl⟩ | ⟨_, _, rfl, _⟩ | ⟨h1, _, _, h2⟩
  · exact nil_lenv
  · exact nil_lenv
  · exact h2.lens h1.xok.2.2.1
theorem LeaS.lens {xss : List (List Tx)} {ys zs : List Tx} {e : Int} (h : LeaS xss ys zs e) : LenV zs := by
  rcases h with ⟨_, _, rfl⟩ | ⟨_, _, rfl, _⟩ | ⟨h1, _, h2⟩
  · exact nil_lenv
  · exact nil_lenv
  · exact h2.lens h1.xok.2.2.2
theorem LightM.ltm {xss ls : List (List Tx)} (h : LightM xss ls) : LtM xss := ⟨by have := h.2; omega, fun i hi => by
  have := h.1 i (by rw [List.length_append]; omega)
  rwa [rw_app hi] at this⟩
theorem LightM.row {xss : List (List Tx)} {xs : List Tx} (h : LightM xss [xs]) : RowL xs := by
  have := h.1 xss.length (by rw [List.length_append, List.length_singleton]; omega)
  rwa [rw_app2] at this
theorem VOut.lit {ys : List Tx} {e : Int} {v : Value} {w : World} (h : VOut ys e v w) : ∃ a c, v = .tuple ⟨[.slice a ys.length c, .int .i64 e]⟩ ∧ Lit w (.slice a ys.length c) ys := by
  obtain ⟨a, c, h1, h2, _, h4⟩ := h
  exact ⟨a, c, h1, a, c, rfl, h2⟩
theorem IdR.out {n : Int} {v : Value} {w : World} (h : IdR n v w) : ∃ a c ys, v = .slice a ys.length c ∧ SM w a ys ∧ Lens ys ∧ ((n < 1 ∨ 64 < n) ∧ ys = [] ∨ (1 ≤ n ∧ n ≤ 64) ∧ ys = mtx n.toNat n.toNat idn) := by
  rcases h with ⟨h1, rfl⟩ | ⟨h1, h2, a, c, rfl, h3⟩
  · exact ⟨none, 0, [], rfl, SM.nil w, nil_lens, .inl ⟨h1, rfl⟩⟩
  · exact ⟨a, c, mtx n.toNat n.toNat idn, by rw [mtx_length], h3, mtx_lens (by omega) (by omega) (fun i _ k _ => small_mono (idn_small i k) (by omega)), .inr ⟨⟨h1, h2⟩, rfl⟩⟩


section
variable {m n p : Nat} {f g : Mx}
theorem gj_mtx (hS : ∀ i, i < m → ∀ k, k < n → Small 4000 (f i k)) : (gj m (mval (mtx m n f)) n).2 = (gj m f n).2 :=
  (gj_cols (n := n) (fun i k hi hk => mtx_mval hS hi hk) n (Nat.le_refl _)).1
theorem pApply_calls (f : Mx) (y : Nat → Rat) (h0 : 0 < m) (h1 : 0 < n) (hm : m ≤ 64) (hn : n ≤ 64) (hf : ∀ i, i < m → ∀ k, k < n → Small 4000 (f i k)) (hy : ∀ i, i < n → Small 4000 (y i)) (hr : ∀ i, i < m → Small 4000 (mapp n f y i))
    (a b : Option Addr) (c d : Nat) (w : World) (hs : SM w a (mtx m n f)) (hl : Lit w (.slice b n d) (txs n y)) (ht : TabOk w) :
    Calls Tryz.prog 13 #[.slice a m c, .slice b n d] w (Ret fun v w' => (∃ a' c', v = .tuple ⟨[.slice a' m c', .int .i64 0]⟩ ∧ Lit w' (.slice a' m c') (txs m (mapp n f y))) ∧ Below w.heap.size w w') := by
  have hw : AppS (mtx m n f) (txs n y) (txs m (mapp n f y)) 0 := by
    refine .inr (.inr ⟨.inr ⟨mtx_xerr h0 h1 hm hn hf, txs_verr h1 hn hy⟩, by rw [mtx_len h0, txs_length], ?_⟩)
    rw [mtx_length, txs_length]
    exact TxtS.congr (f := mapp n f y) (.inr ⟨hr, rfl, rfl⟩) (fun i hi => by
      unfold mapp
      exact sm_congr fun t ht => by rw [mtx_mval hf hi ht, txs_vval hy ht])
  have := lApply_s (mtx m n f) (txs n y) (mtx_lens (by omega) (by omega) hf) (txs_lenv (by omega) hy) a b c d w hs hl.sl.1 ht
  rw [mtx_length, txs_length] at this
  refine this.mono ?_
  rintro e w' ⟨v, rfl, ⟨zs, e', h3, h4⟩, hB⟩
  obtain ⟨rfl, rfl⟩ := h3.uniq hw
  obtain ⟨a', c', rfl, h5⟩ := h4.lit
  rw [txs_length] at h5
  exact ⟨_, rfl, ⟨a', c', by rw [txs_length], h5⟩, hB⟩
theorem pRank_calls (f : Mx) (S : Nat) (h0 : 0 < m) (h1 : 0 < n) (hm : m ≤ 64) (hn : n ≤ 64) (hS : S ≤ 4000) (hf : ∀ i, i < m → ∀ k, k < n → Small S (f i k)) (hG : grw n S ≤ 1000000) (a : Option Addr) (c : Nat) (w : World) (hs : SM w a (mtx m n f)) :
    Calls Tryz.prog 14 #[.slice a m c] w (Ret fun v w' => v = .tuple ⟨[.int .i64 ((gj m f n).2 : Nat), .int .i64 0]⟩ ∧ Below w.heap.size w w') := by
  have hf' : ∀ i, i < m → ∀ k, k < n → Small 4000 (f i k) := fun i hi k hk => small_mono (hf i hi k hk) hS
  have hl := mtx_lens (m := m) (n := n) (by omega) (by omega) hf'
  have hw : RnkS (mtx m n f) ((gj m f n).2 : Nat) 0 := .inr ⟨mtx_xerr h0 h1 hm hn hf', rfl, by rw [mtx_length, mtx_len h0, gj_mtx hf']⟩
  have := lRank_calls (mtx m n f) S a c w hs hl.l hl.l2 hl.x (fun _ => by
    rw [mtx_length, mtx_len h0]
    exact ⟨fun i t hi ht => by rw [mtx_mval hf' hi ht]; exact hf i hi t ht, hG⟩)
  rw [mtx_length] at this
  refine this.mono ?_
  rintro e w' ⟨v, rfl, ⟨r, e', rfl, h3⟩, hB⟩
  obtain ⟨rfl, rfl⟩ := h3.uniq hw
  exact ⟨_, rfl, rfl, hB⟩
end
/-- What the solver answers at numbers. -/
def SolvedR (n : Nat) (f : Mx) (b : Nat → Rat) (v : Value) (w : World) : Prop :=
  ((gj n f n).2 ≠ n ∧ ∃ a c, v = .tuple ⟨[.slice a 0 c, .int .i64 17]⟩) ∨
  ((gj n f n).2 = n ∧ ∃ x a c, (∀ i, i < n → mapp n f x i = b i) ∧ (∀ i, i < n → Small 4000 (x i)) ∧ v = .tuple ⟨[.slice a n c, .int .i64 0]⟩ ∧ Lit w (.slice a n c) (txs n x))
theorem SlvS.solved {n : Nat} {f : Mx} {b : Nat → Rat} {zs : List Tx} {e : Int} {v : Value} {w : World} (h : SlvS n f b zs e) (ho : VOut zs e v w) (hsol : ∀ x, (∀ i, i < n → mapp n f x i = b i) → (gj n f n).2 = n → ∀ i, i < n → Small 4000 (x i)) : SolvedR n f b v w := by
  obtain ⟨a, c, rfl, hl⟩ := ho.lit
  rcases h with ⟨h1, rfl, rfl⟩ | ⟨h1, x, h2, h3⟩
  · exact .inl ⟨h1, a, c, rfl⟩
  · have hs := hsol x h2 h1
    rcases h3 with ⟨⟨i, hi, h4⟩, _⟩ | ⟨_, rfl, rfl⟩
    · exact absurd (hs i hi) h4
    · rw [txs_length] at hl ⊢
      exact .inr ⟨h1, x, a, c, h2, hs, rfl, hl⟩
theorem pLeast_calls {m n : Nat} (f : Mx) (y : Nat → Rat) (S R : Nat) (h0 : 0 < m) (h1 : 0 < n) (hm : m ≤ 64) (hn : n ≤ 64) (hS : S ≤ R) (hR : R ≤ 4000) (hf : ∀ i, i < m → ∀ k, k < n → Small S (f i k)) (hy : ∀ i, i < m → Small R (y i))
    (hK : m * (2 * R + 1) + 1 ≤ 1000000) (hG : grw n (m * (S + R + 1) + 1) ≤ 1000000)
    (hsol : ∀ x, (∀ i, i < n → mapp n (mmul m (trp f) f) x i = mapp m (trp f) y i) → (gj n (mmul m (trp f) f) n).2 = n → ∀ i, i < n → Small 4000 (x i)) (a b_ : Option Addr) (c d : Nat) (w : World) (hs : SM w a (mtx m n f)) (hl : Lit w (.slice b_ m d) (txs m y)) (ht : TabOk w) :
    Calls Tryz.prog 17 #[.slice a m c, .slice b_ m d] w (Ret fun v w' => SolvedR n (mmul m (trp f) f) (mapp m (trp f) y) v w' ∧ Below w.heap.size w w') := by
  have hf' : ∀ i, i < m → ∀ k, k < n → Small 4000 (f i k) := fun i hi k hk => small_mono (hf i hi k hk) (by omega)
  have hy' : ∀ i, i < m → Small 4000 (y i) := fun i hi => small_mono (hy i hi) hR
  have hlm := mtx_lens (m := m) (n := n) (by omega) (by omega) hf'
  have hlv := txs_lenv (n := m) (by omega) hy'
  have := lLeast_calls (mtx m n f) (txs m y) S R a b_ c d w hs hlm.l hlm.l2 hlm.x hl.sl.1 hlv.l hlv.x ht (fun _ => by
    rw [mtx_length, mtx_len h0, txs_length]
    exact ⟨hS, fun i t hi ht => by rw [mtx_mval hf' hi ht]; exact hf i hi t ht, fun i hi => by rw [txs_vval hy' hi]; exact hy i hi, hK, hG⟩)
  rw [mtx_length, txs_length] at this
  refine this.mono ?_
  rintro e w' ⟨v, rfl, ⟨zs, e', h3, h4⟩, hB⟩
  refine ⟨_, rfl, ?_, hB⟩
  have hE : BErr (mtx m n f) (txs m y) 0 := .inr ⟨mtx_xerr h0 h1 hm hn hf', txs_verr h0 hm hy'⟩
  rcases h3 with ⟨h5, h6, _⟩ | ⟨_, h6, _⟩ | ⟨_, _, h6⟩
  · exact absurd (h6.uniq hE) h5
  · rw [mtx_length, txs_length] at h6; omega
  · rw [mtx_length, mtx_len h0] at h6
    refine (h6.congr (g := mmul m (trp f) f) (c := mapp m (trp f) y) (fun i hi k hk => ?_) (fun i hi => ?_)).solved h4 hsol
    · unfold mmul trp
      exact sm_congr fun t ht => by rw [mtx_mval hf' ht hi, mtx_mval hf' ht hk]
    · unfold mapp trp
      exact sm_congr fun t ht => by rw [mtx_mval hf' ht hi, txs_vval hy' ht]
end Go.Proofs.YtfdekppnilffeaaGreatDoor
end
section
set_option linter.unusedSimpArgs false
set_option linter.unusedVariables false
set_option maxHeartbeats 2000000
namespace Go.Proofs.YtfdekppnilffeaaGreatDoor
open Go Go.Proofs Go.RowKit Go.Lib

theorem txs_upd (k : Nat) (y : Nat → Rat) (q : Rat) : txs (k + 1) (upd y k q) = txs k y ++ [qtext q] := by
  rw [txs_snoc, upd_same]
  congr 1
  exact txs_congr fun i hi => upd_ne _ _ (by omega)
theorem mtx_upd (i n : Nat) (F : Mx) (y : Nat → Rat) : mtx (i + 1) n (upd F i y) = mtx i n F ++ [txs n y] := by
  unfold mtx
  rw [List.range_succ, List.map_append, List.map_singleton, upd_same]
  congr 1
  apply List.map_congr_left
  intro j hj
  have := List.mem_range.1 hj
  rw [upd_ne _ _ (by omega)]
theorem small_upd {K k : Nat} {y : Nat → Rat} {q : Rat} (h : ∀ i, i < k → Small K (y i)) (hq : Small K q) : ∀ i, i < k + 1 → Small K (upd y k q i) := fun i hi => by
  by_cases e : i = k
  · subst e; rw [upd_same]; exact hq
  · rw [upd_ne _ _ e]; exact h i (by omega)

/-- A new list of rows of texts whose places reach over their texts. -/
def OwnMC (w : World) (B : Nat) (a : Option Addr) (c : Nat) (xss : List (List Tx)) : Prop := ∃ A C, w.ownsRow B 23 1 (.slice a xss.length c) xss.length (srws xss A C) ∧ (∀ i, i < xss.length → Sl w (A i) (strs (rw' xss i)) ∧ ∀ g, ab (A i) = some g → Tg w 34 g) ∧ ∀ i, i < xss.length → (rw' xss i).length ≤ C i
/-- A list of rows of texts whose places reach over their texts. -/
def SMC (w : World) (a : Option Addr) (xss : List (List Tx)) : Prop := ∃ A C, Sl w a (srws xss A C) ∧ (∀ i, i < xss.length → Sl w (A i) (strs (rw' xss i))) ∧ ∀ i, i < xss.length → (rw' xss i).length ≤ C i
theorem SMC.sm {w : World} {a : Option Addr} {xss : List (List Tx)} (h : SMC w a xss) : SM w a xss := by
  obtain ⟨A, C, h1, h2, _⟩ := h
  exact ⟨A, C, h1, h2⟩
theorem SMC.stay {w w' : World} {a : Option Addr} {xss : List (List Tx)} (h : SMC w a xss) (hb : Below w.heap.size w w') : SMC w' a xss := by
  obtain ⟨A, C, h1, h2, h3⟩ := h
  exact ⟨A, C, h1.stay hb, fun i hi => (h2 i hi).stay hb, h3⟩
theorem OwnMC.smc {w : World} {B : Nat} {a : Option Addr} {c : Nat} {xss : List (List Tx)} (h : OwnMC w B a c xss) : SMC w a xss := by
  obtain ⟨A, C, h1, h2, h3⟩ := h
  exact ⟨A, C, own_sl h1, fun i hi => (h2 i hi).1, h3⟩
theorem OwnMC.nil (w : World) (B : Nat) : OwnMC w B none 0 [] := ⟨fun _ => none, fun _ => 0, ⟨rfl, .inl ⟨rfl, rfl⟩⟩, fun i hi => absurd hi (by simp), fun i hi => absurd hi (by simp)⟩
theorem OwnMC.stay {w w' : World} {B : Nat} {a : Option Addr} {c : Nat} {xss : List (List Tx)} (h : OwnMC w B a c xss) (hb : Below w.heap.size w w') : OwnMC w' B a c xss := by
  obtain ⟨A, C, h1, h2, h3⟩ := h
  exact ⟨A, C, own_bw h1 hb, fun i hi => ⟨(h2 i hi).1.below hb (fun g hg => ((h2 i hi).2 g hg).lt), fun g hg => ((h2 i hi).2 g hg).below hb⟩, h3⟩
theorem OwnMC.snoc {w w' : World} {B : Nat} {a a' b : Option Addr} {c c' d : Nat} {xss : List (List Tx)} {xs : List Tx} {A : Nat → Option Addr} {C : Nat → Nat}
    (ho : w.ownsRow B 23 1 (.slice a xss.length c) xss.length (srws xss A C)) (h2 : ∀ i, i < xss.length → Sl w (A i) (strs (rw' xss i)) ∧ ∀ g, ab (A i) = some g → Tg w 34 g)
    (h3 : ∀ i, i < xss.length → (rw' xss i).length ≤ C i)
    (hb : Sl w b (strs xs)) (hbt : ∀ g, ab b = some g → Tg w 34 g) (hd : xs.length ≤ d) (hg : w.grownBy w' (ab a)) (ho' : w'.ownsRow B 23 1 (.slice a' (xss.length + 1) c') (xss.length + 1) (srws xss A C ++ [.slice b xs.length d])) : OwnMC w' B a' c' (xss ++ [xs]) := by
  have key : ∀ (b : Option Addr) (vs : List Value), Sl w b vs → (∀ g, ab b = some g → Tg w 34 g) → Sl w' b vs ∧ ∀ g, ab b = some g → Tg w' 34 g := fun b vs h1 h2 =>
    have hne : ∀ g, ab b = some g → ab a ≠ some g := fun g hg e => (h2 g hg).ne (own_tag ho g e) rfl rfl
    ⟨h1.keep hg hne, fun q hq => (h2 q hq).grown hg (hne q hq)⟩
  rw [srws_snoc] at ho'
  refine ⟨_, _, by rw [List.length_append, List.length_singleton]; exact ho', fun i hi => ?_, fun i hi => ?_⟩
  · rw [List.length_append, List.length_singleton] at hi
    by_cases h : i = xss.length
    · subst h; rw [upd_same, rw_app2]; exact key b _ hb hbt
    · rw [upd_ne _ _ h, rw_app1 (by omega)]; exact key _ _ (h2 i (by omega)).1 (h2 i (by omega)).2
  · rw [List.length_append, List.length_singleton] at hi
    by_cases h : i = xss.length
    · subst h; rw [upd_same, rw_app2]; exact hd
    · rw [upd_ne _ _ h, rw_app1 (by omega)]; exact h3 i (by omega)
theorem own_cap {w : World} {base e : Nat} {a : Option Addr} {m c : Nat} {cs : List Value} (h : w.ownsRow base e 1 (.slice a m c) m cs) : m ≤ c := by
  by_cases hm : 0 < m
  · obtain ⟨_, _, _, _, _, _, _, h⟩ := own_bk h hm
    exact h
  · omega

theorem square_calls (xss : List (List Tx)) (n : Nat) (hn : n ≤ 64) (a : Option Addr) (c : Nat) (w : World) (hs : SM w a xss) (hf : FitM xss 0) :
    Calls Tryz.prog 11 #[.slice a xss.length c, .int .i64 (n : Nat)] w (Ret fun v w' => (v = .tuple ⟨[.slice none 0 0, .bool false]⟩ ∨ (∃ (F : Mx) (a' : Option Addr) (c' : Nat), (∀ i, i < n → ∀ k, k < n → Small 12 (F i k)) ∧ v = .tuple ⟨[.slice a' n c', .bool true]⟩ ∧ SMC w' a' (mtx n n F))) ∧ Below w.heap.size w w') := by
  have hs0 := hs
  obtain ⟨A, C, hSl, hR⟩ := hs0
  refine enter Tryz.func11 rfl Tryz.ntmps11 (Nat.le_of_ble_eq_true rfl) ?_
  refine dr U 600 rfl trivial ?_
  refine call (f := 32) rfl rfl cb32 (xlight_calls xss [] a none c 0 w hs (SM.nil _) ⟨by have := hf.l; simp only [List.length_nil]; omega, hf.r⟩ (fun i hi => absurd hi (by simp))) ?_
  rintro v w0 ⟨⟨q, rfl, hq⟩, hB0⟩
  refine ⟨_, rfl, ?_⟩
  cases q with
  | false =>
    refine dr U 600 rfl trivial ?_
    exact ret Tryz.results11 rfl ⟨_, rfl, .inl rfl, hB0⟩
  | true =>
  have hL := (hq.1 rfl).ltm
  refine dr U 600 rfl trivial ?_
  refine loopR (fun fr w' mm => ∃ (i : Nat) (a2 : Option Addr) (c2 : Nat) (F : Mx), fr = [(0, .slice a xss.length c), (1, .int .i64 (n : Nat)), (6, .slice a2 i c2), (7, .int .i64 (i : Nat))] ∧ i ≤ n ∧ OwnMC w' w.heap.size a2 c2 (mtx i n F) ∧ (∀ j, j < i → ∀ k, k < n → Small 12 (F j k)) ∧ Below w.heap.size w w' ∧ mm = n - i)
    ⟨0, none, 0, fun _ _ => 0, rfl, by omega, OwnMC.nil _ _, fun j hj => absurd hj (by omega), hB0, rfl⟩ ⟨rfl, rfl, rfl, rfl, trivial⟩ ?_
  rintro fr w1 mm ⟨i, a2, c2, F, rfl, hi, hO, hF, hB, rfl⟩
  refine dr U 600 rfl trivial ?_
  refine cS rfl rfl rfl rfl (fun hq => ?_) (fun hq => ?_)
  · have hin : i < n := by omega
    refine dr U 600 rfl trivial ?_
    refine loopR (fun fr w' mm => ∃ (k : Nat) (a3 : Option Addr) (c3 : Nat) (y : Nat → Rat), fr = [(0, .slice a xss.length c), (1, .int .i64 (n : Nat)), (6, .slice a2 i c2), (7, .int .i64 (i : Nat)), (8, .slice a3 k c3), (9, .int .i64 (k : Nat))] ∧ k ≤ n ∧ w'.ownsRow w1.heap.size 34 1 (.slice a3 k c3) k (strs (txs k y)) ∧ (∀ j, j < k → Small 12 (y j)) ∧ Below w1.heap.size w1 w' ∧ mm = n - k)
      ⟨0, none, 0, fun _ => 0, rfl, by omega, ⟨rfl, .inl ⟨rfl, rfl⟩⟩, fun j hj => absurd hj (by omega), Below.refl _ _, rfl⟩ ⟨rfl, rfl, rfl, rfl, rfl, rfl, trivial⟩ ?_
    rintro fr w2 mm ⟨k, a3, c3, y, rfl, hk, ho3, hy, hB12, rfl⟩
    have hB2 := bl_tr hB hB12 hB.size
    refine dr U 600 rfl trivial ?_
    refine cS rfl rfl rfl rfl (fun hq => ?_) (fun hq => ?_)
    · have hkn : k < n := by omega
      refine dr U 600 rfl trivial ?_
      refine cS rfl rfl rfl rfl (fun hq1 => ?_) (fun hq1 => ?_)
      · have hil : i < xss.length := by omega
        have hRi := hL.2 i hil
        refine dr U 600 rfl trivial ?_
        refine il U rfl rfl rfl rfl rfl rfl rfl (fun _ => rfl) rfl i rfl hil (hSl.stay hB2) (srws_get hil) ?_
        refine dr U 600 rfl trivial ?_
        refine cS rfl rfl rfl rfl (fun hq2 => ?_) (fun hq2 => ?_)
        · have hkl : k < (rw' xss i).length := by omega
          have hlt := hRi.2 k hkl
          refine dr U 600 rfl trivial ?_
          refine il U rfl rfl rfl rfl rfl rfl rfl (fun _ => rfl) rfl i rfl hil (hSl.stay hB2) (srws_get hil) ?_
          refine dr U 600 rfl trivial ?_
          refine il U rfl rfl rfl rfl rfl rfl rfl (fun _ => rfl) rfl k rfl hkl ((hR i hil).stay hB2) (getS hkl) ?_
          refine call (f := 43) rfl rfl cb43 (rcheck_calls ((rw' xss i).getD k []) (by omega) w2) ?_
          rintro v w3 ⟨⟨e, rfl, he⟩, hB3⟩
          have hB13 := bl_tr hB12 hB3 hB12.size
          have hB3' := bl_tr hB2 hB3 hB2.size
          have ho4 := own_bw ho3 hB3
          refine ⟨_, rfl, ?_⟩
          refine cS rfl rfl rfl rfl (fun hq3 => ?_) (fun hq3 => ?_)
          · subst hq3
            refine dr U 600 rfl trivial ?_
            refine il U rfl rfl rfl rfl rfl rfl rfl (fun _ => rfl) rfl i rfl hil (hSl.stay hB3') (srws_get hil) ?_
            refine dr U 600 rfl trivial ?_
            refine il U rfl rfl rfl rfl rfl rfl rfl (fun _ => rfl) rfl k rfl hkl ((hR i hil).stay hB3') (getS hkl) ?_
            refine dr U 600 rfl trivial ?_
            refine ap U (v := (.string ⟨⟨(rw' xss i).getD k []⟩⟩)) rfl rfl rfl rfl rfl rfl (fun _ => rfl) rfl (fun _ => rfl) rfl rfl rfl ho4 hB13.size (by omega) (by decide) ?_
            intro a5 c5 w5 ho5 hg5
            have hB5 := hB13.grown hg5 hB13.size (fun g e => (own_block ho4 g e).1)
            have e5 : strs (txs k y) ++ [Value.string ⟨⟨(rw' xss i).getD k []⟩⟩] = strs (txs (k + 1) (upd y k (qval ((rw' xss i).getD k [])))) := by
              rw [txs_upd, q_text_back he, strs, strs, List.map_append]; rfl
            rw [e5] at ho5
            refine dr U 600 rfl (by first | exact True.intro | (simp only [AllP, InR, List.nil_append, List.cons_append, and_true]; omega)) ?_
            exact rend _ _ ⟨k + 1, a5, c5, _, rfl, by omega, ho5, small_upd hy (q_len_small he hlt), hB5, rfl⟩ (by omega) ⟨rfl, rfl, rfl, rfl, rfl, iv (by omega), trivial⟩
          · refine dr U 600 rfl trivial ?_
            refine ap U (v := (.string ⟨⟨[48]⟩⟩)) rfl rfl rfl rfl rfl rfl (fun _ => rfl) rfl (fun _ => rfl) rfl rfl rfl ho4 hB13.size (by omega) (by decide) ?_
            intro a5 c5 w5 ho5 hg5
            have hB5 := hB13.grown hg5 hB13.size (fun g e => (own_block ho4 g e).1)
            have e5 : strs (txs k y) ++ [Value.string ⟨⟨[48]⟩⟩] = strs (txs (k + 1) (upd y k 0)) := by
              rw [txs_upd, qtext_zero, strs, strs, List.map_append]; rfl
            rw [e5] at ho5
            refine dr U 600 rfl (by first | exact True.intro | (simp only [AllP, InR, List.nil_append, List.cons_append, and_true]; omega)) ?_
            exact rend _ _ ⟨k + 1, a5, c5, _, rfl, by omega, ho5, small_upd hy (small_mono small_zero (by omega)), hB5, rfl⟩ (by omega) ⟨rfl, rfl, rfl, rfl, rfl, iv (by omega), trivial⟩
        · refine dr U 600 rfl trivial ?_
          refine ap U (v := (.string ⟨⟨[48]⟩⟩)) rfl rfl rfl rfl rfl rfl (fun _ => rfl) rfl (fun _ => rfl) rfl rfl rfl ho3 hB12.size (by omega) (by decide) ?_
          intro a5 c5 w5 ho5 hg5
          have hB5 := hB12.grown hg5 hB12.size (fun g e => (own_block ho3 g e).1)
          have e5 : strs (txs k y) ++ [Value.string ⟨⟨[48]⟩⟩] = strs (txs (k + 1) (upd y k 0)) := by
            rw [txs_upd, qtext_zero, strs, strs, List.map_append]; rfl
          rw [e5] at ho5
          refine dr U 600 rfl (by first | exact True.intro | (simp only [AllP, InR, List.nil_append, List.cons_append, and_true]; omega)) ?_
          exact rend _ _ ⟨k + 1, a5, c5, _, rfl, by omega, ho5, small_upd hy (small_mono small_zero (by omega)), hB5, rfl⟩ (by omega) ⟨rfl, rfl, rfl, rfl, rfl, iv (by omega), trivial⟩
      · refine dr U 600 rfl trivial ?_
        refine ap U (v := (.string ⟨⟨[48]⟩⟩)) rfl rfl rfl rfl rfl rfl (fun _ => rfl) rfl (fun _ => rfl) rfl rfl rfl ho3 hB12.size (by omega) (by decide) ?_
        intro a5 c5 w5 ho5 hg5
        have hB5 := hB12.grown hg5 hB12.size (fun g e => (own_block ho3 g e).1)
        have e5 : strs (txs k y) ++ [Value.string ⟨⟨[48]⟩⟩] = strs (txs (k + 1) (upd y k 0)) := by
          rw [txs_upd, qtext_zero, strs, strs, List.map_append]; rfl
        rw [e5] at ho5
        refine dr U 600 rfl (by first | exact True.intro | (simp only [AllP, InR, List.nil_append, List.cons_append, and_true]; omega)) ?_
        exact rend _ _ ⟨k + 1, a5, c5, _, rfl, by omega, ho5, small_upd hy (small_mono small_zero (by omega)), hB5, rfl⟩ (by omega) ⟨rfl, rfl, rfl, rfl, rfl, iv (by omega), trivial⟩
    · obtain rfl : n = k := by omega
      have hO2 := hO.stay hB12
      obtain ⟨A2, C2, ho2, h2, hc2⟩ := hO2
      rw [mtx_length] at ho2
      refine dr U 600 rfl trivial ?_
      refine ap U (v := (.slice a3 n c3)) rfl rfl rfl rfl rfl rfl (fun _ => rfl) rfl (fun _ => rfl) rfl rfl rfl ho2 hB2.size (by omega) (by decide) ?_
      intro a5 c5 w5 ho5 hg5
      have hB5 := hB2.grown hg5 hB2.size (fun g e => (own_block ho2 g e).1)
      have hO5 := OwnMC.snoc (xss := mtx i n F) (xs := txs n y) (a := a2) (c := c2) (d := c3) (by rw [mtx_length]; exact ho2) h2 hc2 (own_sl ho3) (own_tag ho3) (by rw [txs_length]; exact own_cap ho3) hg5 (by rw [mtx_length, txs_length]; exact ho5)
      rw [← mtx_upd] at hO5
      refine dr U 600 rfl (by first | exact True.intro | (simp only [AllP, InR, List.nil_append, List.cons_append, and_true]; omega)) ?_
      refine rend _ _ ⟨i + 1, a5, c5, _, rfl, by omega, hO5, fun j hj k hk => ?_, hB5, rfl⟩ (by omega) ⟨rfl, rfl, rfl, iv (by omega), trivial⟩
      by_cases e : j = i
      · subst e; rw [upd_same]; exact hy k hk
      · rw [upd_ne _ _ e]; exact hF j (by omega) k hk
  · obtain rfl : n = i := by omega
    have hS := hO.smc
    refine dr U 600 rfl trivial ?_
    exact ret Tryz.results11 rfl ⟨_, rfl, .inr ⟨F, a2, c2, hF, rfl, hS⟩, hB⟩

theorem strs_take (xs : List Tx) (m : Nat) : (strs xs).take m = strs (xs.take m) := by unfold strs; rw [List.map_take]
theorem txs_take {n m : Nat} (f : Nat → Rat) (h : m ≤ n) : (txs n f).take m = txs m f := by
  unfold txs
  rw [← List.map_take, List.take_range, Nat.min_eq_left h]
theorem tall_calls (n m : Nat) (F : Mx) (hn : n ≤ 64) (hm : m ≤ n) (a : Option Addr) (c : Nat) (hc : n ≤ 64) (w : World) (A C) (hSl : Sl w a (srws (mtx n n F) A C)) (hR : ∀ i, i < n → Sl w (A i) (strs (txs n (F i)))) (hC : ∀ i, i < n → n ≤ C i) :
    Calls Tryz.prog 16 #[.slice a n c, .int .i64 (m : Nat)] w (Ret fun v w' => (∃ a' c', v = .slice a' n c' ∧ SM w' a' (mtx n m F)) ∧ Below w.heap.size w w') := by
  refine enter Tryz.func16 rfl Tryz.ntmps16 (Nat.le_of_ble_eq_true rfl) ?_
  refine dr U 600 rfl trivial ?_
  refine loopR (fun fr w' mm => ∃ (i : Nat) (a2 : Option Addr) (c2 : Nat), fr = [(0, .slice a n c), (1, .int .i64 (m : Nat)), (5, .slice a2 i c2), (6, .int .i64 (i : Nat))] ∧ i ≤ n ∧ OwnM w' w.heap.size a2 c2 (mtx i m F) ∧ Below w.heap.size w w' ∧ mm = n - i)
    ⟨0, none, 0, rfl, by omega, OwnM.nil _ _, Below.refl _ _, rfl⟩ ⟨rfl, rfl, rfl, rfl, trivial⟩ ?_
  rintro fr w1 mm ⟨i, a2, c2, rfl, hi, hO, hB, rfl⟩
  refine dr U 600 rfl trivial ?_
  refine cS rfl rfl rfl rfl (fun hq => ?_) (fun hq => ?_)
  · have hin : i < n := by omega
    have hCi := hC i hin
    have hg := srws_get (xss := mtx n n F) (A := A) (C := C) (i := i) (by rw [mtx_length]; exact hin)
    rw [mtx_len hin] at hg
    refine dr U 600 rfl trivial ?_
    refine il U rfl rfl rfl rfl rfl rfl rfl (fun _ => rfl) rfl i rfl hin (hSl.stay hB) hg ?_
    refine dr U 600 rfl (by first | exact True.intro | (simp only [AllP, InR, List.nil_append, List.cons_append, and_true]; omega)) ?_
    simp only [Int.toNat_natCast]
    have ht := (hR i hin).take m
    rw [strs_take, txs_take _ hm] at ht
    have hcall := nown_calls (txs m (F i)) (A i) (C i) w1 (ht.stay hB) (by rw [txs_length]; omega)
    rw [txs_length] at hcall
    refine call (f := 28) rfl rfl cb28 hcall ?_
    rintro v w2 ⟨⟨a3, c3, rfl, ho3⟩, hB2⟩
    have hB2' := bl_tr hB hB2 hB.size
    have hO2 := hO.stay hB2
    obtain ⟨A2, C2, ho2, h2⟩ := hO2
    rw [mtx_length] at ho2
    refine ⟨_, rfl, ?_⟩
    refine ap U (v := (.slice a3 m c3)) rfl rfl rfl rfl rfl rfl (fun _ => rfl) rfl (fun _ => rfl) rfl rfl rfl ho2 hB2'.size (by omega) (by decide) ?_
    intro a5 c5 w5 ho5 hg5
    have hB5 := hB2'.grown hg5 hB2'.size (fun g e => (own_block ho2 g e).1)
    have hO5 := OwnM.snoc (xss := mtx i m F) (xs := txs m (F i)) (a := a2) (c := c2) (d := c3) (by rw [mtx_length]; exact ho2) h2 (own_sl ho3) (own_tag ho3) hg5 (by rw [mtx_length, txs_length]; exact ho5)
    have e5 : mtx i m F ++ [txs m (F i)] = mtx (i + 1) m F := by
      rw [← mtx_upd]
      exact mtx_congr fun j hj k hk => by
        by_cases e : j = i
        · subst e; rw [upd_same]
        · rw [upd_ne _ _ e]
    rw [e5] at hO5
    refine dr U 600 rfl (by first | exact True.intro | (simp only [AllP, InR, List.nil_append, List.cons_append, and_true]; omega)) ?_
    exact rend _ _ ⟨i + 1, a5, c5, rfl, by omega, hO5, hB5, rfl⟩ (by omega) ⟨rfl, rfl, rfl, iv (by omega), trivial⟩
  · obtain rfl : n = i := by omega
    have hS := hO.sm
    refine dr U 600 rfl trivial ?_
    exact ret Tryz.results16 rfl ⟨_, rfl, ⟨a2, c2, rfl, hS⟩, hB⟩
/-- What square answers, told by its second result. -/
def SqC (n : Nat) (v : Value) (ok : Bool) (w : World) : Prop := ok = true → ∃ (F : Mx) (a : Option Addr) (c : Nat), (∀ i, i < n → ∀ k, k < n → Small 12 (F i k)) ∧ v = .slice a n c ∧ SMC w a (mtx n n F)
theorem SqC.stay {n : Nat} {v : Value} {ok : Bool} {w w' : World} (h : SqC n v ok w) (hb : Below w.heap.size w w') : SqC n v ok w' := fun e => by
  obtain ⟨F, a, c, h1, h2, h3⟩ := h e
  exact ⟨F, a, c, h1, h2, h3.stay hb⟩
theorem sqc_of {n : Nat} {v : Value} {w : World} (h : v = .tuple ⟨[.slice none 0 0, .bool false]⟩ ∨ (∃ (F : Mx) (a' : Option Addr) (c' : Nat), (∀ i, i < n → ∀ k, k < n → Small 12 (F i k)) ∧ v = .tuple ⟨[.slice a' n c', .bool true]⟩ ∧ SMC w a' (mtx n n F))) :
    ∃ (v' : Value) (ok : Bool), v = .tuple ⟨[v', .bool ok]⟩ ∧ SqC n v' ok w := by
  rcases h with rfl | ⟨F, a', c', h1, rfl, h2⟩
  · exact ⟨_, _, rfl, fun h => by cases h⟩
  · exact ⟨_, _, rfl, fun _ => ⟨F, a', c', h1, rfl, h2⟩⟩
theorem SM.rows {w : World} {a : Option Addr} {m n : Nat} {f : Mx} (h : SM w a (mtx m n f)) : ∃ A C, Sl w a (srws (mtx m n f) A C) ∧ ∀ i, i < m → Lit w (.slice (A i) n (C i)) (txs n (f i)) := by
  obtain ⟨A, C, h1, h2⟩ := h
  refine ⟨A, C, h1, fun i hi => ⟨A i, C i, by rw [txs_length], ?_⟩⟩
  have := h2 i (by rw [mtx_length]; exact hi)
  rwa [mtx_row hi] at this
theorem srws_at {m n i : Nat} {f : Mx} {A : Nat → Option Addr} {C : Nat → Nat} (h : i < m) : (srws (mtx m n f) A C)[i]? = some (.slice (A i) n (C i)) := by
  rw [srws_get (by rw [mtx_length]; exact h), mtx_len h]
theorem fitm_one {vs : List Tx} (h : vs.length ≤ 8796093022208) : FitM [vs] 0 := ⟨by simp, fun i hi => by
  have h0 : i = 0 := by simpa using hi
  subst h0; exact h⟩
end Go.Proofs.YtfdekppnilffeaaGreatDoor
end
