/-
  Walks of the law package's square and tall.
  Conditions: what is copied fits into memory.

  Walk of the statements' Pick; digits of powers.
  Conditions: the number of choices is at least 1.

  What the solver answers at small systems of numbers.
  Conditions: each theorem names its own.

  The reference's solver at numbers; the sizes that a strategy's systems ask.
  Conditions: each theorem names its own.

  Plain parts of the walks of fit and Spread: right sides as they are filled, rows of the normal matrix in memory.
  No conditions: each theorem names its own premises.

  Numbers' texts under the reference's arithmetic; inverses and ranks of small matrices.
  Conditions: each theorem names its own.
-/
import Derived.Test.YtejlpdbiacmfcaaGreatDoorYTab
import Derived.Test.YtejlpdbiacmfcaaGreatDoorYNumD
import Derived.Test.YtejlpdbiacmfcaaGreatDoorYRC
import Derived.Test.YtejlpdbiacmfcaaGreatDoorYNb
import Derived.Test.YtejlpdbiacmfcaaGreatDoorYNd
import Derived.Test.YtejlpdbiacmfcaaGreatDoorYNg
section
set_option linter.unusedSimpArgs false
set_option linter.unusedVariables false
set_option maxHeartbeats 2000000
namespace Go.Proofs.YtejlpdbiacmfcaaGreatDoor
open Go Go.Proofs Go.RowKit Go.Lib

/-- A new list of rows of texts whose places reach over their texts. -/
def OwnMC (w : World) (B : Nat) (a : Option Addr) (c : Nat) (xss : List (List Tx)) : Prop := ∃ A C, w.ownsRow B 29 1 (.slice a xss.length c) xss.length (srws xss A C) ∧ (∀ i, i < xss.length → Sl w (A i) (strs (rw' xss i)) ∧ ∀ g, ab (A i) = some g → Tg w 35 g) ∧ ∀ i, i < xss.length → (rw' xss i).length ≤ C i
/-- A list of rows of texts whose places reach over their texts. -/
def SMC (w : World) (a : Option Addr) (xss : List (List Tx)) : Prop := ∃ A C, Sl w a (srws xss A C) ∧ (∀ i, i < xss.length → Sl w (A i) (strs (rw' xss i))) ∧ ∀ i, i < xss.length → (rw' xss i).length ≤ C i
theorem SMC.sm {w : World} {a : Option Addr} {xss : List (List Tx)} (h : SMC w a xss) : SM w a xss := by
  obtain ⟨A, C, h1, h2, _⟩ := h
  exact ⟨A, C, h1, h2⟩
theorem SMC.stay {w w' : World} {a : Option Addr} {xss : List (List Tx)} (h : SMC w a xss) (hb : Below w.heap.size w w') : SMC w' a xss := by
  obtain ⟨A, C, h1, h2, h3⟩ := h
  exact ⟨A, C, h1.stay hb, fun i hi => (h2 i hi).stay hb, h3⟩
theorem OwnMC.nil (w : World) (B : Nat) : OwnMC w B none 0 [] := ⟨fun _ => none, fun _ => 0, ⟨rfl, .inl ⟨rfl, rfl⟩⟩, fun i hi => absurd hi (by simp), fun i hi => absurd hi (by simp)⟩
theorem OwnMC.stay {w w' : World} {B : Nat} {a : Option Addr} {c : Nat} {xss : List (List Tx)} (h : OwnMC w B a c xss) (hb : Below w.heap.size w w') : OwnMC w' B a c xss := by
  obtain ⟨A, C, h1, h2, h3⟩ := h
  exact ⟨A, C, own_bw h1 hb, fun i hi => ⟨(h2 i hi).1.below hb (fun g hg => ((h2 i hi).2 g hg).lt), fun g hg => ((h2 i hi).2 g hg).below hb⟩, h3⟩
theorem OwnMC.snoc {w w' : World} {B : Nat} {a a' b : Option Addr} {c c' d : Nat} {xss : List (List Tx)} {xs : List Tx} {A : Nat → Option Addr} {C : Nat → Nat}
    (ho : w.ownsRow B 29 1 (.slice a xss.length c) xss.length (srws xss A C)) (h2 : ∀ i, i < xss.length → Sl w (A i) (strs (rw' xss i)) ∧ ∀ g, ab (A i) = some g → Tg w 35 g)
    (h3 : ∀ i, i < xss.length → (rw' xss i).length ≤ C i)
    (hb : Sl w b (strs xs)) (hbt : ∀ g, ab b = some g → Tg w 35 g) (hd : xs.length ≤ d) (hg : w.grownBy w' (ab a)) (ho' : w'.ownsRow B 29 1 (.slice a' (xss.length + 1) c') (xss.length + 1) (srws xss A C ++ [.slice b xs.length d])) : OwnMC w' B a' c' (xss ++ [xs]) := by
  have key : ∀ (b : Option Addr) (vs : List Value), Sl w b vs → (∀ g, ab b = some g → Tg w 35 g) → Sl w' b vs ∧ ∀ g, ab b = some g → Tg w' 35 g := fun b vs h1 h2 =>
    have hne : ∀ g, ab b = some g → ab a ≠ some g := fun g hg e => (h2 g hg).ne (own_tag ho g e) rfl rfl
    ⟨h1.keep hg hne, fun q hq => (h2 q hq).grown hg (hne q hq)⟩
  rw [srws_snoc] at ho'
  refine ⟨_, _, by rw [List.length_append, List.length_singleton]; exact ho', fun i hi => ?_, fun i hi => ?_⟩
  · rw [List.length_append, List.length_singleton] at hi
    by_cases h : i = xss.length
    · subst h; rw [upd_same, rw_app2]; exact key b _ hb hbt
    · rw [upd_ne _ _ h, rw_app1 (by omega)]; exact key _ _ (h2 i (by omega)).1 (h2 i (by omega)).2
  · rw [List.length_append, List.length_singleton] at hi
    by_cases h : i = xss.length
    · subst h; rw [upd_same, rw_app2]; exact hd
    · rw [upd_ne _ _ h, rw_app1 (by omega)]; exact h3 i (by omega)
/-- What square answers, told by its second result. -/
def SqC (n : Nat) (v : Value) (ok : Bool) (w : World) : Prop := ok = true → ∃ (F : Mx) (a : Option Addr) (c : Nat), (∀ i, i < n → ∀ k, k < n → Small 12 (F i k)) ∧ v = .slice a n c ∧ SMC w a (mtx n n F)
theorem SqC.stay {n : Nat} {v : Value} {ok : Bool} {w w' : World} (h : SqC n v ok w) (hb : Below w.heap.size w w') : SqC n v ok w' := fun e => by
  obtain ⟨F, a, c, h1, h2, h3⟩ := h e
  exact ⟨F, a, c, h1, h2, h3.stay hb⟩
theorem SM.rows {w : World} {a : Option Addr} {m n : Nat} {f : Mx} (h : SM w a (mtx m n f)) : ∃ A C, Sl w a (srws (mtx m n f) A C) ∧ ∀ i, i < m → Lit w (.slice (A i) n (C i)) (txs n (f i)) := by
  obtain ⟨A, C, h1, h2⟩ := h
  refine ⟨A, C, h1, fun i hi => ⟨A i, C i, by rw [txs_length], ?_⟩⟩
  have := h2 i (by rw [mtx_length]; exact hi)
  rwa [mtx_row hi] at this
end Go.Proofs.YtejlpdbiacmfcaaGreatDoor
end
section
set_option linter.unusedSimpArgs false
set_option linter.unusedVariables false
set_option maxHeartbeats 1000000
namespace Go.Proofs.YtejlpdbiacmfcaaGreatDoor
open Go Go.Proofs Go.RowKit Go.Lib

theorem pick_calls (x : Int) (n : Nat) (hn : 1 ≤ n) (hn2 : n ≤ 9223372036854775807) (w : World) : Calls Tryz.prog 18 #[.int .i64 x, .int .i64 (n : Nat)] w (Ret fun v w' => (∃ r : Nat, v = .int .i64 (r : Nat) ∧ r < n) ∧ w = w') := by
  obtain ⟨h1, h2, _⟩ := tmod_range x n (by omega)
  refine enter Tryz.func18 rfl Tryz.ntmps18 (Nat.le_of_ble_eq_true rfl) ?_
  first | (refine dr U 4 rfl trivial ?_; refine rem1 rfl rfl (by omega) rfl rfl ?_) | (refine dr U 5 rfl trivial ?_; refine rem1 rfl rfl (by omega) rfl rfl ?_) | (refine dr U 6 rfl trivial ?_; refine rem1 rfl rfl (by omega) rfl rfl ?_) | (refine dr U 7 rfl trivial ?_; refine rem1 rfl rfl (by omega) rfl rfl ?_) | (refine dr U 8 rfl trivial ?_; refine rem1 rfl rfl (by omega) rfl rfl ?_) | (refine dr U 9 rfl trivial ?_; refine rem1 rfl rfl (by omega) rfl rfl ?_) | (refine dr U 10 rfl trivial ?_; refine rem1 rfl rfl (by omega) rfl rfl ?_) | (refine dr U 11 rfl trivial ?_; refine rem1 rfl rfl (by omega) rfl rfl ?_) | (refine dr U 12 rfl trivial ?_; refine rem1 rfl rfl (by omega) rfl rfl ?_) | (refine dr U 13 rfl trivial ?_; refine rem1 rfl rfl (by omega) rfl rfl ?_) | (refine dr U 14 rfl trivial ?_; refine rem1 rfl rfl (by omega) rfl rfl ?_) | (refine dr U 15 rfl trivial ?_; refine rem1 rfl rfl (by omega) rfl rfl ?_)
  refine dr U 600 rfl trivial ?_
  refine cS rfl rfl rfl rfl (fun hq => ?_) (fun hq => ?_)
  · refine dr U 600 rfl (by first | exact True.intro | (simp only [AllP, InR, List.nil_append, List.cons_append, and_true]; omega)) ?_
    refine ret Tryz.results18 rfl ⟨_, rfl, ⟨(x.tmod n + n).toNat, ?_, by omega⟩, rfl⟩
    show Value.int .i64 _ = .int .i64 _
    congr 1; omega
  · refine dr U 600 rfl (by first | exact True.intro | (simp only [AllP, InR, List.nil_append, List.cons_append, and_true]; omega)) ?_
    refine ret Tryz.results18 rfl ⟨_, rfl, ⟨(x.tmod n).toNat, ?_, by omega⟩, rfl⟩
    show Value.int .i64 _ = .int .i64 _
    congr 1; omega

end Go.Proofs.YtejlpdbiacmfcaaGreatDoor
end
section
set_option linter.unusedSimpArgs false
set_option linter.unusedVariables false
set_option maxHeartbeats 1000000
namespace Go.Proofs.YtejlpdbiacmfcaaGreatDoor
open Go Go.Proofs Go.RowKit Go.Lib

theorem SolvedR.full {n : Nat} {f : Mx} {b : Nat → Rat} {v : Value} {w : World} (h : SolvedR n f b v w) (hF : (gj n f n).2 = n) :
    ∃ x a c, (∀ i, i < n → mapp n f x i = b i) ∧ (∀ i, i < n → Small 4000 (x i)) ∧ v = .tuple ⟨[.slice a n c, .int .i64 0]⟩ ∧ Lit w (.slice a n c) (txs n x) := by
  rcases h with ⟨h, _⟩ | ⟨_, h⟩
  · exact absurd hF h
  · exact h
theorem SolvedR.none {n : Nat} {f : Mx} {b : Nat → Rat} {v : Value} {w : World} (h : SolvedR n f b v w) (hF : (gj n f n).2 ≠ n) :
    ∃ a c, v = .tuple ⟨[.slice a 0 c, .int .i64 17]⟩ := by
  rcases h with ⟨_, h⟩ | ⟨h, _⟩
  · exact h
  · exact absurd h hF
end Go.Proofs.YtejlpdbiacmfcaaGreatDoor
end
section
set_option linter.unusedSimpArgs false
set_option linter.unusedVariables false
set_option maxHeartbeats 2000000
namespace Go.Proofs.YtejlpdbiacmfcaaGreatDoor
open Go Go.Proofs Go.RowKit Go.Lib

/-- What a solver answers at numbers, where there is one solution. -/
def SolC (n : Nat) (f : Mx) (b : Nat → Rat) (v : Value) (w : World) : Prop := ∃ x a c, (∀ i, i < n → mapp n f x i = b i) ∧ (∀ i, i < n → Small 4000 (x i)) ∧ v = .tuple ⟨[.slice a n c, .int .i64 0]⟩ ∧ Lit w (.slice a n c) (txs n x) ∧ n ≤ c
theorem pSolveC_calls {n : Nat} (f : Mx) (b : Nat → Rat) (S : Nat) (h0 : 0 < n) (hn : n ≤ 64) (hS : S ≤ 4000) (hf : ∀ i, i < n → ∀ k, k < n → Small S (f i k)) (hb : ∀ i, i < n → Small S (b i)) (hG : grw n S ≤ 1000000) (hF : (gj n f n).2 = n)
    (hsol : ∀ x, (∀ i, i < n → mapp n f x i = b i) → ∀ i, i < n → Small 4000 (x i)) (a b_ : Option Addr) (c d : Nat) (w : World) (hs : SM w a (mtx n n f)) (hl : Lit w (.slice b_ n d) (txs n b)) (ht : TabOk w) :
    Calls Tryz.prog 50 #[.slice a n c, .slice b_ n d] w (Ret fun v w' => SolC n f b v w' ∧ Below w.heap.size w w') := by
  have hf' : ∀ i, i < n → ∀ k, k < n → Small 4000 (f i k) := fun i hi k hk => small_mono (hf i hi k hk) hS
  have hb' : ∀ i, i < n → Small 4000 (b i) := fun i hi => small_mono (hb i hi) hS
  have hlm := mtx_lens (m := n) (n := n) (by omega) (by omega) hf'
  have hlv := txs_lenv (n := n) (by omega) hb'
  have := lSolve_calls (mtx n n f) (txs n b) S a b_ c d w hs hlm.l hlm.l2 hlm.x hl.sl.1 hlv.l hlv.x ht (fun _ => by
    rw [mtx_length, mtx_len h0, txs_length]
    exact ⟨fun i t hi ht => by rw [mtx_mval hf' hi ht]; exact hf i hi t ht, fun i hi => by rw [txs_vval hb' hi]; exact hb i hi, hG⟩)
  rw [mtx_length, txs_length] at this
  refine this.mono ?_
  rintro e w' ⟨v, rfl, ⟨zs, e', h3, h4⟩, hB⟩
  refine ⟨_, rfl, ?_, hB⟩
  have hE : BErr (mtx n n f) (txs n b) 0 := .inr ⟨mtx_xerr h0 h0 hn hn hf', txs_verr h0 hn hb'⟩
  rcases h3 with ⟨h5, h6, _⟩ | ⟨_, h6, _⟩ | ⟨_, _, _, h6⟩
  · exact absurd (h6.uniq hE) h5
  · rw [mtx_length, mtx_len h0, txs_length] at h6; omega
  · rw [mtx_length] at h6
    have h7 := h6.congr (fun i hi k hk => mtx_mval hf' hi hk) (fun i hi => txs_vval hb' hi)
    obtain ⟨a', c', rfl, hl', hc', hg'⟩ := h4
    rcases h7 with ⟨h8, _, _⟩ | ⟨_, x, h9, h10⟩
    · exact absurd hF h8
    · have hsm := hsol x h9
      rcases h10 with ⟨⟨i, hi, h11⟩, _⟩ | ⟨_, rfl, rfl⟩
      · exact absurd (hsm i hi) h11
      · rw [txs_length] at hc' ⊢
        exact ⟨x, a', c', h9, hsm, rfl, ⟨a', c', by rw [txs_length], hl'⟩, hc'⟩
theorem grw7 {n S : Nat} (hn : n ≤ 7) (hS : S ≤ 15) : grw n S ≤ 1000000 :=
  Nat.le_trans (grw_mono2 hS n) (grw_at hn (by decide))
/-- The solutions of a strategy's systems with ints of 14 digits take at most 150 digits. -/
theorem stsol_small {kind n : Int} (hs : strat kind n ≠ []) (hn : n ≤ 7) {b : Nat → Rat} (hb : ∀ i, i < n.toNat → Isn 13000000000000 (b i)) :
    ∀ x, (∀ i, i < n.toNat → mapp n.toNat (nrm (strat kind n)) x i = b i) → ∀ i, i < n.toNat → Small 150 (x i) := fun x hx => by
  have h1 := (strat_kind hs).1
  refine isol_small (B := 13000000000000) (by omega) (fun i k _ _ => (nrm_isn (B := 13) (strat_len7 hn) i k).mono (by omega)) hb (strat_reg hs) hx (fpow_lt (m := 7) (F := 5040) (by omega) (by omega) (fct7 (by omega)) (by decide)) (by omega)
/-- The solutions of a strategy's systems with the bits of a range take at most 12 digits. -/
theorem stsol_bits {kind n : Int} (hs : strat kind n ≠ []) (hn : n ≤ 7) {b : Nat → Rat} (hb : ∀ i, i < n.toNat → Isn 13 (b i)) :
    ∀ x, (∀ i, i < n.toNat → mapp n.toNat (nrm (strat kind n)) x i = b i) → ∀ i, i < n.toNat → Small 12 (x i) := fun x hx => by
  have h1 := (strat_kind hs).1
  refine isol_small (B := 13) (by omega) (fun i k _ _ => nrm_isn (B := 13) (strat_len7 hn) i k) hb (strat_reg hs) hx (fpow_lt (m := 7) (F := 5040) (by omega) (by omega) (fct7 (by omega)) (by decide)) (by omega)
end Go.Proofs.YtejlpdbiacmfcaaGreatDoor
end
section
set_option linter.unusedSimpArgs false
set_option linter.unusedVariables false
set_option maxHeartbeats 1000000
namespace Go.Proofs.YtejlpdbiacmfcaaGreatDoor
open Go Go.Proofs Go.RowKit Go.Lib

/-- A right side of which the first texts are there. -/
def bls (n i : Nat) (r : Nat → Rat) : List Tx := (List.range n).map fun j => if j < i then qtext (r j) else []
/-- The same with a text in the next place. -/
def blsP (n i : Nat) (r : Nat → Rat) (t : Tx) : List Tx := (List.range n).map fun j => if j < i then qtext (r j) else if j = i then t else []
theorem bls_zero (n : Nat) (r : Nat → Rat) : List.replicate n (Value.string ⟨#[]⟩) = strs (bls n 0 r) := by
  unfold strs bls
  apply List.ext_getElem?
  intro i
  by_cases h : i < n
  · simp [h]
  · simp [h]
theorem strs_lenb (n i : Nat) (r : Nat → Rat) (t : Tx) : (strs (blsP n i r t)).length = n ∧ (strs (bls n i r)).length = n := by simp [strs, bls, blsP]
theorem bls_set {n i : Nat} (h : i < n) (r : Nat → Rat) (t : Tx) : (strs (bls n i r)).set i (.string ⟨⟨t⟩⟩) = strs (blsP n i r t) := by
  apply List.ext_getElem?
  intro j
  by_cases hj : j < n
  · by_cases e : i = j
    · subst e
      rw [List.getElem?_set_self (by rw [(strs_lenb n i r []).2]; exact h)]
      simp [strs, blsP, h]
    · rw [List.getElem?_set_ne e]
      have : ¬ j = i := fun h => e h.symm
      simp [strs, bls, blsP, hj, this]
  · rw [List.getElem?_eq_none (by rw [List.length_set, (strs_lenb n i r []).2]; omega), List.getElem?_eq_none (by rw [(strs_lenb n i r t).1]; omega)]
theorem blsP_set {n i : Nat} (h : i < n) (r : Nat → Rat) (t t' : Tx) : (strs (blsP n i r t)).set i (.string ⟨⟨t'⟩⟩) = strs (blsP n i r t') := by
  rw [← bls_set h r t, List.set_set, bls_set h]
theorem blsP_end {n i : Nat} (r : Nat → Rat) : blsP n i r (qtext (r i)) = bls n (i + 1) r := by
  unfold bls blsP
  apply List.map_congr_left
  intro j hj
  by_cases h1 : j < i
  · rw [if_pos h1, if_pos (by omega)]
  · by_cases h2 : j = i
    · subst h2; rw [if_neg h1, if_pos rfl, if_pos (by omega)]
    · rw [if_neg h1, if_neg h2, if_neg (by omega)]
theorem bls_end (n : Nat) (r : Nat → Rat) : bls n n r = txs n r := by
  unfold bls txs
  apply List.map_congr_left
  intro j hj
  rw [if_pos (List.mem_range.1 hj)]
theorem blsP_get {n i : Nat} (h : i < n) (r : Nat → Rat) (t : Tx) : (strs (blsP n i r t))[i]? = some (.string ⟨⟨t⟩⟩) := by
  simp [strs, blsP, h]
/-- The first rows of a matrix of texts lie behind a place and before another. -/
def RowsT (w : World) (gb lim n i : Nat) (A : Nat → Option Addr) (f : Nat → Nat → Rat) : Prop := ∀ j, j < i → Sl w (A j) (strs (txs n (f j))) ∧ ∀ g, ab (A j) = some g → gb < g ∧ g < lim ∧ Tg w 35 g
theorem RowsT.none (w : World) (gb lim n : Nat) (A : Nat → Option Addr) (f : Nat → Nat → Rat) : RowsT w gb lim n 0 A f := fun j hj => absurd hj (by omega)
theorem RowsT.stay {w w' : World} {gb lim n i : Nat} {A : Nat → Option Addr} {f : Nat → Nat → Rat} (h : RowsT w gb lim n i A f) (hb : Below w.heap.size w w') : RowsT w' gb lim n i A f := fun j hj =>
  ⟨(h j hj).1.stay hb, fun g hg => ⟨((h j hj).2 g hg).1, ((h j hj).2 g hg).2.1, ((h j hj).2 g hg).2.2.below hb⟩⟩
/-- A step that turns no block between the two places. -/
theorem RowsT.grown {w w' : World} {gb lim n i : Nat} {A : Nat → Option Addr} {f : Nat → Nat → Rat} {row : Option Nat} (h : RowsT w gb lim n i A f) (hg : w.grownBy w' row) (hr : ∀ g, row = some g → g ≤ gb ∨ lim ≤ g ∨ ∃ t, Nat.beq 35 t = false ∧ Tg w t g) : RowsT w' gb lim n i A f := fun j hj => by
  have hne : ∀ g, ab (A j) = some g → row ≠ some g := fun g hg' e => by
    obtain ⟨h1, h2, h3⟩ := (h j hj).2 g hg'
    rcases hr g e with h4 | h4 | ⟨t, ht, h4⟩
    · omega
    · omega
    · exact h3.ne h4 ht rfl
  exact ⟨(h j hj).1.keep hg hne, fun g hg' => ⟨((h j hj).2 g hg').1, ((h j hj).2 g hg').2.1, ((h j hj).2 g hg').2.2.grown hg (hne g hg')⟩⟩
theorem RowsT.lim {w : World} {gb lim lim' n i : Nat} {A : Nat → Option Addr} {f : Nat → Nat → Rat} (h : RowsT w gb lim n i A f) (hl : lim ≤ lim') : RowsT w gb lim' n i A f := fun j hj =>
  ⟨(h j hj).1, fun g hg => ⟨((h j hj).2 g hg).1, Nat.lt_of_lt_of_le ((h j hj).2 g hg).2.1 hl, ((h j hj).2 g hg).2.2⟩⟩
theorem RowsT.snoc {w : World} {gb lim n i : Nat} {A : Nat → Option Addr} {f : Nat → Nat → Rat} (h : RowsT w gb lim n i A f) (hs : Sl w (A i) (strs (txs n (f i)))) (hg : ∀ g, ab (A i) = some g → gb < g ∧ g < lim ∧ Tg w 35 g) : RowsT w gb lim n (i + 1) A f := fun j hj => by
  rcases Nat.lt_succ_iff_lt_or_eq.1 hj with h' | rfl
  · exact h j h'
  · exact ⟨hs, hg⟩
theorem RowsT.congr {w : World} {gb lim n i : Nat} {A A' : Nat → Option Addr} {f : Nat → Nat → Rat} (h : RowsT w gb lim n i A f) (hA : ∀ j, j < i → A' j = A j) : RowsT w gb lim n i A' f := fun j hj => by rw [hA j hj]; exact h j hj
/-- How long the rows are while one of them is built. -/
def lenK (n i k j : Nat) : Nat := if j < i then n else if j = i then k else 0
theorem lenK_end (n i j : Nat) : lenK n i n j = lenK n (i + 1) 0 j := by
  unfold lenK
  by_cases h1 : j < i
  · rw [if_pos h1, if_pos (by omega)]
  · by_cases h2 : j = i
    · rw [if_neg h1, if_pos h2, if_pos (by omega)]
    · rw [if_neg h1, if_neg h2, if_neg (by omega)]
      split <;> rfl
theorem lenK_upd (n i k : Nat) : ∀ j, upd (lenK n i k) i (k + 1) j = lenK n i (k + 1) j := fun j => by
  unfold lenK
  by_cases h : j = i
  · subst h; rw [upd_same, if_neg (by omega), if_pos rfl]
  · rw [upd_ne _ _ h, if_neg h, if_neg h]
theorem lenK_all {n j : Nat} (h : j < n) : lenK n n 0 j = n := by unfold lenK; rw [if_pos h]
theorem vws_len {n : Nat} {A : Nat → Option Addr} {L L' C : Nat → Nat} (h : ∀ j, L j = L' j) : vws n A L C = vws n A L' C := by
  have : L = L' := funext h
  rw [this]
/-- The whole matrix. -/
theorem rowsT_sm {w : World} {gb lim n go : Nat} {A : Nat → Option Addr} {C : Nat → Nat} {f : Nat → Nat → Rat} (ho : Sl w (some ⟨go, 0, none⟩) (vws n A (lenK n n 0) C)) (h : RowsT w gb lim n n A f) : SM w (some ⟨go, 0, none⟩) (mtx n n f) := by
  refine ⟨A, C, ?_, fun i hi => ?_⟩
  · have e : srws (mtx n n f) A C = vws n A (lenK n n 0) C := by
      unfold srws vws
      rw [mtx_length]
      apply List.map_congr_left
      intro j hj
      have := List.mem_range.1 hj
      rw [mtx_len this, lenK_all this]
    rw [e]; exact ho
  · rw [mtx_length] at hi
    rw [mtx_row hi]
    exact (h i hi).1
theorem lenK_zero (n j : Nat) : lenK n 0 0 j = 0 := by unfold lenK; rw [if_neg (by omega)]; split <;> rfl
theorem strs_txs_snoc (k : Nat) (f : Nat → Rat) : strs (txs k f) ++ [.string ⟨⟨qtext (f k)⟩⟩] = strs (txs (k + 1) f) := by
  rw [txs_snoc, strs, strs, List.map_append]; rfl
theorem bits_prod {rows : List (List Int)} (h : Bits rows) (i k j : Nat) : 0 ≤ (irow rows j).getD i 0 * (irow rows j).getD k 0 ∧ (irow rows j).getD i 0 * (irow rows j).getD k 0 ≤ 1 := by
  rcases h j i with h1 | h1 <;> rcases h j k with h2 | h2 <;> rw [h1, h2] <;> omega
/-- What is asked of a system of a strategy. -/
structure SysP (rows : List (List Int)) (n : Nat) (b : Nat → Rat) : Prop where
  h0 : 0 < n
  hn : n ≤ 7
  hl0 : 0 < rows.length
  hl : rows.length ≤ 13
  hrow : ∀ i, i < rows.length → (irow rows i).length = n
  bits : Bits rows
  reg : (gj n (nrm rows) n).2 = n
  sol : ∀ x, (∀ i, i < n → mapp n (nrm rows) x i = b i) → ∀ i, i < n → Small 4000 (x i)
  b : ∀ i, i < n → Small 15 (b i)
theorem SysP.nrm {rows : List (List Int)} {n : Nat} {b : Nat → Rat} (P : SysP rows n b) (i k : Nat) : Small 15 (nrm rows i k) := by
  rw [nrm_int]
  have := dotC_le P.bits i k rows.length
  have := P.hl
  exact small_int (by omega) (by omega)
/-- The solution of a strategy's system comes back. -/
def FitR (rows : List (List Int)) (n : Nat) (b : Nat → Rat) (v : Value) (w : World) : Prop := SolC n (Go.Proofs.YtejlpdbiacmfcaaGreatDoor.nrm rows) b v w
theorem lit_txs {w : World} {g n c : Nat} {f : Nat → Rat} (h : Sl w (some ⟨g, 0, none⟩) (strs (txs n f))) : Lit w (.slice (some ⟨g, 0, none⟩) n c) (txs n f) := ⟨_, c, by rw [txs_length], h⟩
end Go.Proofs.YtejlpdbiacmfcaaGreatDoor
end
section
set_option linter.unusedSimpArgs false
set_option linter.unusedVariables false
set_option maxHeartbeats 1000000
namespace Go.Proofs.YtejlpdbiacmfcaaGreatDoor
open Go Go.Proofs Go.RowKit Go.Lib

section
variable {p q : Rat}
theorem rcmp_q (hp : Small 4000 p) (hq : Small 4000 q) (w : World) :
    Calls Tryz.prog 25 #[.string ⟨⟨qtext p⟩⟩, .string ⟨⟨qtext q⟩⟩] w (Ret fun v w' => v = .tuple ⟨[.int .i64 (cmpQ p q), .int .i64 0]⟩ ∧ Below w.heap.size w w') :=
  (rcmp_calls _ _ (Nat.le_trans (qtext_len hp) (by omega)) (Nat.le_trans (qtext_len hq) (by omega)) w).mono (by rintro _ w' ⟨v, rfl, h, hB⟩; exact ⟨v, rfl, h.text hp hq, hB⟩)
end
theorem txs_get {n i : Nat} {f : Nat → Rat} (hi : i < n) : (strs (txs n f))[i]? = some (.string ⟨⟨qtext (f i)⟩⟩) := by
  rw [getS (by rw [txs_length]; exact hi), txs_getD hi]
/-- What the inverter answers, told by its error. -/
def InvC (n : Nat) (f : Mx) (v : Value) (e : Int) (w : World) : Prop :=
  ((gj n f n).2 ≠ n ∧ e = 17) ∨ ((gj n f n).2 = n ∧ e = 0 ∧ ∃ (x : Mx) (a : Option Addr) (c : Nat), (∀ i, i < n → ∀ j, j < n → mmul n f x i j = idn i j) ∧ (∀ i, i < n → ∀ j, j < n → Small 4000 (x i j)) ∧ v = .slice a n c ∧ SM w a (mtx n n x))
theorem InvC.stay {n : Nat} {f : Mx} {v : Value} {e : Int} {w w' : World} (h : InvC n f v e w) (hb : Below w.heap.size w w') : InvC n f v e w' := by
  rcases h with h | ⟨h1, h2, x, a, c, h3, h4, h5, h6⟩
  · exact .inl h
  · exact .inr ⟨h1, h2, x, a, c, h3, h4, h5, h6.stay hb⟩
end Go.Proofs.YtejlpdbiacmfcaaGreatDoor
end
