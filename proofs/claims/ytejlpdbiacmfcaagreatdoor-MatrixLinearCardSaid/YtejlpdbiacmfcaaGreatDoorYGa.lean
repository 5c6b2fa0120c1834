/-
  Rows of the reference's rational numbers: vectors and matrices of them.
  No conditions: each theorem names its own premises.

  Walks of the reference's Vector, Check, number, vector, matrix, texts, table, zero.
  Conditions: texts take fewer than 2^40 bytes, lists fewer than 2^40 elements.

  Walks of the reference's vector, matrix, texts, table, zero.
  Conditions: texts take fewer than 2^40 bytes, lists at most a million elements.

  Walks of the reference's flip, dot, apply, times, scale, combine.
  Conditions: a bound on the sizes of the numbers.

  Walks of the reference's times, scale, combine.
  Conditions: a bound on the sizes of the numbers.

  Walk of the reference's reduce: it does what elimination does.
  Conditions: a bound on the sizes of the numbers.

  Walk of the reference's solve.
  Conditions: a bound on the sizes of the numbers.

  Walks of the reference's with, Identity, Transpose, Mul, Apply, Rank, Solve.
  Conditions: a bound on the sizes of the numbers.

  Walks of the reference's Solve, Inverse, Least.
  Conditions: a bound on the sizes of the numbers.

  The lengths of what package linear answers; calls at matrices of numbers.
  Conditions: the library's table of powers of ten is laid.

  Walks of the law package's square and tall.
  Conditions: what is copied fits into memory.

  Walk of the statements' Pick; digits of powers.
  Conditions: the number of choices is at least 1.

  What the solver answers at small systems of numbers.
  Conditions: each theorem names its own.

  The reference's solver at numbers; the sizes that a strategy's systems ask.
  Conditions: each theorem names its own.
-/
import Derived.Test.YtejlpdbiacmfcaaGreatDoorYTab
import Derived.Test.YtejlpdbiacmfcaaGreatDoorYBld
import Derived.Test.YtejlpdbiacmfcaaGreatDoorYRB
import Derived.Test.YtejlpdbiacmfcaaGreatDoorYSs
import Derived.Test.YtejlpdbiacmfcaaGreatDoorYVs
import Derived.Test.YtejlpdbiacmfcaaGreatDoorYKa
import Derived.Test.YtejlpdbiacmfcaaGreatDoorYLd
import Derived.Test.YtejlpdbiacmfcaaGreatDoorYMj
section
set_option linter.unusedSimpArgs false
set_option linter.unusedVariables false
set_option maxHeartbeats 1000000
namespace Go.Proofs.YtejlpdbiacmfcaaGreatDoor
open Go Go.Proofs Go.RowKit Go.Lib

theorem RdI.push {w w' : World} {a : Option Addr} {c : Nat} {xs : List Nat} {row : Option Nat} (h : RdI w a c xs) {t : Nat} (hg : w.grownBy w' row) (hr : ∀ g, row = some g → Tg w t g) (ht : Nat.beq 3 t = false := by rfl) : RdI w' a c xs := by
  have hne : ∀ g, ab a = some g → row ≠ some g := fun g hga e => (h.2.2 g hga).ne (hr g e) ht rfl
  exact ⟨h.1.keep hg hne, h.2.1, fun g hga => (h.2.2 g hga).grown hg (hne g hga)⟩
theorem QR.push {w w' : World} {v : Value} {r : Rat} {row : Option Nat} (h : QR w v r) {t : Nat} (hg : w.grownBy w' row) (hr : ∀ g, row = some g → Tg w t g) (ht : Nat.beq 3 t = false := by rfl) : QR w' v r := by
  obtain ⟨an, cn, ad, cd, rfl, h1, h2⟩ := h
  exact ⟨an, cn, ad, cd, rfl, h1.push hg hr ht, h2.push hg hr ht⟩
theorem QR.shape {w : World} {v : Value} {r : Rat} (h : QR w v r) : ∃ m a1 n1 c1 a2 n2 c2, v = .agg ⟨[.bool m, .slice a1 n1 c1, .slice a2 n2 c2]⟩ := by
  obtain ⟨an, cn, ad, cd, rfl, h1, h2⟩ := h
  exact ⟨_, _, _, _, _, _, _, rfl⟩
/-- The elements are these fractions. -/
def ElsQ (w : World) (cs : List Value) (n : Nat) (f : Nat → Rat) : Prop := cs.length = n * 3 ∧ ∀ i, i < n → QR w (.agg ⟨el cs i⟩) (f i)
theorem ElsQ.stay {w w' : World} {cs : List Value} {n : Nat} {f : Nat → Rat} (h : ElsQ w cs n f) (hb : Below w.heap.size w w') : ElsQ w' cs n f := ⟨h.1, fun i hi => (h.2 i hi).stay hb⟩
theorem ElsQ.push {w w' : World} {cs : List Value} {n : Nat} {f : Nat → Rat} {row : Option Nat} (h : ElsQ w cs n f) {t : Nat} (hg : w.grownBy w' row) (hr : ∀ g, row = some g → Tg w t g) (ht : Nat.beq 3 t = false := by rfl) : ElsQ w' cs n f := ⟨h.1, fun i hi => (h.2 i hi).push hg hr ht⟩
theorem ElsQ.snoc {w : World} {cs t : List Value} {n : Nat} {f : Nat → Rat} (h : ElsQ w cs n f) (ht : QR w (.agg ⟨t⟩) (f n)) : ElsQ w (cs ++ t) (n + 1) f := by
  obtain ⟨m, a1, n1, c1, a2, n2, c2, e⟩ := ht.shape
  have hl : t.length = 3 := by simp only [Value.agg.injEq, Array.mk.injEq] at e; rw [e]; rfl
  refine ⟨by rw [List.length_append, h.1, hl]; omega, fun i hi => ?_⟩
  by_cases hn : i < n
  · rw [el_app (by rw [h.1]; omega)]; exact h.2 i hn
  · obtain rfl : i = n := by omega
    rw [el_last h.1 hl]; exact ht
theorem ElsQ.nil (w : World) (f : Nat → Rat) : ElsQ w [] 0 f := ⟨rfl, fun i hi => absurd hi (by omega)⟩
/-- A slice of fractions. -/
def VecQ (w : World) (a : Option Addr) (n : Nat) (f : Nat → Rat) : Prop := ∃ cs, ElsQ w cs n f ∧ Sl w a cs ∧ ∀ g, ab a = some g → Tg w 86 g
theorem VecQ.stay {w w' : World} {a : Option Addr} {n : Nat} {f : Nat → Rat} (h : VecQ w a n f) (hb : Below w.heap.size w w') : VecQ w' a n f := by
  obtain ⟨cs, h1, h2, h3⟩ := h
  exact ⟨cs, h1.stay hb, h2.below hb (fun g hg => (h3 g hg).lt), fun g hg => (h3 g hg).below hb⟩
/-- A slice of m rows of n fractions. -/
def MatQ (w : World) (a : Option Addr) (m n : Nat) (f : Nat → Nat → Rat) : Prop := ∃ A C, Sl w a (rws m n A C) ∧ (∀ i, i < m → VecQ w (A i) n (f i) ∧ n ≤ C i) ∧ ∀ g, ab a = some g → Tg w 169 g
theorem MatQ.stay {w w' : World} {a : Option Addr} {m n : Nat} {f : Nat → Nat → Rat} (h : MatQ w a m n f) (hb : Below w.heap.size w w') : MatQ w' a m n f := by
  obtain ⟨A, C, h1, h2, h3⟩ := h
  exact ⟨A, C, h1.below hb (fun g hg => (h3 g hg).lt), fun i hi => ⟨(h2 i hi).1.stay hb, (h2 i hi).2⟩, fun g hg => (h3 g hg).below hb⟩
theorem VecQ.push {w w' : World} {a : Option Addr} {n : Nat} {f : Nat → Rat} {row : Option Nat} {t : Nat} (h : VecQ w a n f) (hg : w.grownBy w' row) (hr : ∀ g, row = some g → Tg w t g) (ht : Nat.beq 3 t = false := by rfl) (hf : Nat.beq 86 t = false := by rfl) : VecQ w' a n f := by
  obtain ⟨cs, h1, h2, h3⟩ := h
  have hne : ∀ g, ab a = some g → row ≠ some g := fun g hga e => (h3 g hga).ne (hr g e) hf rfl
  exact ⟨cs, h1.push hg hr ht, h2.keep hg hne, fun g hga => (h3 g hga).grown hg (hne g hga)⟩
/-- Rows of fractions that agree with a matrix. -/
def RwsQ (w : World) (m n : Nat) (A : Nat → Option Addr) (C : Nat → Nat) (f : Nat → Nat → Rat) : Prop := ∀ i, i < m → VecQ w (A i) n (f i) ∧ n ≤ C i
theorem RwsQ.stay {w w' : World} {m n : Nat} {A : Nat → Option Addr} {C : Nat → Nat} {f : Nat → Nat → Rat} (h : RwsQ w m n A C f) (hb : Below w.heap.size w w') : RwsQ w' m n A C f := fun i hi => ⟨(h i hi).1.stay hb, (h i hi).2⟩
theorem RwsQ.push {w w' : World} {m n : Nat} {A : Nat → Option Addr} {C : Nat → Nat} {f : Nat → Nat → Rat} {row : Option Nat} {t : Nat} (h : RwsQ w m n A C f) (hg : w.grownBy w' row) (hr : ∀ g, row = some g → Tg w t g) (ht : Nat.beq 3 t = false := by rfl) (hf : Nat.beq 86 t = false := by rfl) : RwsQ w' m n A C f := fun i hi => ⟨(h i hi).1.push hg hr ht hf, (h i hi).2⟩
theorem RwsQ.snoc {w : World} {m n : Nat} {A : Nat → Option Addr} {C : Nat → Nat} {f : Nat → Nat → Rat} {a : Option Addr} {c : Nat} (h : RwsQ w m n A C f) (hv : VecQ w a n (f m)) (hc : n ≤ c) : RwsQ w (m + 1) n (upd A m a) (upd C m c) f := by
  intro i hi
  by_cases hm : i = m
  · subst hm; rw [upd_same, upd_same]; exact ⟨hv, hc⟩
  · rw [upd_ne _ _ hm, upd_ne _ _ hm]; exact h i (by omega)
theorem RwsQ.none (w : World) (n : Nat) (A : Nat → Option Addr) (C : Nat → Nat) (f : Nat → Nat → Rat) : RwsQ w 0 n A C f := fun i hi => absurd hi (by omega)
/-- Rows in blocks of their own: row j holds the first L j numbers of column j. -/
def OwnQ (w : World) (base n : Nat) (A : Nat → Option Addr) (L C : Nat → Nat) (f : Nat → Nat → Rat) : Prop :=
  (∀ j, j < n → ∃ cs, w.ownsRow base 86 3 (.slice (A j) (L j) (C j)) (L j) cs ∧ ElsQ w cs (L j) (f j)) ∧ ∀ j j', j < n → j' < n → j ≠ j' → ∀ g, ab (A j) = some g → ab (A j') ≠ some g
theorem OwnQ.keep {w w' : World} {base n t : Nat} {A : Nat → Option Addr} {L C : Nat → Nat} {f : Nat → Nat → Rat} {row : Option Nat} (h : OwnQ w base n A L C f) (hg : w.grownBy w' row) (hr : ∀ g, row = some g → Tg w t g) (ht : Nat.beq 3 t = false) (hf : Nat.beq 86 t = false) : OwnQ w' base n A L C f :=
  ⟨fun j hj => by
    obtain ⟨cs, h1, h2⟩ := h.1 j hj
    exact ⟨cs, own_keep h1 hg (fun g hga e => (own_tag h1 g hga).ne (hr g e) hf rfl), h2.push hg hr ht⟩, h.2⟩
theorem OwnQ.below {w w' : World} {base n : Nat} {A : Nat → Option Addr} {L C : Nat → Nat} {f : Nat → Nat → Rat} (h : OwnQ w base n A L C f) (hb : Below w.heap.size w w') : OwnQ w' base n A L C f :=
  ⟨fun j hj => by
    obtain ⟨cs, h1, h2⟩ := h.1 j hj
    exact ⟨cs, own_bw h1 hb, h2.stay hb⟩, h.2⟩
/-- A row grows by one number. -/
theorem OwnQ.grow {w w' : World} {base n k : Nat} {A : Nat → Option Addr} {L C : Nat → Nat} {f : Nat → Nat → Rat} {a' : Option Addr} {c' : Nat} {cs' : List Value} (h : OwnQ w base n A L C f) (hk : k < n) (hg : w.grownBy w' (ab (A k)))
    (ho : w'.ownsRow base 86 3 (.slice a' (L k + 1) c') (L k + 1) cs') (he : ElsQ w' cs' (L k + 1) (f k)) (hp : ab a' = ab (A k) ∨ ab a' = some w.heap.size) : OwnQ w' base n (upd A k a') (upd L k (L k + 1)) (upd C k c') f := by
  obtain ⟨csk, hok, hek⟩ := h.1 k hk
  have htag := own_tag hok
  have hlt : ∀ j, j < n → ∀ g, ab (A j) = some g → g < w.heap.size := fun j hj g hga => by
    obtain ⟨cs, h1, _⟩ := h.1 j hj
    exact (own_block h1 g hga).2
  refine ⟨fun j hj => ?_, fun j j' hj hj' hne g hga hga' => ?_⟩
  · by_cases hjk : j = k
    · subst hjk; rw [upd_same, upd_same, upd_same]; exact ⟨cs', ho, he⟩
    · rw [upd_ne _ _ hjk, upd_ne _ _ hjk, upd_ne _ _ hjk]
      obtain ⟨cs, h1, h2⟩ := h.1 j hj
      exact ⟨cs, own_keep h1 hg (fun g hga e => h.2 j k hj hk hjk g hga e), h2.push hg htag⟩
  · by_cases hjk : j = k
    · subst hjk
      rw [upd_same] at hga
      rw [upd_ne _ _ (fun e => hne e.symm)] at hga'
      rcases hp with hp | hp
      · exact h.2 j j' hj hj' hne g (hp ▸ hga) hga'
      · have := hlt j' hj' g hga'; rw [hga] at hp; cases hp; omega
    · rw [upd_ne _ _ hjk] at hga
      by_cases hjk' : j' = k
      · subst hjk'
        rw [upd_same] at hga'
        rcases hp with hp | hp
        · exact h.2 j j' hj hj' hne g hga (hp ▸ hga')
        · have := hlt j hj g hga; rw [hga'] at hp; cases hp; omega
      · rw [upd_ne _ _ hjk'] at hga'
        exact h.2 j j' hj hj' hne g hga hga'
/-- One more row, in a new block. -/
theorem OwnQ.snoc {w : World} {base i n : Nat} {A : Nat → Option Addr} {C : Nat → Nat} {f : Nat → Nat → Rat} {a : Option Addr} {c B : Nat} {cs : List Value} (h : OwnQ w base i A (fun _ => n) C f) (ho : w.ownsRow B 86 3 (.slice a n c) n cs) (he : ElsQ w cs n (f i)) (hB : base ≤ B)
    (hlt : ∀ j, j < i → ∀ g, ab (A j) = some g → g < B) : OwnQ w base (i + 1) (upd A i a) (fun _ => n) (upd C i c) f := by
  refine ⟨fun j hj => ?_, fun j j' hj hj' hne g hga hga' => ?_⟩
  · by_cases hji : j = i
    · subst hji; rw [upd_same, upd_same]; exact ⟨cs, own_mono2 ho hB, he⟩
    · rw [upd_ne _ _ hji, upd_ne _ _ hji]; exact h.1 j (by omega)
  · by_cases hji : j = i
    · subst hji
      rw [upd_same] at hga
      rw [upd_ne _ _ (fun e => hne e.symm)] at hga'
      have h1 := (own_block ho g hga).1
      have h2 := hlt j' (by omega) g hga'
      omega
    · rw [upd_ne _ _ hji] at hga
      by_cases hji' : j' = i
      · subst hji'
        rw [upd_same] at hga'
        have h1 := (own_block ho g hga').1
        have h2 := hlt j (by omega) g hga
        omega
      · rw [upd_ne _ _ hji'] at hga'
        exact h.2 j j' (by omega) (by omega) hne g hga hga'
theorem OwnQ.start (w : World) (base n : Nat) (f : Nat → Nat → Rat) : OwnQ w base n (fun _ => none) (fun _ => 0) (fun _ => 0) f :=
  ⟨fun j hj => ⟨[], ⟨rfl, .inl ⟨rfl, rfl⟩⟩, ElsQ.nil _ _⟩, fun j j' _ _ _ g h => by cases h⟩
theorem ElsQ.one {w : World} {cs : List Value} {n : Nat} {f : Nat → Rat} (h : ElsQ w cs n f) : ∀ u ∈ cs, u.oneCell' = true := by
  intro u hu
  obtain ⟨q, hq, rfl⟩ := List.getElem_of_mem hu
  have hl := h.1
  have hi : q / 3 < n := by omega
  obtain ⟨m, a1, n1, c1, a2, n2, c2, e⟩ := (h.2 (q / 3) hi).shape
  simp only [Value.agg.injEq, Array.mk.injEq] at e
  have h1 : (el cs (q / 3))[q % 3]? = some cs[q] := by
    unfold el
    rw [List.getElem?_take, if_pos (by omega), List.getElem?_drop, show q / 3 * 3 + q % 3 = q by omega, List.getElem?_eq_getElem hq]
  rw [e] at h1
  have hm := List.mem_of_getElem? h1
  simp at hm
  rcases hm with h | h | h <;> rw [h] <;> rfl
/-- A row grows by some numbers. -/
theorem OwnQ.growp {w w' : World} {base n k : Nat} {A : Nat → Option Addr} {L C : Nat → Nat} {f : Nat → Nat → Rat} {a' : Option Addr} {c' : Nat} {cs' : List Value} {q : Nat} (h : OwnQ w base n A L C f) (hk : k < n) (hg : w.grownBy w' (ab (A k)))
    (ho : w'.ownsRow base 86 3 (.slice a' (q) c') (q) cs') (he : ElsQ w' cs' (q) (f k)) (hp : ab a' = ab (A k) ∨ ab a' = some w.heap.size) : OwnQ w' base n (upd A k a') (upd L k (q)) (upd C k c') f := by
  obtain ⟨csk, hok, hek⟩ := h.1 k hk
  have htag := own_tag hok
  have hlt : ∀ j, j < n → ∀ g, ab (A j) = some g → g < w.heap.size := fun j hj g hga => by
    obtain ⟨cs, h1, _⟩ := h.1 j hj
    exact (own_block h1 g hga).2
  refine ⟨fun j hj => ?_, fun j j' hj hj' hne g hga hga' => ?_⟩
  · by_cases hjk : j = k
    · subst hjk; rw [upd_same, upd_same, upd_same]; exact ⟨cs', ho, he⟩
    · rw [upd_ne _ _ hjk, upd_ne _ _ hjk, upd_ne _ _ hjk]
      obtain ⟨cs, h1, h2⟩ := h.1 j hj
      exact ⟨cs, own_keep h1 hg (fun g hga e => h.2 j k hj hk hjk g hga e), h2.push hg htag⟩
  · by_cases hjk : j = k
    · subst hjk
      rw [upd_same] at hga
      rw [upd_ne _ _ (fun e => hne e.symm)] at hga'
      rcases hp with hp | hp
      · exact h.2 j j' hj hj' hne g (hp ▸ hga) hga'
      · have := hlt j' hj' g hga'; rw [hga] at hp; cases hp; omega
    · rw [upd_ne _ _ hjk] at hga
      by_cases hjk' : j' = k
      · subst hjk'
        rw [upd_same] at hga'
        rcases hp with hp | hp
        · exact h.2 j j' hj hj' hne g hga (hp ▸ hga')
        · have := hlt j hj g hga; rw [hga'] at hp; cases hp; omega
      · rw [upd_ne _ _ hjk'] at hga'
        exact h.2 j j' hj hj' hne g hga hga'
theorem ElsQ.congr {w : World} {cs : List Value} {n : Nat} {f g : Nat → Rat} (h : ElsQ w cs n f) (he : ∀ i, i < n → f i = g i) : ElsQ w cs n g := ⟨h.1, fun i hi => by rw [← he i hi]; exact h.2 i hi⟩
theorem ElsQ.app {w : World} {cs ds : List Value} {n p : Nat} {f g : Nat → Rat} (h : ElsQ w cs n f) (h' : ElsQ w ds p g) : ElsQ w (cs ++ ds) (n + p) (fun t => if t < n then f t else g (t - n)) := by
  refine ⟨by rw [List.length_append, h.1, h'.1]; omega, fun i hi => ?_⟩
  show QR w _ (if i < n then f i else g (i - n))
  by_cases hn : i < n
  · rw [el_app (by rw [h.1]; omega), if_pos hn]; exact h.2 i hn
  · rw [el_app2 h.1 (by omega), if_neg hn]; exact h'.2 (i - n) (by omega)
theorem ElsQ.set {w : World} {cs vs : List Value} {n j : Nat} {f : Nat → Rat} {x : Rat} (h : ElsQ w cs n f) (hj : j < n) (hx : QR w (.agg ⟨vs⟩) x) (hv : vs.length = 3) : ElsQ w (els cs j vs) n (upd f j x) := by
  have hl : j * 3 + 3 ≤ cs.length := by rw [h.1]; omega
  refine ⟨by rw [els_length hl hv]; exact h.1, fun i hi => ?_⟩
  rw [el_els hl hv (by rw [h.1]; omega)]
  by_cases hij : i = j
  · subst hij; rw [if_pos rfl, upd_same]; exact hx
  · rw [if_neg hij, upd_ne _ _ hij]; exact h.2 i hi
theorem OwnQ.congr {w : World} {base n : Nat} {A : Nat → Option Addr} {L C : Nat → Nat} {f g : Nat → Nat → Rat} (h : OwnQ w base n A L C f) (he : ∀ i, i < n → ∀ t, t < L i → f i t = g i t) : OwnQ w base n A L C g :=
  ⟨fun j hj => by
    obtain ⟨cs, h1, h2⟩ := h.1 j hj
    exact ⟨cs, h1, h2.congr (he j hj)⟩, h.2⟩
/-- A row's numbers are replaced where they lie. -/
theorem OwnQ.put {w w' : World} {base n k : Nat} {A : Nat → Option Addr} {L C : Nat → Nat} {f : Nat → Nat → Rat} {f' : Nat → Rat} {cs' : List Value} (h : OwnQ w base n A L C f) (hk : k < n) (hg : w.grownBy w' (ab (A k)))
    (ho : w'.ownsRow base 86 3 (.slice (A k) (L k) (C k)) (L k) cs') (he : ElsQ w' cs' (L k) f') : OwnQ w' base n A L C (upd f k f') := by
  obtain ⟨csk, hok, hek⟩ := h.1 k hk
  have htag := own_tag hok
  refine ⟨fun j hj => ?_, h.2⟩
  by_cases hjk : j = k
  · subst hjk; rw [upd_same]; exact ⟨cs', ho, he⟩
  · rw [upd_ne _ _ hjk]
    obtain ⟨cs, h1, h2⟩ := h.1 j hj
    exact ⟨cs, own_keep h1 hg (fun g hga e => h.2 j k hj hk hjk g hga e), h2.push hg htag⟩
/-- Two rows change places. -/
theorem OwnQ.swap {w : World} {base m n r i : Nat} {A : Nat → Option Addr} {C : Nat → Nat} {f : Nat → Nat → Rat} (h : OwnQ w base m A (fun _ => n) C f) (hr : r < m) (hi : i < m) :
    OwnQ w base m (upd (upd A r (A i)) i (A r)) (fun _ => n) (upd (upd C r (C i)) i (C r)) (swp r i f) := by
  have key : ∀ j, ∃ j', (j < m → j' < m) ∧ upd (upd A r (A i)) i (A r) j = A j' ∧ upd (upd C r (C i)) i (C r) j = C j' ∧ swp r i f j = f j' ∧ j' = (if j = i then r else if j = r then i else j) := by
    intro j
    refine ⟨if j = i then r else if j = r then i else j, ?_, ?_, ?_, ?_, rfl⟩
    · intro hj; split
      · exact hr
      · split
        · exact hi
        · exact hj
    · unfold upd; split
      · rfl
      · split <;> rfl
    · unfold upd; split
      · rfl
      · split <;> rfl
    · unfold swp
      by_cases h1 : j = i
      · subst h1
        rw [if_pos rfl, if_pos rfl]
        split
        · rename_i h2; rw [h2]
        · rfl
      · rw [if_neg h1, if_neg h1]
        split <;> rfl
  refine ⟨fun j hj => ?_, fun j j' hj hj' hne g hga hga' => ?_⟩
  · obtain ⟨q, h1, h2, h3, h4, _⟩ := key j
    rw [h2, h3, h4]; exact h.1 q (h1 hj)
  · obtain ⟨q, h1, h2, _, _, hq⟩ := key j
    obtain ⟨q', h1', h2', _, _, hq'⟩ := key j'
    rw [h2] at hga
    rw [h2'] at hga'
    refine h.2 q q' (h1 hj) (h1' hj') ?_ g hga hga'
    rw [hq, hq']
    split <;> split <;> (try split) <;> (try split) <;> omega
end Go.Proofs.YtejlpdbiacmfcaaGreatDoor
end
section
set_option linter.unusedSimpArgs false
set_option linter.unusedVariables false
set_option maxHeartbeats 2000000
namespace Go.Proofs.YtejlpdbiacmfcaaGreatDoor
open Go Go.Proofs Go.RowKit Go.Lib

end Go.Proofs.YtejlpdbiacmfcaaGreatDoor
end
section
set_option linter.unusedSimpArgs false
set_option linter.unusedVariables false
set_option maxHeartbeats 2000000
namespace Go.Proofs.YtejlpdbiacmfcaaGreatDoor
open Go Go.Proofs Go.RowKit Go.Lib

end Go.Proofs.YtejlpdbiacmfcaaGreatDoor
end
section
set_option linter.unusedSimpArgs false
set_option linter.unusedVariables false
set_option maxHeartbeats 2000000
namespace Go.Proofs.YtejlpdbiacmfcaaGreatDoor
open Go Go.Proofs Go.RowKit Go.Lib

end Go.Proofs.YtejlpdbiacmfcaaGreatDoor
end
section
set_option linter.unusedSimpArgs false
set_option linter.unusedVariables false
set_option maxHeartbeats 2000000
namespace Go.Proofs.YtejlpdbiacmfcaaGreatDoor
open Go Go.Proofs Go.RowKit Go.Lib


end Go.Proofs.YtejlpdbiacmfcaaGreatDoor
end
section
set_option linter.unusedSimpArgs false
set_option linter.unusedVariables false
set_option maxHeartbeats 4000000
namespace Go.Proofs.YtejlpdbiacmfcaaGreatDoor
open Go Go.Proofs Go.RowKit Go.Lib

theorem VecQ.congr {w : World} {a : Option Addr} {n : Nat} {f g : Nat → Rat} (h : VecQ w a n f) (he : ∀ i, i < n → f i = g i) : VecQ w a n g := by
  obtain ⟨cs, h1, h2, h3⟩ := h
  exact ⟨cs, h1.congr he, h2, h3⟩
theorem RwsQ.congr {w : World} {m n : Nat} {A : Nat → Option Addr} {C : Nat → Nat} {f g : Nat → Nat → Rat} (h : RwsQ w m n A C f) (he : ∀ i, i < m → ∀ t, t < n → f i t = g i t) : RwsQ w m n A C g :=
  fun i hi => ⟨(h i hi).1.congr (he i hi), (h i hi).2⟩
theorem RwsQ.set {w : World} {m n : Nat} {A : Nat → Option Addr} {C : Nat → Nat} {f : Nat → Nat → Rat} {a : Option Addr} {c r : Nat} {f' : Nat → Rat} (h : RwsQ w m n A C f) (hv : VecQ w a n f') (hc : n ≤ c) : RwsQ w m n (upd A r a) (upd C r c) (upd f r f') := by
  intro i hi
  by_cases hir : i = r
  · subst hir; rw [upd_same, upd_same, upd_same]; exact ⟨hv, hc⟩
  · rw [upd_ne _ _ hir, upd_ne _ _ hir, upd_ne _ _ hir]; exact h i hi
theorem RwsQ.swap {w : World} {m n r i : Nat} {A : Nat → Option Addr} {C : Nat → Nat} {f : Nat → Nat → Rat} (h : RwsQ w m n A C f) (hr : r < m) (hi : i < m) : RwsQ w m n (upd (upd A r (A i)) i (A r)) (upd (upd C r (C i)) i (C r)) (swp r i f) := by
  intro j hj
  by_cases hji : j = i
  · subst hji
    rw [upd_same, upd_same]
    have : swp r j f j = f r := by
      unfold swp
      rw [if_pos rfl]
      split
      · rename_i h2; rw [h2]
      · rfl
    rw [this]; exact h r hr
  · rw [upd_ne _ _ hji, upd_ne _ _ hji]
    by_cases hjr : j = r
    · subst hjr
      rw [upd_same, upd_same]
      have : swp j i f j = f i := by unfold swp; rw [if_pos rfl]
      rw [this]; exact h i hi
    · rw [upd_ne _ _ hjr, upd_ne _ _ hjr]
      have : swp r i f j = f j := by unfold swp; rw [if_neg hjr, if_neg hji]
      rw [this]; exact h j hj

/-- What holds while the reference eliminates. -/
def RdqI (w w' : World) (base go c m n : Nat) (A : Nat → Option Addr) (C : Nat → Nat) (g : Mx) : Prop :=
  w'.ownsRow base 169 1 (.slice (some ⟨go, 0, none⟩) m c) m (rws m n A C) ∧ RwsQ w' m n A C g ∧ Below base w w'
theorem RdqI.step {w w1 w2 : World} {base go c m n : Nat} {A : Nat → Option Addr} {C : Nat → Nat} {g : Mx} (h : RdqI w w1 base go c m n A C g) (hb : Below w1.heap.size w1 w2) (hbase : base ≤ w.heap.size) : RdqI w w2 base go c m n A C g :=
  ⟨own_bw h.1 hb, h.2.1.stay hb, bl_base h.2.2 hb hbase⟩
theorem RdqI.congr {w w1 : World} {base go c m n : Nat} {A : Nat → Option Addr} {C : Nat → Nat} {g g' : Mx} (h : RdqI w w1 base go c m n A C g) (he : ∀ i, i < m → ∀ t, t < n → g i t = g' i t) : RdqI w w1 base go c m n A C g' :=
  ⟨h.1, h.2.1.congr he, h.2.2⟩
/-- A row's place is taken by another. -/
theorem RdqI.put {w w1 w2 : World} {base go c m n r : Nat} {A : Nat → Option Addr} {C : Nat → Nat} {g : Mx} {a : Option Addr} {d : Nat} {f' : Nat → Rat} (h : RdqI w w1 base go c m n A C g) (hr : r < m) (hv : VecQ w1 a n f') (hd : n ≤ d)
    (ho : w2.ownsRow base 169 1 (.slice (some ⟨go, 0, none⟩) m c) m ((rws m n A C).set r (.slice a n d))) (hg : w1.grownBy w2 (some go)) (hbase : base ≤ w.heap.size) : RdqI w w2 base go c m n (upd A r a) (upd C r d) (upd g r f') := by
  have htg : ∀ q, some go = some q → Tg w1 169 q := fun q e => by cases e; exact own_tag h.1 go rfl
  rw [rws_set hr] at ho
  exact ⟨ho, (h.2.1.push hg htg).set (hv.push hg htg) hd, h.2.2.grown hg (Nat.le_trans hbase h.2.2.size) (fun q e => by cases e; exact (own_block h.1 go rfl).1)⟩
/-- A row of numbers is somewhere. -/
theorem VecQ.at {w : World} {a : Option Addr} {n : Nat} {f : Nat → Rat} (h : VecQ w a n f) (hn : 0 < n) : ∃ g o cs, a = some ⟨g, o, none⟩ ∧ ElsQ w cs n f ∧ Sl w (some ⟨g, o, none⟩) cs ∧ g < w.heap.size := by
  obtain ⟨cs, h1, h2, h3⟩ := h
  obtain ⟨g, o, rfl, _⟩ := h2.at (j := 0) (by rw [h1.1]; omega)
  exact ⟨g, o, cs, rfl, h1, h2, (h3 g rfl).lt⟩

end Go.Proofs.YtejlpdbiacmfcaaGreatDoor
end
section
set_option linter.unusedSimpArgs false
set_option linter.unusedVariables false
set_option maxHeartbeats 4000000
namespace Go.Proofs.YtejlpdbiacmfcaaGreatDoor
open Go Go.Proofs Go.RowKit Go.Lib

end Go.Proofs.YtejlpdbiacmfcaaGreatDoor
end
section
set_option linter.unusedSimpArgs false
set_option linter.unusedVariables false
set_option maxHeartbeats 4000000
namespace Go.Proofs.YtejlpdbiacmfcaaGreatDoor
open Go Go.Proofs Go.RowKit Go.Lib

end Go.Proofs.YtejlpdbiacmfcaaGreatDoor
end
section
set_option linter.unusedSimpArgs false
set_option linter.unusedVariables false
set_option maxHeartbeats 4000000
namespace Go.Proofs.YtejlpdbiacmfcaaGreatDoor
open Go Go.Proofs Go.RowKit Go.Lib

end Go.Proofs.YtejlpdbiacmfcaaGreatDoor
end
section
set_option linter.unusedSimpArgs false
set_option linter.unusedVariables false
set_option maxHeartbeats 2000000
namespace Go.Proofs.YtejlpdbiacmfcaaGreatDoor
open Go Go.Proofs Go.RowKit Go.Lib

theorem LightM.row {xss : List (List Tx)} {xs : List Tx} (h : LightM xss [xs]) : RowL xs := by
  have := h.1 xss.length (by rw [List.length_append, List.length_singleton]; omega)
  rwa [rw_app2] at this
theorem VOut.lit {ys : List Tx} {e : Int} {v : Value} {w : World} (h : VOut ys e v w) : ∃ a c, v = .tuple ⟨[.slice a ys.length c, .int .i64 e]⟩ ∧ Lit w (.slice a ys.length c) ys := by
  obtain ⟨a, c, h1, h2, _, h4⟩ := h
  exact ⟨a, c, h1, a, c, rfl, h2⟩
theorem IdR.out {n : Int} {v : Value} {w : World} (h : IdR n v w) : ∃ a c ys, v = .slice a ys.length c ∧ SM w a ys ∧ Lens ys ∧ ((n < 1 ∨ 64 < n) ∧ ys = [] ∨ (1 ≤ n ∧ n ≤ 64) ∧ ys = mtx n.toNat n.toNat idn) := by
  rcases h with ⟨h1, rfl⟩ | ⟨h1, h2, a, c, rfl, h3⟩
  · exact ⟨none, 0, [], rfl, SM.nil w, nil_lens, .inl ⟨h1, rfl⟩⟩
  · exact ⟨a, c, mtx n.toNat n.toNat idn, by rw [mtx_length], h3, mtx_lens (by omega) (by omega) (fun i _ k _ => small_mono (idn_small i k) (by omega)), .inr ⟨⟨h1, h2⟩, rfl⟩⟩


section
variable {m n p : Nat} {f g : Mx}
end
/-- What the solver answers at numbers. -/
def SolvedR (n : Nat) (f : Mx) (b : Nat → Rat) (v : Value) (w : World) : Prop :=
  ((gj n f n).2 ≠ n ∧ ∃ a c, v = .tuple ⟨[.slice a 0 c, .int .i64 17]⟩) ∨
  ((gj n f n).2 = n ∧ ∃ x a c, (∀ i, i < n → mapp n f x i = b i) ∧ (∀ i, i < n → Small 4000 (x i)) ∧ v = .tuple ⟨[.slice a n c, .int .i64 0]⟩ ∧ Lit w (.slice a n c) (txs n x))
theorem SlvS.solved {n : Nat} {f : Mx} {b : Nat → Rat} {zs : List Tx} {e : Int} {v : Value} {w : World} (h : SlvS n f b zs e) (ho : VOut zs e v w) (hsol : ∀ x, (∀ i, i < n → mapp n f x i = b i) → (gj n f n).2 = n → ∀ i, i < n → Small 4000 (x i)) : SolvedR n f b v w := by
  obtain ⟨a, c, rfl, hl⟩ := ho.lit
  rcases h with ⟨h1, rfl, rfl⟩ | ⟨h1, x, h2, h3⟩
  · exact .inl ⟨h1, a, c, rfl⟩
  · have hs := hsol x h2 h1
    rcases h3 with ⟨⟨i, hi, h4⟩, _⟩ | ⟨_, rfl, rfl⟩
    · exact absurd (hs i hi) h4
    · rw [txs_length] at hl ⊢
      exact .inr ⟨h1, x, a, c, h2, hs, rfl, hl⟩
end Go.Proofs.YtejlpdbiacmfcaaGreatDoor
end
section
set_option linter.unusedSimpArgs false
set_option linter.unusedVariables false
set_option maxHeartbeats 2000000
namespace Go.Proofs.YtejlpdbiacmfcaaGreatDoor
open Go Go.Proofs Go.RowKit Go.Lib

/-- A new list of rows of texts whose places reach over their texts. -/
def OwnMC (w : World) (B : Nat) (a : Option Addr) (c : Nat) (xss : List (List Tx)) : Prop := ∃ A C, w.ownsRow B 29 1 (.slice a xss.length c) xss.length (srws xss A C) ∧ (∀ i, i < xss.length → Sl w (A i) (strs (rw' xss i)) ∧ ∀ g, ab (A i) = some g → Tg w 35 g) ∧ ∀ i, i < xss.length → (rw' xss i).length ≤ C i
/-- A list of rows of texts whose places reach over their texts. -/
def SMC (w : World) (a : Option Addr) (xss : List (List Tx)) : Prop := ∃ A C, Sl w a (srws xss A C) ∧ (∀ i, i < xss.length → Sl w (A i) (strs (rw' xss i))) ∧ ∀ i, i < xss.length → (rw' xss i).length ≤ C i
theorem SMC.sm {w : World} {a : Option Addr} {xss : List (List Tx)} (h : SMC w a xss) : SM w a xss := by
  obtain ⟨A, C, h1, h2, _⟩ := h
  exact ⟨A, C, h1, h2⟩
theorem SMC.stay {w w' : World} {a : Option Addr} {xss : List (List Tx)} (h : SMC w a xss) (hb : Below w.heap.size w w') : SMC w' a xss := by
  obtain ⟨A, C, h1, h2, h3⟩ := h
  exact ⟨A, C, h1.stay hb, fun i hi => (h2 i hi).stay hb, h3⟩
theorem OwnMC.nil (w : World) (B : Nat) : OwnMC w B none 0 [] := ⟨fun _ => none, fun _ => 0, ⟨rfl, .inl ⟨rfl, rfl⟩⟩, fun i hi => absurd hi (by simp), fun i hi => absurd hi (by simp)⟩
theorem OwnMC.stay {w w' : World} {B : Nat} {a : Option Addr} {c : Nat} {xss : List (List Tx)} (h : OwnMC w B a c xss) (hb : Below w.heap.size w w') : OwnMC w' B a c xss := by
  obtain ⟨A, C, h1, h2, h3⟩ := h
  exact ⟨A, C, own_bw h1 hb, fun i hi => ⟨(h2 i hi).1.below hb (fun g hg => ((h2 i hi).2 g hg).lt), fun g hg => ((h2 i hi).2 g hg).below hb⟩, h3⟩
theorem OwnMC.snoc {w w' : World} {B : Nat} {a a' b : Option Addr} {c c' d : Nat} {xss : List (List Tx)} {xs : List Tx} {A : Nat → Option Addr} {C : Nat → Nat}
    (ho : w.ownsRow B 29 1 (.slice a xss.length c) xss.length (srws xss A C)) (h2 : ∀ i, i < xss.length → Sl w (A i) (strs (rw' xss i)) ∧ ∀ g, ab (A i) = some g → Tg w 35 g)
    (h3 : ∀ i, i < xss.length → (rw' xss i).length ≤ C i)
    (hb : Sl w b (strs xs)) (hbt : ∀ g, ab b = some g → Tg w 35 g) (hd : xs.length ≤ d) (hg : w.grownBy w' (ab a)) (ho' : w'.ownsRow B 29 1 (.slice a' (xss.length + 1) c') (xss.length + 1) (srws xss A C ++ [.slice b xs.length d])) : OwnMC w' B a' c' (xss ++ [xs]) := by
  have key : ∀ (b : Option Addr) (vs : List Value), Sl w b vs → (∀ g, ab b = some g → Tg w 35 g) → Sl w' b vs ∧ ∀ g, ab b = some g → Tg w' 35 g := fun b vs h1 h2 =>
    have hne : ∀ g, ab b = some g → ab a ≠ some g := fun g hg e => (h2 g hg).ne (own_tag ho g e) rfl rfl
    ⟨h1.keep hg hne, fun q hq => (h2 q hq).grown hg (hne q hq)⟩
  rw [srws_snoc] at ho'
  refine ⟨_, _, by rw [List.length_append, List.length_singleton]; exact ho', fun i hi => ?_, fun i hi => ?_⟩
  · rw [List.length_append, List.length_singleton] at hi
    by_cases h : i = xss.length
    · subst h; rw [upd_same, rw_app2]; exact key b _ hb hbt
    · rw [upd_ne _ _ h, rw_app1 (by omega)]; exact key _ _ (h2 i (by omega)).1 (h2 i (by omega)).2
  · rw [List.length_append, List.length_singleton] at hi
    by_cases h : i = xss.length
    · subst h; rw [upd_same, rw_app2]; exact hd
    · rw [upd_ne _ _ h, rw_app1 (by omega)]; exact h3 i (by omega)
/-- What square answers, told by its second result. -/
def SqC (n : Nat) (v : Value) (ok : Bool) (w : World) : Prop := ok = true → ∃ (F : Mx) (a : Option Addr) (c : Nat), (∀ i, i < n → ∀ k, k < n → Small 12 (F i k)) ∧ v = .slice a n c ∧ SMC w a (mtx n n F)
theorem SqC.stay {n : Nat} {v : Value} {ok : Bool} {w w' : World} (h : SqC n v ok w) (hb : Below w.heap.size w w') : SqC n v ok w' := fun e => by
  obtain ⟨F, a, c, h1, h2, h3⟩ := h e
  exact ⟨F, a, c, h1, h2, h3.stay hb⟩
theorem SM.rows {w : World} {a : Option Addr} {m n : Nat} {f : Mx} (h : SM w a (mtx m n f)) : ∃ A C, Sl w a (srws (mtx m n f) A C) ∧ ∀ i, i < m → Lit w (.slice (A i) n (C i)) (txs n (f i)) := by
  obtain ⟨A, C, h1, h2⟩ := h
  refine ⟨A, C, h1, fun i hi => ⟨A i, C i, by rw [txs_length], ?_⟩⟩
  have := h2 i (by rw [mtx_length]; exact hi)
  rwa [mtx_row hi] at this
end Go.Proofs.YtejlpdbiacmfcaaGreatDoor
end
section
set_option linter.unusedSimpArgs false
set_option linter.unusedVariables false
set_option maxHeartbeats 1000000
namespace Go.Proofs.YtejlpdbiacmfcaaGreatDoor
open Go Go.Proofs Go.RowKit Go.Lib

theorem pick_calls (x : Int) (n : Nat) (hn : 1 ≤ n) (hn2 : n ≤ 9223372036854775807) (w : World) : Calls Tryz.prog 18 #[.int .i64 x, .int .i64 (n : Nat)] w (Ret fun v w' => (∃ r : Nat, v = .int .i64 (r : Nat) ∧ r < n) ∧ w = w') := by
  obtain ⟨h1, h2, _⟩ := tmod_range x n (by omega)
  refine enter Tryz.func18 rfl Tryz.ntmps18 (Nat.le_of_ble_eq_true rfl) ?_
  first | (refine dr U 4 rfl trivial ?_; refine rem1 rfl rfl (by omega) rfl rfl ?_) | (refine dr U 5 rfl trivial ?_; refine rem1 rfl rfl (by omega) rfl rfl ?_) | (refine dr U 6 rfl trivial ?_; refine rem1 rfl rfl (by omega) rfl rfl ?_) | (refine dr U 7 rfl trivial ?_; refine rem1 rfl rfl (by omega) rfl rfl ?_) | (refine dr U 8 rfl trivial ?_; refine rem1 rfl rfl (by omega) rfl rfl ?_) | (refine dr U 9 rfl trivial ?_; refine rem1 rfl rfl (by omega) rfl rfl ?_) | (refine dr U 10 rfl trivial ?_; refine rem1 rfl rfl (by omega) rfl rfl ?_) | (refine dr U 11 rfl trivial ?_; refine rem1 rfl rfl (by omega) rfl rfl ?_) | (refine dr U 12 rfl trivial ?_; refine rem1 rfl rfl (by omega) rfl rfl ?_) | (refine dr U 13 rfl trivial ?_; refine rem1 rfl rfl (by omega) rfl rfl ?_) | (refine dr U 14 rfl trivial ?_; refine rem1 rfl rfl (by omega) rfl rfl ?_) | (refine dr U 15 rfl trivial ?_; refine rem1 rfl rfl (by omega) rfl rfl ?_)
  refine dr U 600 rfl trivial ?_
  refine cS rfl rfl rfl rfl (fun hq => ?_) (fun hq => ?_)
  · refine dr U 600 rfl (by first | exact True.intro | (simp only [AllP, InR, List.nil_append, List.cons_append, and_true]; omega)) ?_
    refine ret Tryz.results18 rfl ⟨_, rfl, ⟨(x.tmod n + n).toNat, ?_, by omega⟩, rfl⟩
    show Value.int .i64 _ = .int .i64 _
    congr 1; omega
  · refine dr U 600 rfl (by first | exact True.intro | (simp only [AllP, InR, List.nil_append, List.cons_append, and_true]; omega)) ?_
    refine ret Tryz.results18 rfl ⟨_, rfl, ⟨(x.tmod n).toNat, ?_, by omega⟩, rfl⟩
    show Value.int .i64 _ = .int .i64 _
    congr 1; omega

end Go.Proofs.YtejlpdbiacmfcaaGreatDoor
end
section
set_option linter.unusedSimpArgs false
set_option linter.unusedVariables false
set_option maxHeartbeats 1000000
namespace Go.Proofs.YtejlpdbiacmfcaaGreatDoor
open Go Go.Proofs Go.RowKit Go.Lib

theorem SolvedR.full {n : Nat} {f : Mx} {b : Nat → Rat} {v : Value} {w : World} (h : SolvedR n f b v w) (hF : (gj n f n).2 = n) :
    ∃ x a c, (∀ i, i < n → mapp n f x i = b i) ∧ (∀ i, i < n → Small 4000 (x i)) ∧ v = .tuple ⟨[.slice a n c, .int .i64 0]⟩ ∧ Lit w (.slice a n c) (txs n x) := by
  rcases h with ⟨h, _⟩ | ⟨_, h⟩
  · exact absurd hF h
  · exact h
theorem SolvedR.none {n : Nat} {f : Mx} {b : Nat → Rat} {v : Value} {w : World} (h : SolvedR n f b v w) (hF : (gj n f n).2 ≠ n) :
    ∃ a c, v = .tuple ⟨[.slice a 0 c, .int .i64 17]⟩ := by
  rcases h with ⟨_, h⟩ | ⟨h, _⟩
  · exact h
  · exact absurd h hF
end Go.Proofs.YtejlpdbiacmfcaaGreatDoor
end
section
set_option linter.unusedSimpArgs false
set_option linter.unusedVariables false
set_option maxHeartbeats 2000000
namespace Go.Proofs.YtejlpdbiacmfcaaGreatDoor
open Go Go.Proofs Go.RowKit Go.Lib

/-- What a solver answers at numbers, where there is one solution. -/
def SolC (n : Nat) (f : Mx) (b : Nat → Rat) (v : Value) (w : World) : Prop := ∃ x a c, (∀ i, i < n → mapp n f x i = b i) ∧ (∀ i, i < n → Small 4000 (x i)) ∧ v = .tuple ⟨[.slice a n c, .int .i64 0]⟩ ∧ Lit w (.slice a n c) (txs n x) ∧ n ≤ c
theorem pSolveC_calls {n : Nat} (f : Mx) (b : Nat → Rat) (S : Nat) (h0 : 0 < n) (hn : n ≤ 64) (hS : S ≤ 4000) (hf : ∀ i, i < n → ∀ k, k < n → Small S (f i k)) (hb : ∀ i, i < n → Small S (b i)) (hG : grw n S ≤ 1000000) (hF : (gj n f n).2 = n)
    (hsol : ∀ x, (∀ i, i < n → mapp n f x i = b i) → ∀ i, i < n → Small 4000 (x i)) (a b_ : Option Addr) (c d : Nat) (w : World) (hs : SM w a (mtx n n f)) (hl : Lit w (.slice b_ n d) (txs n b)) (ht : TabOk w) :
    Calls Tryz.prog 50 #[.slice a n c, .slice b_ n d] w (Ret fun v w' => SolC n f b v w' ∧ Below w.heap.size w w') := by
  have hf' : ∀ i, i < n → ∀ k, k < n → Small 4000 (f i k) := fun i hi k hk => small_mono (hf i hi k hk) hS
  have hb' : ∀ i, i < n → Small 4000 (b i) := fun i hi => small_mono (hb i hi) hS
  have hlm := mtx_lens (m := n) (n := n) (by omega) (by omega) hf'
  have hlv := txs_lenv (n := n) (by omega) hb'
  have := lSolve_calls (mtx n n f) (txs n b) S a b_ c d w hs hlm.l hlm.l2 hlm.x hl.sl.1 hlv.l hlv.x ht (fun _ => by
    rw [mtx_length, mtx_len h0, txs_length]
    exact ⟨fun i t hi ht => by rw [mtx_mval hf' hi ht]; exact hf i hi t ht, fun i hi => by rw [txs_vval hb' hi]; exact hb i hi, hG⟩)
  rw [mtx_length, txs_length] at this
  refine this.mono ?_
  rintro e w' ⟨v, rfl, ⟨zs, e', h3, h4⟩, hB⟩
  refine ⟨_, rfl, ?_, hB⟩
  have hE : BErr (mtx n n f) (txs n b) 0 := .inr ⟨mtx_xerr h0 h0 hn hn hf', txs_verr h0 hn hb'⟩
  rcases h3 with ⟨h5, h6, _⟩ | ⟨_, h6, _⟩ | ⟨_, _, _, h6⟩
  · exact absurd (h6.uniq hE) h5
  · rw [mtx_length, mtx_len h0, txs_length] at h6; omega
  · rw [mtx_length] at h6
    have h7 := h6.congr (fun i hi k hk => mtx_mval hf' hi hk) (fun i hi => txs_vval hb' hi)
    obtain ⟨a', c', rfl, hl', hc', hg'⟩ := h4
    rcases h7 with ⟨h8, _, _⟩ | ⟨_, x, h9, h10⟩
    · exact absurd hF h8
    · have hsm := hsol x h9
      rcases h10 with ⟨⟨i, hi, h11⟩, _⟩ | ⟨_, rfl, rfl⟩
      · exact absurd (hsm i hi) h11
      · rw [txs_length] at hc' ⊢
        exact ⟨x, a', c', h9, hsm, rfl, ⟨a', c', by rw [txs_length], hl'⟩, hc'⟩
theorem grw7 {n S : Nat} (hn : n ≤ 7) (hS : S ≤ 15) : grw n S ≤ 1000000 :=
  Nat.le_trans (grw_mono2 hS n) (grw_at hn (by decide))
/-- The solutions of a strategy's systems with ints of 14 digits take at most 150 digits. -/
theorem stsol_small {kind n : Int} (hs : strat kind n ≠ []) (hn : n ≤ 7) {b : Nat → Rat} (hb : ∀ i, i < n.toNat → Isn 13000000000000 (b i)) :
    ∀ x, (∀ i, i < n.toNat → mapp n.toNat (nrm (strat kind n)) x i = b i) → ∀ i, i < n.toNat → Small 150 (x i) := fun x hx => by
  have h1 := (strat_kind hs).1
  refine isol_small (B := 13000000000000) (by omega) (fun i k _ _ => (nrm_isn (B := 13) (strat_len7 hn) i k).mono (by omega)) hb (strat_reg hs) hx (fpow_lt (m := 7) (F := 5040) (by omega) (by omega) (fct7 (by omega)) (by decide)) (by omega)
/-- The solutions of a strategy's systems with the bits of a range take at most 12 digits. -/
theorem stsol_bits {kind n : Int} (hs : strat kind n ≠ []) (hn : n ≤ 7) {b : Nat → Rat} (hb : ∀ i, i < n.toNat → Isn 13 (b i)) :
    ∀ x, (∀ i, i < n.toNat → mapp n.toNat (nrm (strat kind n)) x i = b i) → ∀ i, i < n.toNat → Small 12 (x i) := fun x hx => by
  have h1 := (strat_kind hs).1
  refine isol_small (B := 13) (by omega) (fun i k _ _ => nrm_isn (B := 13) (strat_len7 hn) i k) hb (strat_reg hs) hx (fpow_lt (m := 7) (F := 5040) (by omega) (by omega) (fct7 (by omega)) (by decide)) (by omega)
/-- The solutions with six cells and answers of at most 1000 take at most 28 digits. -/
theorem stsol_six {kind n : Int} (hs : strat kind n ≠ []) (hn : n ≤ 6) {b : Nat → Rat} (hb : ∀ i, i < n.toNat → Isn 11000 (b i)) :
    ∀ x, (∀ i, i < n.toNat → mapp n.toNat (nrm (strat kind n)) x i = b i) → ∀ i, i < n.toNat → Small 28 (x i) := fun x hx => by
  have h1 := (strat_kind hs).1
  refine isol_small (B := 11000) (by omega) (fun i k _ _ => (nrm_isn (B := 11) (strat_len6 hn) i k).mono (by omega)) hb (strat_reg hs) hx (fpow_lt (m := 6) (F := 720) (by omega) (by omega) (fct6 (by omega)) (by decide)) (by omega)
end Go.Proofs.YtejlpdbiacmfcaaGreatDoor
end
