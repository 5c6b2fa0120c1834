/-
  Rows of the reference's rational numbers: vectors and matrices of them.
  No conditions: each theorem names its own premises.
  Walks of the reference's Vector, Check, number, vector, matrix, texts, table, zero.
  Conditions: texts take fewer than 2^40 bytes, lists fewer than 2^40 elements.
  Walks of the reference's vector, matrix, texts, table, zero.
  Conditions: texts take fewer than 2^40 bytes, lists at most a million elements.
  Walks of the reference's flip, dot, apply, times, scale, combine.
  Conditions: a bound on the sizes of the numbers.
-/
import Derived.Test.YtejlpdbiacmfcaaGreatDoorYSs
import Derived.Test.YtejlpdbiacmfcaaGreatDoorYVt
import Derived.Test.YtejlpdbiacmfcaaGreatDoorYKa
set_option linter.unusedSimpArgs false
set_option linter.unusedVariables false
namespace Go.Proofs.YtejlpdbiacmfcaaGreatDoor
section
set_option maxHeartbeats 1000000
open Go Go.Proofs Go.RowKit Go.Lib

theorem RdI.push {w w' : World} {a : Option Addr} {c : Nat} {xs : List Nat} {row : Option Nat} (h : RdI w a c xs) {t : Nat} (hg : w.grownBy w' row) (hr : ∀ g, row = some g → Tg w t g) (ht : Nat.beq 3 t = false := by rfl) : RdI w' a c xs := by
 have hne : ∀ g, ab a = some g → row ≠ some g := fun g hga e => (h.2.2 g hga).ne (hr g e) ht rfl
 exact ⟨h.1.keep hg hne, h.2.1, fun g hga => (h.2.2 g hga).grown hg (hne g hga)⟩
theorem QR.push {w w' : World} {v : Value} {r : Rat} {row : Option Nat} (h : QR w v r) {t : Nat} (hg : w.grownBy w' row) (hr : ∀ g, row = some g → Tg w t g) (ht : Nat.beq 3 t = false := by rfl) : QR w' v r := by
 obtain ⟨an, cn, ad, cd, rfl, h1, h2⟩ := h
 exact ⟨an, cn, ad, cd, rfl, h1.push hg hr ht, h2.push hg hr ht⟩
theorem QR.shape {w : World} {v : Value} {r : Rat} (h : QR w v r) : ∃ m a1 n1 c1 a2 n2 c2, v = .agg ⟨[.bool m, .slice a1 n1 c1, .slice a2 n2 c2]⟩ := by
 obtain ⟨an, cn, ad, cd, rfl, h1, h2⟩ := h
 exact ⟨_, _, _, _, _, _, _, rfl⟩
def ElsQ (w : World) (cs : List Value) (n : Nat) (f : Nat → Rat) : Prop := cs.length = n * 3 ∧ ∀ i, i < n → QR w (.agg ⟨el cs i⟩) (f i)
theorem ElsQ.stay {w w' : World} {cs : List Value} {n : Nat} {f : Nat → Rat} (h : ElsQ w cs n f) (hb : Below w.heap.size w w') : ElsQ w' cs n f := ⟨h.1, fun i hi => (h.2 i hi).stay hb⟩
theorem ElsQ.push {w w' : World} {cs : List Value} {n : Nat} {f : Nat → Rat} {row : Option Nat} (h : ElsQ w cs n f) {t : Nat} (hg : w.grownBy w' row) (hr : ∀ g, row = some g → Tg w t g) (ht : Nat.beq 3 t = false := by rfl) : ElsQ w' cs n f := ⟨h.1, fun i hi => (h.2 i hi).push hg hr ht⟩
theorem ElsQ.snoc {w : World} {cs t : List Value} {n : Nat} {f : Nat → Rat} (h : ElsQ w cs n f) (ht : QR w (.agg ⟨t⟩) (f n)) : ElsQ w (cs ++ t) (n + 1) f := by
 obtain ⟨m, a1, n1, c1, a2, n2, c2, e⟩ := ht.shape
 have hl : t.length = 3 := by simp only [Value.agg.injEq, Array.mk.injEq] at e; rw [e]; rfl
 refine ⟨by rw [List.length_append, h.1, hl]; omega, fun i hi => ?_⟩
 by_cases hn : i < n
 ·rw [el_app (by rw [h.1]; omega)]; exact h.2 i hn
 ·obtain rfl : i = n := by omega
  rw [el_last h.1 hl]; exact ht
theorem ElsQ.nil (w : World) (f : Nat → Rat) : ElsQ w [] 0 f := ⟨rfl, fun i hi => absurd hi (by omega)⟩
def VecQ (w : World) (a : Option Addr) (n : Nat) (f : Nat → Rat) : Prop := ∃ cs, ElsQ w cs n f ∧ Sl w a cs ∧ ∀ g, ab a = some g → Tg w 86 g
theorem VecQ.stay {w w' : World} {a : Option Addr} {n : Nat} {f : Nat → Rat} (h : VecQ w a n f) (hb : Below w.heap.size w w') : VecQ w' a n f := by
 obtain ⟨cs, h1, h2, h3⟩ := h
 exact ⟨cs, h1.stay hb, h2.below hb (fun g hg => (h3 g hg).lt), fun g hg => (h3 g hg).below hb⟩
theorem own_vecq {w : World} {base : Nat} {a : Option Addr} {m c : Nat} {cs : List Value} {f : Nat → Rat} (h : w.ownsRow base 86 3 (.slice a m c) m cs) (he : ElsQ w cs m f) : VecQ w a m f :=
 ⟨cs, he, own_sl3 h, own_tag h⟩
theorem elem_loadq {w W : World} {cs : List Value} {n i g o : Nat} {f : Nat → Rat} (hE : ElsQ w cs n f) (hi : i < n) (hs : Sl W (some ⟨g, o, none⟩) cs) :
  (loadVar 86 ((⟨g, o, none⟩ : Addr).add (((i : Nat) : Int).toNat * 3))).run Tryz.prog W = .ok (.agg ⟨el cs i⟩) W := by
 rw [add_plain, Int.toNat_natCast]
 refine run_load_mid ag_q (fun j v hv => ?_) (el_length (by rw [hE.1]; omega))
 obtain ⟨g', o', he, hc⟩ := hs _ _ (el_get hv)
 cases he
 rw [Nat.add_assoc]; exact hc
def MatQ (w : World) (a : Option Addr) (m n : Nat) (f : Nat → Nat → Rat) : Prop := ∃ A C, Sl w a (rws m n A C) ∧ (∀ i, i < m → VecQ w (A i) n (f i) ∧ n ≤ C i) ∧ ∀ g, ab a = some g → Tg w 169 g
theorem MatQ.stay {w w' : World} {a : Option Addr} {m n : Nat} {f : Nat → Nat → Rat} (h : MatQ w a m n f) (hb : Below w.heap.size w w') : MatQ w' a m n f := by
 obtain ⟨A, C, h1, h2, h3⟩ := h
 exact ⟨A, C, h1.below hb (fun g hg => (h3 g hg).lt), fun i hi => ⟨(h2 i hi).1.stay hb, (h2 i hi).2⟩, fun g hg => (h3 g hg).below hb⟩
theorem VecQ.push {w w' : World} {a : Option Addr} {n : Nat} {f : Nat → Rat} {row : Option Nat} {t : Nat} (h : VecQ w a n f) (hg : w.grownBy w' row) (hr : ∀ g, row = some g → Tg w t g) (ht : Nat.beq 3 t = false := by rfl) (hf : Nat.beq 86 t = false := by rfl) : VecQ w' a n f := by
 obtain ⟨cs, h1, h2, h3⟩ := h
 have hne : ∀ g, ab a = some g → row ≠ some g := fun g hga e => (h3 g hga).ne (hr g e) hf rfl
 exact ⟨cs, h1.push hg hr ht, h2.keep hg hne, fun g hga => (h3 g hga).grown hg (hne g hga)⟩
def RwsQ (w : World) (m n : Nat) (A : Nat → Option Addr) (C : Nat → Nat) (f : Nat → Nat → Rat) : Prop := ∀ i, i < m → VecQ w (A i) n (f i) ∧ n ≤ C i
theorem RwsQ.stay {w w' : World} {m n : Nat} {A : Nat → Option Addr} {C : Nat → Nat} {f : Nat → Nat → Rat} (h : RwsQ w m n A C f) (hb : Below w.heap.size w w') : RwsQ w' m n A C f := fun i hi => ⟨(h i hi).1.stay hb, (h i hi).2⟩
theorem RwsQ.push {w w' : World} {m n : Nat} {A : Nat → Option Addr} {C : Nat → Nat} {f : Nat → Nat → Rat} {row : Option Nat} {t : Nat} (h : RwsQ w m n A C f) (hg : w.grownBy w' row) (hr : ∀ g, row = some g → Tg w t g) (ht : Nat.beq 3 t = false := by rfl) (hf : Nat.beq 86 t = false := by rfl) : RwsQ w' m n A C f := fun i hi => ⟨(h i hi).1.push hg hr ht hf, (h i hi).2⟩
theorem RwsQ.snoc {w : World} {m n : Nat} {A : Nat → Option Addr} {C : Nat → Nat} {f : Nat → Nat → Rat} {a : Option Addr} {c : Nat} (h : RwsQ w m n A C f) (hv : VecQ w a n (f m)) (hc : n ≤ c) : RwsQ w (m + 1) n (upd A m a) (upd C m c) f := by
 intro i hi
 by_cases hm : i = m
 ·subst hm; rw [upd_same, upd_same]; exact ⟨hv, hc⟩
 ·rw [upd_ne _ _ hm, upd_ne _ _ hm]; exact h i (by omega)
theorem RwsQ.none (w : World) (n : Nat) (A : Nat → Option Addr) (C : Nat → Nat) (f : Nat → Nat → Rat) : RwsQ w 0 n A C f := fun i hi => absurd hi (by omega)
def OwnQ (w : World) (base n : Nat) (A : Nat → Option Addr) (L C : Nat → Nat) (f : Nat → Nat → Rat) : Prop :=
 (∀ j, j < n → ∃ cs, w.ownsRow base 86 3 (.slice (A j) (L j) (C j)) (L j) cs ∧ ElsQ w cs (L j) (f j)) ∧ ∀ j j', j < n → j' < n → j ≠ j' → ∀ g, ab (A j) = some g → ab (A j') ≠ some g
theorem OwnQ.keep {w w' : World} {base n t : Nat} {A : Nat → Option Addr} {L C : Nat → Nat} {f : Nat → Nat → Rat} {row : Option Nat} (h : OwnQ w base n A L C f) (hg : w.grownBy w' row) (hr : ∀ g, row = some g → Tg w t g) (ht : Nat.beq 3 t = false) (hf : Nat.beq 86 t = false) : OwnQ w' base n A L C f :=
 ⟨fun j hj => by
  obtain ⟨cs, h1, h2⟩ := h.1 j hj
  exact ⟨cs, own_keep h1 hg (fun g hga e => (own_tag h1 g hga).ne (hr g e) hf rfl), h2.push hg hr ht⟩, h.2⟩
theorem OwnQ.below {w w' : World} {base n : Nat} {A : Nat → Option Addr} {L C : Nat → Nat} {f : Nat → Nat → Rat} (h : OwnQ w base n A L C f) (hb : Below w.heap.size w w') : OwnQ w' base n A L C f :=
 ⟨fun j hj => by
  obtain ⟨cs, h1, h2⟩ := h.1 j hj
  exact ⟨cs, own_bw h1 hb, h2.stay hb⟩, h.2⟩
theorem OwnQ.grow {w w' : World} {base n k : Nat} {A : Nat → Option Addr} {L C : Nat → Nat} {f : Nat → Nat → Rat} {a' : Option Addr} {c' : Nat} {cs' : List Value} (h : OwnQ w base n A L C f) (hk : k < n) (hg : w.grownBy w' (ab (A k)))
  (ho : w'.ownsRow base 86 3 (.slice a' (L k + 1) c') (L k + 1) cs') (he : ElsQ w' cs' (L k + 1) (f k)) (hp : ab a' = ab (A k) ∨ ab a' = some w.heap.size) : OwnQ w' base n (upd A k a') (upd L k (L k + 1)) (upd C k c') f := by
 obtain ⟨csk, hok, hek⟩ := h.1 k hk
 have htag := own_tag hok
 have hlt : ∀ j, j < n → ∀ g, ab (A j) = some g → g < w.heap.size := fun j hj g hga => by
  obtain ⟨cs, h1, _⟩ := h.1 j hj
  exact (own_block h1 g hga).2
 refine ⟨fun j hj => ?_, fun j j' hj hj' hne g hga hga' => ?_⟩
 ·by_cases hjk : j = k
  ·subst hjk; rw [upd_same, upd_same, upd_same]; exact ⟨cs', ho, he⟩
  ·rw [upd_ne _ _ hjk, upd_ne _ _ hjk, upd_ne _ _ hjk]
   obtain ⟨cs, h1, h2⟩ := h.1 j hj
   exact ⟨cs, own_keep h1 hg (fun g hga e => h.2 j k hj hk hjk g hga e), h2.push hg htag⟩
 ·by_cases hjk : j = k
  ·subst hjk
   rw [upd_same] at hga
   rw [upd_ne _ _ (fun e => hne e.symm)] at hga'
   rcases hp with hp | hp
   ·exact h.2 j j' hj hj' hne g (hp ▸ hga) hga'
   ·have := hlt j' hj' g hga'; rw [hga] at hp; cases hp; omega
  ·rw [upd_ne _ _ hjk] at hga
   by_cases hjk' : j' = k
   ·subst hjk'
    rw [upd_same] at hga'
    rcases hp with hp | hp
    ·exact h.2 j j' hj hj' hne g hga (hp ▸ hga')
    ·have := hlt j hj g hga; rw [hga'] at hp; cases hp; omega
   ·rw [upd_ne _ _ hjk'] at hga'
    exact h.2 j j' hj hj' hne g hga hga'
theorem OwnQ.snoc {w : World} {base i n : Nat} {A : Nat → Option Addr} {C : Nat → Nat} {f : Nat → Nat → Rat} {a : Option Addr} {c B : Nat} {cs : List Value} (h : OwnQ w base i A (fun _ => n) C f) (ho : w.ownsRow B 86 3 (.slice a n c) n cs) (he : ElsQ w cs n (f i)) (hB : base ≤ B)
  (hlt : ∀ j, j < i → ∀ g, ab (A j) = some g → g < B) : OwnQ w base (i + 1) (upd A i a) (fun _ => n) (upd C i c) f := by
 refine ⟨fun j hj => ?_, fun j j' hj hj' hne g hga hga' => ?_⟩
 ·by_cases hji : j = i
  ·subst hji; rw [upd_same, upd_same]; exact ⟨cs, own_mono2 ho hB, he⟩
  ·rw [upd_ne _ _ hji, upd_ne _ _ hji]; exact h.1 j (by omega)
 ·by_cases hji : j = i
  ·subst hji
   rw [upd_same] at hga
   rw [upd_ne _ _ (fun e => hne e.symm)] at hga'
   have h1 := (own_block ho g hga).1
   have h2 := hlt j' (by omega) g hga'
   omega
  ·rw [upd_ne _ _ hji] at hga
   by_cases hji' : j' = i
   ·subst hji'
    rw [upd_same] at hga'
    have h1 := (own_block ho g hga').1
    have h2 := hlt j (by omega) g hga
    omega
   ·rw [upd_ne _ _ hji'] at hga'
    exact h.2 j j' (by omega) (by omega) hne g hga hga'
theorem OwnQ.start (w : World) (base n : Nat) (f : Nat → Nat → Rat) : OwnQ w base n (fun _ => none) (fun _ => 0) (fun _ => 0) f :=
 ⟨fun j hj => ⟨[], ⟨rfl, .inl ⟨rfl, rfl⟩⟩, ElsQ.nil _ _⟩, fun j j' _ _ _ g h => by cases h⟩
theorem ElsQ.one {w : World} {cs : List Value} {n : Nat} {f : Nat → Rat} (h : ElsQ w cs n f) : ∀ u ∈ cs, u.oneCell' = true := by
 intro u hu
 obtain ⟨q, hq, rfl⟩ := List.getElem_of_mem hu
 have hl := h.1
 have hi : q / 3 < n := by omega
 obtain ⟨m, a1, n1, c1, a2, n2, c2, e⟩ := (h.2 (q / 3) hi).shape
 simp only [Value.agg.injEq, Array.mk.injEq] at e
 have h1 : (el cs (q / 3))[q % 3]? = some cs[q] := by
  unfold el
  rw [List.getElem?_take, if_pos (by omega), List.getElem?_drop, show q / 3 * 3 + q % 3 = q by omega, List.getElem?_eq_getElem hq]
 rw [e] at h1
 have hm := List.mem_of_getElem? h1
 simp at hm
 rcases hm with h | h | h <;> rw [h] <;> rfl
theorem OwnQ.growp {w w' : World} {base n k : Nat} {A : Nat → Option Addr} {L C : Nat → Nat} {f : Nat → Nat → Rat} {a' : Option Addr} {c' : Nat} {cs' : List Value} {q : Nat} (h : OwnQ w base n A L C f) (hk : k < n) (hg : w.grownBy w' (ab (A k)))
  (ho : w'.ownsRow base 86 3 (.slice a' (q) c') (q) cs') (he : ElsQ w' cs' (q) (f k)) (hp : ab a' = ab (A k) ∨ ab a' = some w.heap.size) : OwnQ w' base n (upd A k a') (upd L k (q)) (upd C k c') f := by
 obtain ⟨csk, hok, hek⟩ := h.1 k hk
 have htag := own_tag hok
 have hlt : ∀ j, j < n → ∀ g, ab (A j) = some g → g < w.heap.size := fun j hj g hga => by
  obtain ⟨cs, h1, _⟩ := h.1 j hj
  exact (own_block h1 g hga).2
 refine ⟨fun j hj => ?_, fun j j' hj hj' hne g hga hga' => ?_⟩
 ·by_cases hjk : j = k
  ·subst hjk; rw [upd_same, upd_same, upd_same]; exact ⟨cs', ho, he⟩
  ·rw [upd_ne _ _ hjk, upd_ne _ _ hjk, upd_ne _ _ hjk]
   obtain ⟨cs, h1, h2⟩ := h.1 j hj
   exact ⟨cs, own_keep h1 hg (fun g hga e => h.2 j k hj hk hjk g hga e), h2.push hg htag⟩
 ·by_cases hjk : j = k
  ·subst hjk
   rw [upd_same] at hga
   rw [upd_ne _ _ (fun e => hne e.symm)] at hga'
   rcases hp with hp | hp
   ·exact h.2 j j' hj hj' hne g (hp ▸ hga) hga'
   ·have := hlt j' hj' g hga'; rw [hga] at hp; cases hp; omega
  ·rw [upd_ne _ _ hjk] at hga
   by_cases hjk' : j' = k
   ·subst hjk'
    rw [upd_same] at hga'
    rcases hp with hp | hp
    ·exact h.2 j j' hj hj' hne g hga (hp ▸ hga')
    ·have := hlt j hj g hga; rw [hga'] at hp; cases hp; omega
   ·rw [upd_ne _ _ hjk'] at hga'
    exact h.2 j j' hj hj' hne g hga hga'
theorem ElsQ.congr {w : World} {cs : List Value} {n : Nat} {f g : Nat → Rat} (h : ElsQ w cs n f) (he : ∀ i, i < n → f i = g i) : ElsQ w cs n g := ⟨h.1, fun i hi => by rw [← he i hi]; exact h.2 i hi⟩
theorem ElsQ.app {w : World} {cs ds : List Value} {n p : Nat} {f g : Nat → Rat} (h : ElsQ w cs n f) (h' : ElsQ w ds p g) : ElsQ w (cs ++ ds) (n + p) (fun t => if t < n then f t else g (t - n)) := by
 refine ⟨by rw [List.length_append, h.1, h'.1]; omega, fun i hi => ?_⟩
 show QR w _ (if i < n then f i else g (i - n))
 by_cases hn : i < n
 ·rw [el_app (by rw [h.1]; omega), if_pos hn]; exact h.2 i hn
 ·rw [el_app2 h.1 (by omega), if_neg hn]; exact h'.2 (i - n) (by omega)
theorem ElsQ.set {w : World} {cs vs : List Value} {n j : Nat} {f : Nat → Rat} {x : Rat} (h : ElsQ w cs n f) (hj : j < n) (hx : QR w (.agg ⟨vs⟩) x) (hv : vs.length = 3) : ElsQ w (els cs j vs) n (upd f j x) := by
 have hl : j * 3 + 3 ≤ cs.length := by rw [h.1]; omega
 refine ⟨by rw [els_length hl hv]; exact h.1, fun i hi => ?_⟩
 rw [el_els hl hv (by rw [h.1]; omega)]
 by_cases hij : i = j
 ·subst hij; rw [if_pos rfl, upd_same]; exact hx
 ·rw [if_neg hij, upd_ne _ _ hij]; exact h.2 i hi
theorem OwnQ.congr {w : World} {base n : Nat} {A : Nat → Option Addr} {L C : Nat → Nat} {f g : Nat → Nat → Rat} (h : OwnQ w base n A L C f) (he : ∀ i, i < n → ∀ t, t < L i → f i t = g i t) : OwnQ w base n A L C g :=
 ⟨fun j hj => by
  obtain ⟨cs, h1, h2⟩ := h.1 j hj
  exact ⟨cs, h1, h2.congr (he j hj)⟩, h.2⟩
theorem OwnQ.put {w w' : World} {base n k : Nat} {A : Nat → Option Addr} {L C : Nat → Nat} {f : Nat → Nat → Rat} {f' : Nat → Rat} {cs' : List Value} (h : OwnQ w base n A L C f) (hk : k < n) (hg : w.grownBy w' (ab (A k)))
  (ho : w'.ownsRow base 86 3 (.slice (A k) (L k) (C k)) (L k) cs') (he : ElsQ w' cs' (L k) f') : OwnQ w' base n A L C (upd f k f') := by
 obtain ⟨csk, hok, hek⟩ := h.1 k hk
 have htag := own_tag hok
 refine ⟨fun j hj => ?_, h.2⟩
 by_cases hjk : j = k
 ·subst hjk; rw [upd_same]; exact ⟨cs', ho, he⟩
 ·rw [upd_ne _ _ hjk]
  obtain ⟨cs, h1, h2⟩ := h.1 j hj
  exact ⟨cs, own_keep h1 hg (fun g hga e => h.2 j k hj hk hjk g hga e), h2.push hg htag⟩
theorem OwnQ.swap {w : World} {base m n r i : Nat} {A : Nat → Option Addr} {C : Nat → Nat} {f : Nat → Nat → Rat} (h : OwnQ w base m A (fun _ => n) C f) (hr : r < m) (hi : i < m) :
  OwnQ w base m (upd (upd A r (A i)) i (A r)) (fun _ => n) (upd (upd C r (C i)) i (C r)) (swp r i f) := by
 have key : ∀ j, ∃ j', (j < m → j' < m) ∧ upd (upd A r (A i)) i (A r) j = A j' ∧ upd (upd C r (C i)) i (C r) j = C j' ∧ swp r i f j = f j' ∧ j' = (if j = i then r else if j = r then i else j) := by
  intro j
  refine ⟨if j = i then r else if j = r then i else j, ?_, ?_, ?_, ?_, rfl⟩
  ·intro hj; split
   ·exact hr
   ·split
    ·exact hi
    ·exact hj
  ·unfold upd; split
   ·rfl
   ·split <;> rfl
  ·unfold upd; split
   ·rfl
   ·split <;> rfl
  ·unfold swp
   by_cases h1 : j = i
   ·subst h1
    rw [if_pos rfl, if_pos rfl]
    split
    ·rename_i h2; rw [h2]
    ·rfl
   ·rw [if_neg h1, if_neg h1]
    split <;> rfl
 refine ⟨fun j hj => ?_, fun j j' hj hj' hne g hga hga' => ?_⟩
 ·obtain ⟨q, h1, h2, h3, h4, _⟩ := key j
  rw [h2, h3, h4]; exact h.1 q (h1 hj)
 ·obtain ⟨q, h1, h2, _, _, hq⟩ := key j
  obtain ⟨q', h1', h2', _, _, hq'⟩ := key j'
  rw [h2] at hga
  rw [h2'] at hga'
  refine h.2 q q' (h1 hj) (h1' hj') ?_ g hga hga'
  rw [hq, hq']
  split <;> split <;> (try split) <;> (try split) <;> omega
end
section
set_option maxHeartbeats 2000000
open Go Go.Proofs Go.RowKit Go.Lib

theorem gVector_calls (xs : List Tx) (a : Option Addr) (c : Nat) (w : World) (hs : Sl w a (strs xs)) (hl : xs.length ≤ 1099511627776) (hx : ∀ j, j < xs.length → (xs.getD j []).length ≤ 1099511627776) :
  Calls Tryz.prog 71 #[.slice a xs.length c] w (Ret fun v w' => (∃ e, v = .int .i64 e ∧ VErr xs e) ∧ Below w.heap.size w w') := by
 refine enter Tryz.func71 rfl Tryz.ntmps71 (Nat.le_of_ble_eq_true rfl) ?_
 refine dT rfl ?_
 refine cS rfl rfl rfl rfl (fun hq => ?_) (fun hq => ?_)
 ·refine dT rfl ?_
  exact ret Tryz.results71 rfl ⟨_, rfl, ⟨3, rfl, .inl ⟨by omega, rfl⟩⟩, Below.refl _ _⟩
 have h0 : 0 < xs.length := by omega
 refine dT rfl ?_
 refine cS rfl rfl rfl rfl (fun hq2 => ?_) (fun hq2 => ?_)
 ·refine dT rfl ?_
  exact ret Tryz.results71 rfl ⟨_, rfl, ⟨4, rfl, .inr (.inl ⟨by omega, rfl⟩)⟩, Below.refl _ _⟩
 have h64 : xs.length ≤ 64 := by omega
 refine dT rfl ?_
 refine loopR (fun fr w' m => ∃ (i : Nat), fr = [(0, .slice a xs.length c), (3, .int .i64 (i : Nat))] ∧ i ≤ xs.length ∧ (∀ j, j < i → QErr (xs.getD j []) 0) ∧ Below w.heap.size w w' ∧ m = xs.length - i)
  ⟨0, rfl, by omega, fun j hj => absurd hj (by omega), Below.refl _ _, rfl⟩ ⟨rfl, rfl, trivial⟩ ?_
 rintro fr w1 m ⟨i, rfl, hi, hok, hB, rfl⟩
 refine dT rfl ?_
 refine cS rfl rfl rfl rfl (fun hq => ?_) (fun hq => ?_)
 ·have hil : i < xs.length := by omega
  refine dT rfl ?_
  refine il U rfl rfl rfl rfl rfl rfl rfl (fun _ => rfl) rfl i rfl hil (hs.stay hB) (getS hil) ?_
  refine call (f := 109) rfl rfl cb109 (rcheck_calls (xs.getD i []) (hx i hil) w1) ?_
  rintro v w2 ⟨⟨e, rfl, he⟩, hB2⟩
  have hB2' := bl_tr hB hB2 hB.size
  refine ⟨_, rfl, ?_⟩
  refine dT rfl ?_
  refine cS rfl rfl rfl rfl (fun hq3 => ?_) (fun hq3 => ?_)
  ·refine dT rfl ?_
   exact ret Tryz.results71 rfl ⟨_, rfl, ⟨e, rfl, .inr (.inr (.inl ⟨h0, h64, i, hil, hok, he, hq3⟩))⟩, hB2'⟩
  obtain rfl := Classical.not_not.1 hq3
  refine dS rfl ?_
  refine rend _ _ ⟨i + 1, rfl, by omega, fun j hj => ?_, hB2', rfl⟩ (by omega) ⟨rfl, iv (by omega), trivial⟩
  rcases Nat.lt_succ_iff_lt_or_eq.1 hj with h | rfl
  ·exact hok j h
  ·exact he
 ·obtain rfl : i = xs.length := by omega
  refine dT rfl ?_
  exact ret Tryz.results71 rfl ⟨_, rfl, ⟨0, rfl, .inr (.inr (.inr ⟨h0, h64, hok, rfl⟩))⟩, hB⟩

theorem gCheck_calls (xss : List (List Tx)) (a : Option Addr) (c : Nat) (w : World) (hs : SM w a xss) (hl : xss.length ≤ 1099511627776) (hl2 : ∀ i, i < xss.length → (rw' xss i).length ≤ 1099511627776) (hx : ∀ i, i < xss.length → ∀ j, j < (rw' xss i).length → ((rw' xss i).getD j []).length ≤ 1099511627776) :
  Calls Tryz.prog 170 #[.slice a xss.length c] w (Ret fun v w' => (∃ e, v = .int .i64 e ∧ XErr xss e) ∧ Below w.heap.size w w') := by
 obtain ⟨A, C, hSl, hR⟩ := hs
 refine enter Tryz.func170 rfl Tryz.ntmps170 (Nat.le_of_ble_eq_true rfl) ?_
 refine dT rfl ?_
 refine cS rfl rfl rfl rfl (fun hq => ?_) (fun hq => ?_)
 ·refine dT rfl ?_
  exact ret Tryz.results170 rfl ⟨_, rfl, ⟨3, rfl, .inl ⟨.inl (by omega), rfl⟩⟩, Below.refl _ _⟩
 have h0 : 0 < xss.length := by omega
 have hb0 := hl2 0 h0
 refine dT rfl ?_
 refine il U rfl rfl rfl rfl rfl rfl rfl (fun _ => rfl) rfl 0 rfl h0 hSl (srws_get h0) ?_
 refine dT rfl ?_
 refine cS rfl rfl rfl rfl (fun hq1 => ?_) (fun hq1 => ?_)
 ·refine dT rfl ?_
  exact ret Tryz.results170 rfl ⟨_, rfl, ⟨3, rfl, .inl ⟨.inr (by omega), rfl⟩⟩, Below.refl _ _⟩
 have h1 : 0 < (rw' xss 0).length := by omega
 refine dT rfl ?_
 refine cS rfl rfl rfl rfl (fun hq2 => ?_) (fun hq2 => ?_)
 ·refine dT rfl ?_
  exact ret Tryz.results170 rfl ⟨_, rfl, ⟨4, rfl, .inr (.inl ⟨h0, h1, .inl (by omega), rfl⟩)⟩, Below.refl _ _⟩
 refine dT rfl ?_
 refine il U rfl rfl rfl rfl rfl rfl rfl (fun _ => rfl) rfl 0 rfl h0 hSl (srws_get h0) ?_
 refine dT rfl ?_
 refine cS rfl rfl rfl rfl (fun hq3 => ?_) (fun hq3 => ?_)
 ·refine dT rfl ?_
  exact ret Tryz.results170 rfl ⟨_, rfl, ⟨4, rfl, .inr (.inl ⟨h0, h1, .inr (by omega), rfl⟩)⟩, Below.refl _ _⟩
 have h64 : xss.length ≤ 64 := by omega
 have h65 : (rw' xss 0).length ≤ 64 := by omega
 refine dT rfl ?_
 refine loopR (fun fr w' mm => ∃ (i : Nat), fr = [(0, .slice a xss.length c), (3, .int .i64 (i : Nat))] ∧ i ≤ xss.length ∧ (∀ j, j < i → rowOk xss j) ∧ Below w.heap.size w w' ∧ mm = xss.length - i)
  ⟨0, rfl, by omega, fun j hj => absurd hj (by omega), Below.refl _ _, rfl⟩ ⟨rfl, rfl, trivial⟩ ?_
 rintro fr w1 mm ⟨i, rfl, hi, hok, hB, rfl⟩
 refine dT rfl ?_
 refine cS rfl rfl rfl rfl (fun hq => ?_) (fun hq => ?_)
 ·have hil : i < xss.length := by omega
  have hSl1 := hSl.stay hB
  obtain ⟨ga, oa, rfl, _⟩ := hSl.at (j := 0) (by simp [srws]; omega)
  refine dT rfl ?_
  refine dwn 9 (fun W => Sl W (some ⟨ga, oa, none⟩) (srws xss A C)) hmo ?_
  intro w2 hh2 hg2
  have hB12 : Below w1.heap.size w1 w2 := (Below.refl _ _).grown hg2 (Nat.le_refl _) (fun k e => by cases e)
  have hB2 := bl_tr hB hB12 hB.size
  have hC2 := hSl.stay hB2
  have hl3 : ∀ W, Sl W (some ⟨ga, oa, none⟩) (srws xss A C) → (loadVar 29 ((⟨ga, oa, none⟩ : Addr).add (((i : Nat) : Int).toNat * 1))).run Tryz.prog W = .ok (.slice (A i) (rw' xss i).length (C i)) W := fun W h => run_load_cell U rfl (by simpa [add_plain] using slc2 h (srws_get hil))
  have hl7 : ∀ W, Sl W (some ⟨ga, oa, none⟩) (srws xss A C) → (loadVar 29 ((⟨ga, oa, none⟩ : Addr).add ((0 : Int).toNat * 1))).run Tryz.prog W = .ok (.slice (A 0) (rw' xss 0).length (C 0)) W := fun W h => run_load_cell U rfl (by simpa [add_plain] using slc2 h (srws_get h0))
  refine dq U [0,1,2,3,4,5,6,7,8] [(3, .slice (A i) (rw' xss i).length (C i)), (7, .slice (A 0) (rw' xss 0).length (C 0))] (by kernel_rfl) rfl rfl hC2 (by simp only [AllP, InR, List.nil_append, List.cons_append]; (repeat' apply And.intro); all_goals first | exact True.intro | omega | (with_reducible exact hl3) | (with_reducible exact hl7)) ?_
  refine d1 rfl rfl (fun _ => hC2) ?_
  refine cS rfl rfl rfl rfl (fun hq4 => ?_) (fun hq4 => ?_)
  ·refine d2 ?_; refine dend rfl (fun h => by cases h) ?_
   refine dT rfl ?_
   exact ret Tryz.results170 rfl ⟨_, rfl, ⟨3, rfl, .inr (.inr (.inl ⟨h0, h1, h64, h65, i, hil, hok, .inl ⟨fun h => hq4 (by rw [h]), rfl⟩⟩))⟩, hB2⟩
  have hlen : (rw' xss i).length = (rw' xss 0).length := by omega
  refine d2 ?_; refine dend rfl (fun h => by cases h) ?_
  refine dT rfl ?_
  refine il U rfl rfl rfl rfl rfl rfl rfl (fun _ => rfl) rfl i rfl hil hC2 (srws_get hil) ?_
  refine call (f := 71) rfl rfl cb71 (gVector_calls (rw' xss i) (A i) (C i) w2 ((hR i hil).stay hB2) (hl2 i hil) (hx i hil)) ?_
  rintro v w3 ⟨⟨e, rfl, he⟩, hB3⟩
  have hB3' := bl_tr hB2 hB3 hB2.size
  refine ⟨_, rfl, ?_⟩
  refine dT rfl ?_
  refine cS rfl rfl rfl rfl (fun hq5 => ?_) (fun hq5 => ?_)
  ·refine dT rfl ?_
   exact ret Tryz.results170 rfl ⟨_, rfl, ⟨e, rfl, .inr (.inr (.inl ⟨h0, h1, h64, h65, i, hil, hok, .inr ⟨hlen, hq5, he⟩⟩))⟩, hB3'⟩
  obtain rfl := Classical.not_not.1 hq5
  refine dS rfl ?_
  refine rend _ _ ⟨i + 1, rfl, by omega, fun j hj => ?_, hB3', rfl⟩ (by omega) ⟨rfl, iv (by omega), trivial⟩
  rcases Nat.lt_succ_iff_lt_or_eq.1 hj with h | rfl
  ·exact hok j h
  ·exact ⟨hlen, he⟩
 ·obtain rfl : i = xss.length := by omega
  refine dT rfl ?_
  exact ret Tryz.results170 rfl ⟨_, rfl, ⟨0, rfl, .inr (.inr (.inr ⟨h0, h1, h64, h65, hok, rfl⟩))⟩, hB⟩

theorem gnumber_calls (s : Tx) (hs : s.length ≤ 1099511627776) (hq : QErr s 0) (w : World) :
  Calls Tryz.prog 172 #[.string ⟨⟨s⟩⟩] w (Ret fun v w' => QR w' v (qval s) ∧ Below w.heap.size w w') := by
 refine enter Tryz.func172 rfl Tryz.ntmps172 (Nat.le_of_ble_eq_true rfl) ?_
 refine dT rfl ?_
 refine al U rfl rfl rfl rfl ?_
 intro b2 w0 hb2 hs0 hk2 hg0
 have hB0 : Below w.heap.size w w0 := (Below.refl _ _).grown hg0 (Nat.le_refl _) (fun k e => by cases e)
 refine dT rfl ?_
 refine call (f := 100) rfl rfl cb100 (rread_calls s hs w0) ?_
 rintro v w1 ⟨hr, hB1⟩
 obtain ⟨m, a1, n1, c1, a2, n2, c2, e, rfl, hqe, hqr⟩ := hr.cases
 obtain rfl := hqe.uniq hq
 have hf := hqr rfl
 have hk2 := hk2.below hB1 hk2.lt
 have hB1' := bl_tr hB0 hB1 hB0.size
 refine ⟨_, rfl, ?_⟩
 refine dT rfl ?_
 refine al U rfl rfl rfl rfl ?_
 intro b3 w2 hb3 hs2 hk3 hg2
 have hlt2 := hk2.lt
 have hk2 := hk2.keep hg2 (by simp)
 refine dT rfl ?_
 refine st U rfl rfl rfl rfl rfl rfl rfl rfl rfl rfl (hk3) ?_
 intro w3 hk3 hg3 hs3
 have hk2 := hk2.keep hg3 (by intro e; cases e; omega)
 have hB3 : Below w1.heap.size w1 w3 := ((Below.refl _ _).grown hg2 (Nat.le_refl _) (fun k e => by cases e)).grown hg3 (by omega) (fun k e => by cases e; omega)
 have hf := hf.stay hB3
 have hB3' := bl_tr hB1' hB3 hB1'.size
 refine dT rfl ?_
 refine lg rfl ag_q rfl rfl hk3 rfl ?_
 refine st U rfl rfl rfl rfl rfl rfl rfl rfl rfl rfl (hk2) ?_
 intro w4 hk4 hg4 hs4
 refine dT rfl ?_
 exact retS Tryz.results172 (vs := [_]) ⟨⟨_, rfl, run_load_agg ag_q hk4 rfl⟩, trivial⟩ ⟨_, rfl, hf.push hg4 (fun g e => by cases e; exact hk2.tg), hB3'.grown hg4 hB3'.size (fun k e => by cases e; omega)⟩
end
section
set_option maxHeartbeats 2000000
open Go Go.Proofs Go.RowKit Go.Lib

theorem gvector_calls (xs : List Tx) (hok : ∀ i, i < xs.length → QErr (xs.getD i []) 0) (a : Option Addr) (c : Nat) (w : World) (hs : Sl w a (strs xs)) (hl : xs.length ≤ 1000000) (hx : ∀ j, j < xs.length → (xs.getD j []).length ≤ 1099511627776) :
  Calls Tryz.prog 144 #[.slice a xs.length c] w (Ret fun v w' => (∃ a' c', v = .slice a' xs.length c' ∧ VecQ w' a' xs.length (vval xs) ∧ xs.length ≤ c') ∧ Below w.heap.size w w') := by
 refine enter Tryz.func144 rfl Tryz.ntmps144 (Nat.le_of_ble_eq_true rfl) ?_
 refine dT rfl ?_
 refine loopR (fun fr w' mm => ∃ (i : Nat) (a2 : Option Addr) (c2 : Nat) (cs : List Value), fr = [(0, .slice a xs.length c), (3, .slice a2 i c2), (4, .int .i64 (i : Nat))] ∧ i ≤ xs.length ∧
   w'.ownsRow w.heap.size 86 3 (.slice a2 i c2) i cs ∧ ElsQ w' cs i (vval xs) ∧ Below w.heap.size w w' ∧ mm = xs.length - i)
  ⟨0, none, 0, [], rfl, by omega, ⟨rfl, .inl ⟨rfl, rfl⟩⟩, ElsQ.nil _ _, Below.refl _ _, rfl⟩ ⟨rfl, rfl, rfl, trivial⟩ ?_
 rintro fr w1 mm ⟨i, a2, c2, cs, rfl, hi, ho, hE, hB, rfl⟩
 refine dT rfl ?_
 refine cS rfl rfl rfl rfl (fun hq => ?_) (fun hq => ?_)
 ·have hil : i < xs.length := by omega
  refine dT rfl ?_
  refine il U rfl rfl rfl rfl rfl rfl rfl (fun _ => rfl) rfl i rfl hil (hs.stay hB) (getS hil) ?_
  refine call (f := 172) rfl rfl cb172 (gnumber_calls (xs.getD i []) (hx i hil) (hok i hil) w1) ?_
  rintro v w2 ⟨hr, hB2⟩
  have ho2 := own_bw ho hB2
  have hE2 := hE.stay hB2
  have hB2' := bl_tr hB hB2 hB.size
  obtain ⟨u1, u2, u3, u4, u5, u6, u7, rfl⟩ := hr.shape
  refine ⟨_, rfl, ?_⟩
  refine aps U rfl rfl rfl rfl rfl rfl rfl rfl (fun _ => rfl) rfl (fun _ => rfl) rfl rfl rfl ho2 hB2'.size (by omega) rfl ?_
  intro a5 c5 w5 ho5 hg5
  have hB5 := hB2'.grown hg5 hB2'.size (fun g e => (own_block ho2 g e).1)
  have hE5 := (hE2.push hg5 (fun g e => own_tag ho2 g e)).snoc (hr.push hg5 (fun g e => own_tag ho2 g e))
  refine dS rfl ?_
  exact rend _ _ ⟨i + 1, a5, c5, _, rfl, by omega, ho5, hE5, hB5, rfl⟩ (by omega) ⟨rfl, rfl, iv (by omega), trivial⟩
 ·obtain rfl : i = xs.length := by omega
  refine dT rfl ?_
  exact ret Tryz.results144 rfl ⟨_, rfl, ⟨a2, c2, rfl, own_vecq ho hE, own_cap3 ho⟩, hB⟩

def MQ (B : Nat) (m n : Nat) (f : Nat → Nat → Rat) (v : Value) (w : World) : Prop := ∃ a c A C, v = .slice a m c ∧ w.ownsRow B 169 1 (.slice a m c) m (rws m n A C) ∧ RwsQ w m n A C f
theorem MQ.mat {B m n : Nat} {f : Nat → Nat → Rat} {v : Value} {w : World} (h : MQ B m n f v w) : ∃ a c, v = .slice a m c ∧ MatQ w a m n f := by
 obtain ⟨a, c, A, C, rfl, h1, h2⟩ := h
 exact ⟨a, c, rfl, A, C, own_sl h1, h2, own_tag h1⟩
theorem gmatrix_calls (xss : List (List Tx)) (n : Nat) (hrow : ∀ i, i < xss.length → (rw' xss i).length = n) (hok : ∀ i, i < xss.length → ∀ j, j < n → QErr ((rw' xss i).getD j []) 0) (a : Option Addr) (c : Nat) (w : World) (hs : SM w a xss) (hl : xss.length ≤ 1000000) (hn : n ≤ 1000000) (hx : ∀ i, i < xss.length → ∀ j, j < n → ((rw' xss i).getD j []).length ≤ 1099511627776) :
  Calls Tryz.prog 143 #[.slice a xss.length c] w (Ret fun v w' => MQ w.heap.size xss.length n (mval xss) v w' ∧ Below w.heap.size w w') := by
 obtain ⟨A, C, hSl, hR⟩ := hs
 refine enter Tryz.func143 rfl Tryz.ntmps143 (Nat.le_of_ble_eq_true rfl) ?_
 refine dT rfl ?_
 refine loopR (fun fr w' mm => ∃ (i : Nat) (a2 : Option Addr) (c2 : Nat) (A2 : Nat → Option Addr) (C2 : Nat → Nat), fr = [(0, .slice a xss.length c), (3, .slice a2 i c2), (4, .int .i64 (i : Nat))] ∧ i ≤ xss.length ∧
   w'.ownsRow w.heap.size 169 1 (.slice a2 i c2) i (rws i n A2 C2) ∧ RwsQ w' i n A2 C2 (mval xss) ∧ Below w.heap.size w w' ∧ mm = xss.length - i)
  ⟨0, none, 0, fun _ => none, fun _ => 0, rfl, by omega, ⟨rfl, .inl ⟨rfl, rfl⟩⟩, RwsQ.none _ _ _ _ _, Below.refl _ _, rfl⟩ ⟨rfl, rfl, rfl, trivial⟩ ?_
 rintro fr w1 mm ⟨i, a2, c2, A2, C2, rfl, hi, ho, hV, hB, rfl⟩
 refine dT rfl ?_
 refine cS rfl rfl rfl rfl (fun hq => ?_) (fun hq => ?_)
 ·have hil : i < xss.length := by omega
  have hrow' := hrow i hil
  refine dT rfl ?_
  refine il U rfl rfl rfl rfl rfl rfl rfl (fun _ => rfl) rfl i rfl hil (hSl.stay hB) (srws_get hil) ?_
  refine call (f := 144) rfl rfl cb144 (gvector_calls (rw' xss i) (by rw [hrow']; exact hok i hil) (A i) (C i) w1 ((hR i hil).stay hB) (by omega) (by rw [hrow']; exact hx i hil)) ?_
  rintro v w2 ⟨⟨a3, c3, rfl, hv3, hc3⟩, hB2⟩
  rw [hrow'] at hv3 hc3 ⊢
  have hB2' := bl_tr hB hB2 hB.size
  have ho2 := own_bw ho hB2
  refine ⟨_, rfl, ?_⟩
  refine ap U (v := (.slice a3 n c3)) rfl rfl rfl rfl rfl rfl (fun _ => rfl) rfl (fun _ => rfl) rfl rfl rfl ho2 hB2'.size (by omega) (by decide) ?_
  intro a5 c5 w5 ho5 hg5
  have hB5 := hB2'.grown hg5 hB2'.size (fun g e => (own_block ho2 g e).1)
  rw [rws_snoc] at ho5
  refine dS rfl ?_
  exact rend _ _ ⟨i + 1, a5, c5, _, _, rfl, by omega, ho5, (((hV.stay hB2).push hg5 (own_tag ho2)).snoc (VecQ.push hv3 hg5 (own_tag ho2)) hc3), hB5, rfl⟩ (by omega) ⟨rfl, rfl, iv (by omega), trivial⟩
 ·obtain rfl : i = xss.length := by omega
  refine dT rfl ?_
  exact ret Tryz.results143 rfl ⟨_, rfl, ⟨a2, c2, A2, C2, rfl, ho, hV⟩, hB⟩

theorem gtexts_calls (n : Nat) (f : Nat → Rat) (hfit : ∀ i, i < n → Small 1000000 (f i)) (a : Option Addr) (c : Nat) (w : World) (hf : VecQ w a n f) (hn : n ≤ 1000000) :
  Calls Tryz.prog 145 #[.slice a n c] w (Ret fun v w' => TxtR n f v w' ∧ Below w.heap.size w w') := by
 obtain ⟨cf, hEf, hSf, hTf⟩ := hf
 have hAf := fun g hg => (hTf g hg).lt
 refine enter Tryz.func145 rfl Tryz.ntmps145 (Nat.le_of_ble_eq_true rfl) ?_
 refine dT rfl ?_
 refine loopR (fun fr w' mm => ∃ (i : Nat) (a2 : Option Addr) (c2 : Nat), fr = [(0, .slice a n c), (4, .slice a2 i c2), (5, .int .i64 (i : Nat))] ∧ i ≤ n ∧
   w'.ownsRow w.heap.size 35 1 (.slice a2 i c2) i (strs (txs i f)) ∧ (∀ j, j < i → Small 4000 (f j)) ∧ Below w.heap.size w w' ∧ mm = n - i)
  ⟨0, none, 0, rfl, by omega, ⟨rfl, .inl ⟨rfl, rfl⟩⟩, fun j hj => absurd hj (by omega), Below.refl _ _, rfl⟩ ⟨rfl, rfl, rfl, trivial⟩ ?_
 rintro fr w1 mm ⟨i, a2, c2, rfl, hi, ho, hsm, hB, rfl⟩
 refine dT rfl ?_
 refine cS rfl rfl rfl rfl (fun hq => ?_) (fun hq => ?_)
 ·have hin : i < n := by omega
  have hsl := hSf.below hB hAf
  refine dT rfl ?_
  refine ig U rfl rfl rfl rfl ag_q rfl rfl (fun _ => rfl) rfl i rfl hin hsl (fun j v hv => el_get hv) (el_length (by rw [hEf.1]; omega)) (by decide) ?_
  have hfe := (hEf.2 i hin).stay hB
  have hs1 := hfit i hin
  refine call (f := 58) rfl rfl cb58 (rwriteq_calls (f i) _ w1 hfe (hs1.fits (by omega)) (by have := hs1.1; omega) (by have := hs1.2; omega)) ?_
  rintro v w4 ⟨hr, hB4⟩
  have hB4' := bl_tr hB hB4 hB.size
  have ho4 := own_bw ho hB4
  rcases hr with ⟨h1, rfl⟩ | ⟨h1, rfl⟩
  ·refine ⟨_, rfl, ?_⟩
   refine dT rfl ?_
   refine cF rfl rfl rfl ((fun h => h rfl)) ?_; refine dT rfl ?_
   refine ap U (v := (.string ⟨⟨qtext (f i)⟩⟩)) rfl rfl rfl rfl rfl rfl (fun _ => rfl) rfl (fun _ => rfl) rfl rfl rfl ho4 hB4'.size (by omega) (by decide) ?_
   intro a5 c5 w5 ho5 hg5
   have hB5 := hB4'.grown hg5 hB4'.size (fun g e => (own_block ho4 g e).1)
   refine dS rfl ?_
   refine rend _ _ ⟨i + 1, a5, c5, rfl, by omega, by rw [txs, List.range_succ, List.map_append, strs, List.map_append]; exact ho5, fun j hj => ?_, hB5, rfl⟩ (by omega) ⟨rfl, rfl, iv (by omega), trivial⟩
   rcases Nat.lt_succ_iff_lt_or_eq.1 hj with h | rfl
   ·exact hsm j h
   ·exact h1
  ·refine ⟨_, rfl, ?_⟩
   refine dT rfl ?_
   refine cT rfl rfl rfl ((by decide)) ?_; refine dT rfl ?_
   exact ret Tryz.results145 rfl ⟨_, rfl, .inl ⟨⟨i, hin, h1⟩, rfl⟩, hB4'⟩
 ·obtain rfl : i = n := by omega
  refine dT rfl ?_
  exact ret Tryz.results145 rfl ⟨_, rfl, .inr ⟨hsm, a2, c2, rfl, own_sl ho, own_cap3 ho, own_tag ho⟩, hB⟩

theorem gzero_calls (p : Rat) (hS : Small 1000000 p) (v : Value) (w : World) (h : QR w v p) : Calls Tryz.prog 191 #[v] w (Ret fun v' w' => v' = .bool (decide (p = 0)) ∧ Below w.heap.size w w') := by
 obtain ⟨an, cn, ad, cd, rfl, h1, h2⟩ := h
 have hl := hS.lim.1
 refine enter Tryz.func191 rfl Tryz.ntmps191 (Nat.le_of_ble_eq_true rfl) ?_
 refine dT rfl ?_
 refine bx rfl rfl rfl rfl ?_
 intro b1 wa hb1 hsa hk1 hga
 have hB0 : Below w.heap.size w wa := (Below.refl _ _).grown hga (Nat.le_refl _) (fun k e => by cases e)
 refine dT rfl ?_
 refine ld U rfl rfl rfl rfl ((hk1).cell rfl) ?_
 refine dT rfl ?_
 have hord := order_calls p.num.natAbs 0 an none cn 0 wa (h1.below hB0) (by rw [lim_zero]; exact RdI.nil _) (by omega) (by rw [lim_zero]; decide)
 rw [lim_zero] at hord
 refine call (f := 103) rfl rfl cb103 hord ?_
 rintro v w1 ⟨rfl, hB1⟩
 refine ⟨_, rfl, ?_⟩
 have hB1' := bl_tr hB0 hB1 hB0.size
 by_cases hz : p = 0
 ·subst hz
  refine cT rfl rfl rfl (by decide) ?_
  refine dT rfl ?_
  exact ret Tryz.results191 rfl ⟨_, rfl, by rw [decide_eq_true rfl]; rfl, hB1'⟩
 ·have hn : p.num.natAbs ≠ 0 := fun h => hz (q_num_zero.1 (by omega))
  refine cF rfl rfl rfl ?_ ?_
  ·rw [show cmpN p.num.natAbs 0 = 1 from by unfold cmpN; rw [if_neg (by omega), if_pos (by omega)]]; decide
  refine dT rfl ?_
  exact ret Tryz.results191 rfl ⟨_, rfl, by rw [decide_eq_false hz]; rfl, hB1'⟩
end
section
set_option maxHeartbeats 2000000
open Go Go.Proofs Go.RowKit Go.Lib
end
end Go.Proofs.YtejlpdbiacmfcaaGreatDoor
