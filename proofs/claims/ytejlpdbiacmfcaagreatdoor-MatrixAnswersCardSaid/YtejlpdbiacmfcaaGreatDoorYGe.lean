/-
  Walks of the reference's times, scale, combine.
  Conditions: a bound on the sizes of the numbers.
  Walk of the reference's reduce: it does what elimination does.
-/
import Derived.Test.YtejlpdbiacmfcaaGreatDoorYGa
set_option linter.unusedSimpArgs false
set_option linter.unusedVariables false
namespace Go.Proofs.YtejlpdbiacmfcaaGreatDoor
section
set_option maxHeartbeats 2000000
open Go Go.Proofs Go.RowKit Go.Lib


theorem gscale_calls (n K L : Nat) (f : Nat → Rat) (by' : Rat) (hK : K ≤ 1000000000) (hL : L ≤ 1000000000) (hfs : ∀ i, i < n → Small K (f i)) (hbs : Small L by') (a : Option Addr) (c : Nat) (v : Value) (w : World) (hf : VecQ w a n f) (hb : QR w v by') (hn : n ≤ 1000000) :
  Calls Tryz.prog 192 #[.slice a n c, v] w (Ret fun v w' => (∃ a' c', v = .slice a' n c' ∧ n ≤ c' ∧ VecQ w' a' n (fun t => f t * by')) ∧ Below w.heap.size w w') := by
 obtain ⟨csf, hEf, hSf, hTf⟩ := hf
 have hAf := fun g hg => (hTf g hg).lt
 obtain ⟨y1, y2, y3, y4, y5, y6, y7, rfl⟩ := hb.shape
 refine enter Tryz.func192 rfl Tryz.ntmps192 (Nat.le_of_ble_eq_true rfl) ?_
 refine dT rfl ?_
 refine bx rfl rfl rfl rfl ?_
 intro b3 w0 hb3 hs0 hk3 hg0
 have hB0 : Below w.heap.size w w0 := (Below.refl _ _).grown hg0 (Nat.le_refl _) (fun k e => by cases e)
 refine dT rfl ?_
 refine loopR (fun fr w' mm => ∃ (i : Nat) (a2 : Option Addr) (c2 : Nat) (cs : List Value), fr = [(0, .slice a n c), (3, .pointer (some ⟨b3, 0, none⟩)), (5, .slice a2 i c2), (6, .int .i64 (i : Nat))] ∧ i ≤ n ∧
   w'.ownsRow w0.heap.size 86 3 (.slice a2 i c2) i cs ∧ ElsQ w' cs i (fun t => f t * by') ∧ Below w0.heap.size w0 w' ∧ mm = n - i)
  ⟨0, none, 0, [], rfl, by omega, ⟨rfl, .inl ⟨rfl, rfl⟩⟩, ElsQ.nil _ _, Below.refl _ _, rfl⟩ ⟨rfl, rfl, rfl, rfl, trivial⟩ ?_
 rintro fr w1 mm ⟨i, a2, c2, cs, rfl, hi, ho, hE, hB, rfl⟩
 have hBw := bl_tr hB0 hB hB0.size
 refine dT rfl ?_
 refine cS rfl rfl rfl rfl (fun hq => ?_) (fun hq => ?_)
 ·have hin : i < n := by omega
  obtain ⟨ga, oa, rfl, _⟩ := hSf.at (j := i * 3) (by rw [hEf.1]; omega)
  refine dT rfl ?_
  refine dwn 9 (fun W => Bk W b3 86 [.bool y1, .slice y2 y3 y4, .slice y5 y6 y7] ∧ Sl W (some ⟨ga, oa, none⟩) csf) hmo ?_
  intro w5 hh5 hg5
  have hB15 : Below w1.heap.size w1 w5 := (Below.refl _ _).grown hg5 (Nat.le_refl _) (fun k e => by cases e)
  have hB5 := bl_tr hB hB15 hB.size
  have hBw5 := bl_tr hBw hB15 hBw.size
  have hk35 := hk3.below hB5 hk3.lt
  have hl5 : ∀ W, (Bk W b3 86 [.bool y1, .slice y2 y3 y4, .slice y5 y6 y7] ∧ Sl W (some ⟨ga, oa, none⟩) csf) → (loadVar 86 ⟨b3, 0, none⟩).run Tryz.prog W = .ok (.agg ⟨[.bool y1, .slice y2 y3 y4, .slice y5 y6 y7]⟩) W := fun W h => run_load_agg ag_q h.1 rfl
  refine dq U [0,1,2,3,4,5] [(4, .agg ⟨el csf i⟩), (5, .agg ⟨[.bool y1, .slice y2 y3 y4, .slice y5 y6 y7]⟩)] (by kernel_rfl) rfl rfl ⟨hk35, hSf.below hBw5 hAf⟩ (by simp only [AllP, InR, List.nil_append, List.cons_append]; (repeat' apply And.intro); all_goals first | exact True.intro | omega | (with_reducible exact hl5) | (with_reducible exact fun W h => elem_loadq hEf hin h.2)) ?_
  refine d1 rfl rfl (fun _ => ⟨hk35, hSf.below hBw5 hAf⟩) ?_
  refine call (f := 107) rfl rfl cb107 (rtimesq_calls (f i) by' K L hK hL _ _ w5 ((hEf.2 i hin).stay hBw5) (hb.stay hBw5) (hfs i hin) hbs) ?_
  rintro v w6 ⟨hm, hB6⟩
  have hB6' := bl_tr hB5 hB6 hB5.size
  have ho6 := own_bw (own_bw ho hB15) hB6
  have hE6 := (hE.stay hB15).stay hB6
  have hBw6 := bl_tr hBw5 hB6 hBw5.size
  obtain ⟨u1, u2, u3, u4, u5, u6, u7, rfl⟩ := hm.shape
  refine ⟨_, rfl, d2 ?_⟩
  refine d1 rfl rfl (fun _ => ⟨hk3.below hB6' hk3.lt, hSf.below hBw6 hAf⟩) ?_
  refine bsS U [[.bool u1, .slice u2 u3 u4, .slice u5 u6 u7]] rfl rfl rfl rfl rfl rfl (by decide) (by decide) (by intro cs h; simp at h; subst h; rfl) ?_
  intro w7 hk8 hs7 hg7
  have hB67 : Below w6.heap.size w6 w7 := (Below.refl _ _).grown hg7 (Nat.le_refl _) (fun k e => by cases e)
  have hB7 := bl_tr hB6' hB67 hB6'.size
  have ho7 := own_bw ho6 hB67
  have hE7 := hE6.stay hB67
  have hr7 := hm.stay hB67
  refine d2 ?_
  have hBw7 := bl_tr hBw6 hB67 hBw6.size
  refine d1 rfl rfl (fun _ => ⟨hk3.below hB7 hk3.lt, hSf.below hBw7 hAf⟩) ?_
  refine aw U rfl rfl rfl rfl rfl rfl rfl rfl rfl ho7 (hk8.sl 0) rfl (by intro u hu; simp at hu; rcases hu with rfl | rfl | rfl <;> rfl) hB7.size (by omega) rfl ?_
  intro a9 c9 w9 ho9 hg9
  have hB9 := hB7.grown hg9 hB7.size (fun g e => (own_block ho7 g e).1)
  have htk := own_tag ho7
  have hE9 := (hE7.push hg9 htk).snoc (hr7.push hg9 htk)
  refine d2 ?_
  have hBw9 := bl_tr hB0 hB9 hB0.size
  refine d1 rfl rfl (fun _ => ⟨hk3.below hB9 hk3.lt, hSf.below hBw9 hAf⟩) ?_
  refine dT rfl ?_
  refine d3 ?_; refine dend rfl (fun h => by cases h) ?_
  refine dS rfl ?_
  exact rend _ _ ⟨i + 1, a9, c9, _, rfl, by omega, ho9, hE9, hB9, rfl⟩ (by omega) ⟨rfl, rfl, rfl, iv (by omega), trivial⟩
 ·obtain rfl : i = n := by omega
  refine dT rfl ?_
  exact ret Tryz.results192 rfl ⟨_, rfl, ⟨a2, c2, rfl, own_cap3 ho, own_vecq ho hE⟩, hBw⟩

theorem gcombine_calls (n K L M : Nat) (f g : Nat → Rat) (by' : Rat) (hK : K ≤ 1000000) (hL : L + M ≤ K) (hfs : ∀ i, i < n → Small K (f i)) (hgs : ∀ i, i < n → Small L (g i)) (hbs : Small M by') (a b : Option Addr) (c d : Nat) (v : Value) (w : World) (hf : VecQ w a n f) (hg : VecQ w b n g) (hb : QR w v by') (hn : n ≤ 1000000) :
  Calls Tryz.prog 194 #[.slice a n c, .slice b n d, v] w (Ret fun v w' => (∃ a' c', v = .slice a' n c' ∧ n ≤ c' ∧ VecQ w' a' n (fun t => f t + g t * by')) ∧ Below w.heap.size w w') := by
 obtain ⟨csf, hEf, hSf, hTf⟩ := hf
 have hAf := fun g hg => (hTf g hg).lt
 obtain ⟨csg, hEg, hSg, hTg⟩ := hg
 have hAg := fun g hg => (hTg g hg).lt
 obtain ⟨y1, y2, y3, y4, y5, y6, y7, rfl⟩ := hb.shape
 refine enter Tryz.func194 rfl Tryz.ntmps194 (Nat.le_of_ble_eq_true rfl) ?_
 refine dT rfl ?_
 refine bx rfl rfl rfl rfl ?_
 intro b3 w0 hb3 hs0 hk3 hg0
 have hB0 : Below w.heap.size w w0 := (Below.refl _ _).grown hg0 (Nat.le_refl _) (fun k e => by cases e)
 refine dT rfl ?_
 refine loopR (fun fr w' mm => ∃ (i : Nat) (a2 : Option Addr) (c2 : Nat) (cs : List Value), fr = [(0, .slice a n c), (1, .slice b n d), (5, .pointer (some ⟨b3, 0, none⟩)), (7, .slice a2 i c2), (8, .int .i64 (i : Nat))] ∧ i ≤ n ∧
   w'.ownsRow w0.heap.size 86 3 (.slice a2 i c2) i cs ∧ ElsQ w' cs i (fun t => f t + g t * by') ∧ Below w0.heap.size w0 w' ∧ mm = n - i)
  ⟨0, none, 0, [], rfl, by omega, ⟨rfl, .inl ⟨rfl, rfl⟩⟩, ElsQ.nil _ _, Below.refl _ _, rfl⟩ ⟨rfl, rfl, rfl, rfl, rfl, trivial⟩ ?_
 rintro fr w1 mm ⟨i, a2, c2, cs, rfl, hi, ho, hE, hB, rfl⟩
 have hBw := bl_tr hB0 hB hB0.size
 refine dT rfl ?_
 refine cS rfl rfl rfl rfl (fun hq => ?_) (fun hq => ?_)
 ·have hin : i < n := by omega
  obtain ⟨ga, oa, rfl, _⟩ := hSf.at (j := i * 3) (by rw [hEf.1]; omega)
  obtain ⟨gb, ob, rfl, _⟩ := hSg.at (j := i * 3) (by rw [hEg.1]; omega)
  refine dT rfl ?_
  refine dwn 14 (fun W => Bk W b3 86 [.bool y1, .slice y2 y3 y4, .slice y5 y6 y7] ∧ Sl W (some ⟨ga, oa, none⟩) csf ∧ Sl W (some ⟨gb, ob, none⟩) csg) hmo ?_
  intro w5 hh5 hg5
  have hB15 : Below w1.heap.size w1 w5 := (Below.refl _ _).grown hg5 (Nat.le_refl _) (fun k e => by cases e)
  have hB5 := bl_tr hB hB15 hB.size
  have hBw5 := bl_tr hBw hB15 hBw.size
  have hk35 := hk3.below hB5 hk3.lt
  have hl5 : ∀ W, (Bk W b3 86 [.bool y1, .slice y2 y3 y4, .slice y5 y6 y7] ∧ Sl W (some ⟨ga, oa, none⟩) csf ∧ Sl W (some ⟨gb, ob, none⟩) csg) → (loadVar 86 ⟨b3, 0, none⟩).run Tryz.prog W = .ok (.agg ⟨[.bool y1, .slice y2 y3 y4, .slice y5 y6 y7]⟩) W := fun W h => run_load_agg ag_q h.1 rfl
  refine dq U [0,1,2,3,4,5,6,7,8,9] [(4, .agg ⟨el csf i⟩), (8, .agg ⟨el csg i⟩), (9, .agg ⟨[.bool y1, .slice y2 y3 y4, .slice y5 y6 y7]⟩)] (by kernel_rfl) rfl rfl ⟨hk35, hSf.below hBw5 hAf, hSg.below hBw5 hAg⟩ (by simp only [AllP, InR, List.nil_append, List.cons_append]; (repeat' apply And.intro); all_goals first | exact True.intro | omega | (with_reducible exact hl5) | (with_reducible exact fun W h => elem_loadq hEf hin h.2.1) | (with_reducible exact fun W h => elem_loadq hEg hin h.2.2)) ?_
  refine d1 rfl rfl (fun _ => ⟨hk35, hSf.below hBw5 hAf, hSg.below hBw5 hAg⟩) ?_
  refine call (f := 107) rfl rfl cb107 (rtimesq_calls (g i) by' L M (by omega) (by omega) _ _ w5 ((hEg.2 i hin).stay hBw5) (hb.stay hBw5) (hgs i hin) hbs) ?_
  rintro v w6 ⟨hm0, hB6⟩
  have hB6' := bl_tr hB5 hB6 hB5.size
  have hBw6 := bl_tr hBw5 hB6 hBw5.size
  refine ⟨_, rfl, d2 ?_⟩
  refine d1 rfl rfl (fun _ => ⟨hk3.below hB6' hk3.lt, hSf.below hBw6 hAf, hSg.below hBw6 hAg⟩) ?_
  refine call (f := 59) rfl rfl cb59 (rplus_calls (f i) (g i * by') K hK _ _ w6 ((hEf.2 i hin).stay hBw6) hm0 (hfs i hin) (small_mono (small_mul (hgs i hin) hbs) hL)) ?_
  rintro v w8 ⟨hm, hB8⟩
  have hB8' := bl_tr hB6' hB8 hB6'.size
  have hBw8 := bl_tr hBw6 hB8 hBw6.size
  have ho8 := own_bw (own_bw (own_bw ho hB15) hB6) hB8
  have hE8 := ((hE.stay hB15).stay hB6).stay hB8
  obtain ⟨u1, u2, u3, u4, u5, u6, u7, rfl⟩ := hm.shape
  refine ⟨_, rfl, d2 ?_⟩
  refine d1 rfl rfl (fun _ => ⟨hk3.below hB8' hk3.lt, hSf.below hBw8 hAf, hSg.below hBw8 hAg⟩) ?_
  refine bsS U [[.bool u1, .slice u2 u3 u4, .slice u5 u6 u7]] rfl rfl rfl rfl rfl rfl (by decide) (by decide) (by intro cs h; simp at h; subst h; rfl) ?_
  intro w7 hk8 hs7 hg7
  have hB67 : Below w8.heap.size w8 w7 := (Below.refl _ _).grown hg7 (Nat.le_refl _) (fun k e => by cases e)
  have hB7 := bl_tr hB8' hB67 hB8'.size
  have ho7 := own_bw ho8 hB67
  have hE7 := hE8.stay hB67
  have hr7 := hm.stay hB67
  refine d2 ?_
  have hBw7 := bl_tr hBw8 hB67 hBw8.size
  refine d1 rfl rfl (fun _ => ⟨hk3.below hB7 hk3.lt, hSf.below hBw7 hAf, hSg.below hBw7 hAg⟩) ?_
  refine aw U rfl rfl rfl rfl rfl rfl rfl rfl rfl ho7 (hk8.sl 0) rfl (by intro u hu; simp at hu; rcases hu with rfl | rfl | rfl <;> rfl) hB7.size (by omega) rfl ?_
  intro a9 c9 w9 ho9 hg9
  have hB9 := hB7.grown hg9 hB7.size (fun g e => (own_block ho7 g e).1)
  have htk := own_tag ho7
  have hE9 := (hE7.push hg9 htk).snoc (hr7.push hg9 htk)
  refine d2 ?_
  have hBw9 := bl_tr hB0 hB9 hB0.size
  refine d1 rfl rfl (fun _ => ⟨hk3.below hB9 hk3.lt, hSf.below hBw9 hAf, hSg.below hBw9 hAg⟩) ?_
  refine dT rfl ?_
  refine d3 ?_; refine dend rfl (fun h => by cases h) ?_
  refine dS rfl ?_
  exact rend _ _ ⟨i + 1, a9, c9, _, rfl, by omega, ho9, hE9, hB9, rfl⟩ (by omega) ⟨rfl, rfl, rfl, rfl, iv (by omega), trivial⟩
 ·obtain rfl : i = n := by omega
  refine dT rfl ?_
  exact ret Tryz.results194 rfl ⟨_, rfl, ⟨a2, c2, rfl, own_cap3 ho, own_vecq ho hE⟩, hBw⟩
end
section
set_option maxHeartbeats 4000000
open Go Go.Proofs Go.RowKit Go.Lib

theorem VecQ.congr {w : World} {a : Option Addr} {n : Nat} {f g : Nat → Rat} (h : VecQ w a n f) (he : ∀ i, i < n → f i = g i) : VecQ w a n g := by
 obtain ⟨cs, h1, h2, h3⟩ := h
 exact ⟨cs, h1.congr he, h2, h3⟩
theorem RwsQ.congr {w : World} {m n : Nat} {A : Nat → Option Addr} {C : Nat → Nat} {f g : Nat → Nat → Rat} (h : RwsQ w m n A C f) (he : ∀ i, i < m → ∀ t, t < n → f i t = g i t) : RwsQ w m n A C g :=
 fun i hi => ⟨(h i hi).1.congr (he i hi), (h i hi).2⟩
theorem RwsQ.set {w : World} {m n : Nat} {A : Nat → Option Addr} {C : Nat → Nat} {f : Nat → Nat → Rat} {a : Option Addr} {c r : Nat} {f' : Nat → Rat} (h : RwsQ w m n A C f) (hv : VecQ w a n f') (hc : n ≤ c) : RwsQ w m n (upd A r a) (upd C r c) (upd f r f') := by
 intro i hi
 by_cases hir : i = r
 ·subst hir; rw [upd_same, upd_same, upd_same]; exact ⟨hv, hc⟩
 ·rw [upd_ne _ _ hir, upd_ne _ _ hir, upd_ne _ _ hir]; exact h i hi
theorem RwsQ.swap {w : World} {m n r i : Nat} {A : Nat → Option Addr} {C : Nat → Nat} {f : Nat → Nat → Rat} (h : RwsQ w m n A C f) (hr : r < m) (hi : i < m) : RwsQ w m n (upd (upd A r (A i)) i (A r)) (upd (upd C r (C i)) i (C r)) (swp r i f) := by
 intro j hj
 by_cases hji : j = i
 ·subst hji
  rw [upd_same, upd_same]
  have : swp r j f j = f r := by
   unfold swp
   rw [if_pos rfl]
   split
   ·rename_i h2; rw [h2]
   ·rfl
  rw [this]; exact h r hr
 ·rw [upd_ne _ _ hji, upd_ne _ _ hji]
  by_cases hjr : j = r
  ·subst hjr
   rw [upd_same, upd_same]
   have : swp j i f j = f i := by unfold swp; rw [if_pos rfl]
   rw [this]; exact h i hi
  ·rw [upd_ne _ _ hjr, upd_ne _ _ hjr]
   have : swp r i f j = f j := by unfold swp; rw [if_neg hjr, if_neg hji]
   rw [this]; exact h j hj

def RdqI (w w' : World) (base go c m n : Nat) (A : Nat → Option Addr) (C : Nat → Nat) (g : Mx) : Prop :=
 w'.ownsRow base 169 1 (.slice (some ⟨go, 0, none⟩) m c) m (rws m n A C) ∧ RwsQ w' m n A C g ∧ Below base w w'
theorem RdqI.step {w w1 w2 : World} {base go c m n : Nat} {A : Nat → Option Addr} {C : Nat → Nat} {g : Mx} (h : RdqI w w1 base go c m n A C g) (hb : Below w1.heap.size w1 w2) (hbase : base ≤ w.heap.size) : RdqI w w2 base go c m n A C g :=
 ⟨own_bw h.1 hb, h.2.1.stay hb, bl_base h.2.2 hb hbase⟩
theorem RdqI.congr {w w1 : World} {base go c m n : Nat} {A : Nat → Option Addr} {C : Nat → Nat} {g g' : Mx} (h : RdqI w w1 base go c m n A C g) (he : ∀ i, i < m → ∀ t, t < n → g i t = g' i t) : RdqI w w1 base go c m n A C g' :=
 ⟨h.1, h.2.1.congr he, h.2.2⟩
theorem RdqI.put {w w1 w2 : World} {base go c m n r : Nat} {A : Nat → Option Addr} {C : Nat → Nat} {g : Mx} {a : Option Addr} {d : Nat} {f' : Nat → Rat} (h : RdqI w w1 base go c m n A C g) (hr : r < m) (hv : VecQ w1 a n f') (hd : n ≤ d)
  (ho : w2.ownsRow base 169 1 (.slice (some ⟨go, 0, none⟩) m c) m ((rws m n A C).set r (.slice a n d))) (hg : w1.grownBy w2 (some go)) (hbase : base ≤ w.heap.size) : RdqI w w2 base go c m n (upd A r a) (upd C r d) (upd g r f') := by
 have htg : ∀ q, some go = some q → Tg w1 169 q := fun q e => by cases e; exact own_tag h.1 go rfl
 rw [rws_set hr] at ho
 exact ⟨ho, (h.2.1.push hg htg).set (hv.push hg htg) hd, h.2.2.grown hg (Nat.le_trans hbase h.2.2.size) (fun q e => by cases e; exact (own_block h.1 go rfl).1)⟩
theorem VecQ.at {w : World} {a : Option Addr} {n : Nat} {f : Nat → Rat} (h : VecQ w a n f) (hn : 0 < n) : ∃ g o cs, a = some ⟨g, o, none⟩ ∧ ElsQ w cs n f ∧ Sl w (some ⟨g, o, none⟩) cs ∧ g < w.heap.size := by
 obtain ⟨cs, h1, h2, h3⟩ := h
 obtain ⟨g, o, rfl, _⟩ := h2.at (j := 0) (by rw [h1.1]; omega)
 exact ⟨g, o, cs, rfl, h1, h2, (h3 g rfl).lt⟩

set_option maxRecDepth 100000 in
theorem greduce_calls (m n cols L : Nat) (f : Nat → Nat → Rat) (hn : 0 < n) (hcols : cols ≤ n) (hm' : m ≤ 1000000) (hn' : n ≤ 1000000) (hL : 3 * L ≤ 1000000)
  (hS : ∀ k, k < cols → ∀ i t, i < m → t < n → Small L ((gj m f k).1 i t)) (go c base : Nat) (A0 : Nat → Option Addr) (C0 : Nat → Nat) (w : World)
  (ho0 : w.ownsRow base 169 1 (.slice (some ⟨go, 0, none⟩) m c) m (rws m n A0 C0)) (hO0 : RwsQ w m n A0 C0 f) (hbase : base ≤ w.heap.size) :
  Calls Tryz.prog 171 #[.slice (some ⟨go, 0, none⟩) m c, .int .i64 (cols : Nat)] w (Ret fun v w' => v = .tuple ⟨[.slice (some ⟨go, 0, none⟩) m c, .int .i64 ((gj m f cols).2 : Nat)]⟩ ∧ ∃ A C, RdqI w w' base go c m n A C (gj m f cols).1) := by
 refine enter Tryz.func171 rfl Tryz.ntmps171 (Nat.le_of_ble_eq_true rfl) ?_
 refine dT rfl ?_
 refine loopR (fun fr w' mm => ∃ (k : Nat) (g : Mx) (r : Nat) (A : Nat → Option Addr) (C : Nat → Nat), fr = [(0, .slice (some ⟨go, 0, none⟩) m c), (1, .int .i64 (cols : Nat)), (6, .int .i64 (r : Nat)), (7, .int .i64 (k : Nat))] ∧ k ≤ cols ∧ gj m f k = (g, r) ∧ RdqI w w' base go c m n A C g ∧ mm = cols - k)
  ⟨0, f, 0, A0, C0, rfl, by omega, rfl, ⟨ho0, hO0, Below.refl _ _⟩, rfl⟩ ⟨rfl, rfl, rfl, rfl, trivial⟩ ?_
 rintro fr w1 mm ⟨k, g, r, A, C, rfl, hk, hs, hI, rfl⟩
 have hle := gj_le m f k
 rw [hs] at hle
 obtain ⟨hrm, hrk⟩ : r ≤ m ∧ r ≤ k := hle
 refine dT rfl ?_
 refine cS rfl rfl rfl rfl (fun hq => ?_) (fun hq => ?_)
 ·have hkc : k < cols := by omega
  have hkn : k < n := by omega
  have hSg := hS k hkc
  rw [hs] at hSg
  have hSg : ∀ i t, i < m → t < n → Small L (g i t) := hSg
  refine dT rfl ?_
  refine cS rfl rfl rfl rfl (fun hq1 => ?_) (fun hq1 => ?_)
  ·have hr : r < m := by omega
   refine dT rfl ?_
   refine loopR (fun fr w' mm => ∃ (i : Nat), fr = [(0, .slice (some ⟨go, 0, none⟩) m c), (1, .int .i64 (cols : Nat)), (6, .int .i64 (r : Nat)), (7, .int .i64 (k : Nat)), (8, .int .i64 (i : Nat))] ∧ r ≤ i ∧ i ≤ m ∧ (∀ j, r ≤ j → j < i → g j k = 0) ∧ RdqI w w' base go c m n A C g ∧ mm = m - i)
    ⟨r, rfl, by omega, by omega, fun j h1 h2 => by omega, hI, rfl⟩ ⟨rfl, rfl, rfl, rfl, rfl, trivial⟩ ?_
   rintro fr w2 mm ⟨i, rfl, hri, him, hz, hI, rfl⟩
   refine dT rfl ?_
   refine cS rfl rfl rfl rfl (fun hq => ?_) (fun hq => ?_)
   ·have hi : i < m := by omega
    refine dT rfl ?_
    refine il U rfl rfl rfl rfl rfl rfl rfl (fun _ => rfl) rfl i rfl hi (own_sl hI.1) (rws_get hi) ?_
    refine dT rfl ?_
    obtain ⟨⟨csi, hEi, hSi, hTi⟩, _⟩ := hI.2.1 i hi
    refine ig U rfl rfl rfl rfl ag_q rfl rfl (fun _ => rfl) rfl k rfl hkn hSi (fun j v hv => el_get hv) (el_length (by rw [hEi.1]; omega)) (by decide) ?_
    refine call (f := 191) rfl rfl cb191 (gzero_calls (g i k) (small_mono (hSg i k hi hkn) (by omega)) _ w2 (hEi.2 k hkn)) ?_
    rintro v w3 ⟨rfl, hB3⟩
    have hI := hI.step hB3 hbase
    refine ⟨_, rfl, ?_⟩
    by_cases hz0 : g i k = 0
    ·rw [decide_eq_true hz0]
     refine dS rfl ?_
     refine rend _ _ ⟨i + 1, rfl, by omega, by omega, fun j h1 h2 => ?_, hI, rfl⟩ (by omega) ⟨rfl, rfl, rfl, rfl, iv (by omega), trivial⟩
     rcases Nat.lt_succ_iff_lt_or_eq.1 h2 with h | rfl
     ·exact hz j h1 h
     ·exact hz0
    rw [decide_eq_false hz0]
    have hgs := gj_succ_some hs hri hi hz0 hz
    refine dT rfl ?_
    refine cF rfl rfl rfl ((by omega)) ?_; refine dT rfl ?_
    refine dwn 13 (fun W => Sl W (some ⟨go, 0, none⟩) (rws m n A C)) hmo ?_
    intro w5 hh5 hg5
    have hB35 : Below w3.heap.size w3 w5 := (Below.refl _ _).grown hg5 (Nat.le_refl _) (fun k e => by cases e)
    have hI := hI.step hB35 hbase
    have hl7 : ∀ W, Sl W (some ⟨go, 0, none⟩) (rws m n A C) → (loadVar 169 ((⟨go, 0, none⟩ : Addr).add (((i : Nat) : Int).toNat * 1))).run Tryz.prog W = .ok (.slice (A i) n (C i)) W := fun W h => run_load_cell U rfl (by simpa [add_plain] using slc2 h (rws_get hi))
    have hl11 : ∀ W, Sl W (some ⟨go, 0, none⟩) (rws m n A C) → (loadVar 169 ((⟨go, 0, none⟩ : Addr).add (((r : Nat) : Int).toNat * 1))).run Tryz.prog W = .ok (.slice (A r) n (C r)) W := fun W h => run_load_cell U rfl (by simpa [add_plain] using slc2 h (rws_get hr))
    refine dq U [0,1,2,3,4,5,6,7,8,9,10,11,12] [(7, .slice (A i) n (C i)), (11, .slice (A r) n (C r))] (by kernel_rfl) rfl rfl (own_sl hI.1) (by simp only [AllP, InR, List.nil_append, List.cons_append]; (repeat' apply And.intro); all_goals first | exact True.intro | omega | (with_reducible exact hl7) | (with_reducible exact hl11)) ?_
    refine d1 rfl rfl (fun _ => own_sl hI.1) ?_
    refine so U (v := (.slice (A i) n (C i))) rfl rfl rfl rfl rfl rfl rfl r (by simp [add_plain]) hr hI.1 ?_
    intro w6 ho6 hg6 hs6
    have hvr := hI.2.1 r hr
    have htg6 : ∀ q, some go = some q → Tg w5 169 q := fun q e => by cases e; exact own_tag hI.1 go rfl
    have hR6 := hI.2.1.push hg6 htg6
    have hbg : base ≤ go := (own_block hI.1 go rfl).1
    have hBb := hI.2.2.grown hg6 (Nat.le_trans hbase hI.2.2.size) (fun q e => by cases e; exact hbg)
    rw [rws_set hr] at ho6
    refine d2 ?_
    refine d1 rfl rfl (fun h => by cases h) ?_
    refine ia U rfl rfl rfl rfl rfl rfl i rfl hi ?_
    refine d2 ?_
    refine d1 rfl rfl (fun h => by cases h) ?_
    refine so U (v := (.slice (A r) n (C r))) rfl rfl rfl rfl rfl rfl rfl i (by simp [add_plain]) hi ho6 ?_
    intro w7 ho7 hg7 hs7
    rw [rws_set hi] at ho7
    have htg7 : ∀ q, some go = some q → Tg w6 169 q := fun q e => by cases e; exact own_tag ho6 go rfl
    have hBb := hBb.grown hg7 (Nat.le_trans hbase hBb.size) (fun q e => by cases e; exact hbg)
    have hI : RdqI w w7 base go c m n (upd (upd A r (A i)) i (A r)) (upd (upd C r (C i)) i (C r)) (swp r i g) := ⟨ho7, (hR6.push hg7 htg7).swap hr hi, hBb⟩
    generalize upd (upd A r (A i)) i (A r) = A1 at hI
    generalize upd (upd C r (C i)) i (C r) = C1 at hI
    refine d2 ?_; refine dend rfl (fun h => by cases h) ?_
    have hpS : Small L (g i k) := hSg i k hi hkn
    have hS1 : ∀ a, a < m → ∀ t, t < n → Small L (swp r i g a t) := fun a ha t ht => by
     unfold swp
     split
     ·exact hSg _ t hi ht
     ·split
      ·exact hSg r t hr ht
      ·exact hSg a t ha ht
    have hgn : gnew r i k g = elm r k (scl r (g i k)⁻¹ (swp r i g)) := rfl
    have hpi := small_inv hz0 hpS
    have hsr : swp r i g r k = g i k := by unfold swp; rw [if_pos rfl]
    generalize g i k = p at *
    generalize swp r i g = g1 at *
    refine dT rfl ?_
    obtain ⟨gr, orr, csr, hAr, hEr, hSr, hltr⟩ := (hI.2.1 r hr).1.at hn
    refine dwn 16 (fun W => Sl W (some ⟨go, 0, none⟩) (rws m n A1 C1) ∧ Sl W (some ⟨gr, orr, none⟩) csr) hmo ?_
    intro w8 hh8 hg8
    have hB78 : Below w7.heap.size w7 w8 := (Below.refl _ _).grown hg8 (Nat.le_refl _) (fun k e => by cases e)
    have hI := hI.step hB78 hbase
    have hEr := hEr.stay hB78
    have hSr := hSr.below hB78 (fun q e => by cases e; exact hltr)
    have hvr := (hI.2.1 r hr).1
    rw [hAr] at hvr
    have hl5 : ∀ W, (Sl W (some ⟨go, 0, none⟩) (rws m n A1 C1) ∧ Sl W (some ⟨gr, orr, none⟩) csr) → (loadVar 169 ((⟨go, 0, none⟩ : Addr).add (((r : Nat) : Int).toNat * 1))).run Tryz.prog W = .ok (.slice (some ⟨gr, orr, none⟩) n (C1 r)) W := fun W h => run_load_cell U rfl (by rw [← hAr]; simpa [add_plain] using slc2 h.1 (rws_get hr))
    refine dq U [0,1,2,3,4,5,6,7,8,9,10,11,12] [(5, .slice (some ⟨gr, orr, none⟩) n (C1 r)), (9, .slice (some ⟨gr, orr, none⟩) n (C1 r)), (12, .agg ⟨el csr k⟩)] (by kernel_rfl) rfl rfl ⟨own_sl hI.1, hSr⟩ (by simp only [AllP, InR, List.nil_append, List.cons_append]; (repeat' apply And.intro); all_goals first | exact True.intro | omega | (with_reducible exact hl5) | (with_reducible exact fun W h => elem_loadq hEr hkn h.2)) ?_
    refine d1 rfl rfl (fun _ => ⟨own_sl hI.1, hSr⟩) ?_
    have hxr := hEr.2 k hkn
    rw [hsr] at hxr
    refine call (f := 193) rfl rfl cb193 (rover_calls p hz0 _ w8 hxr) ?_
    rintro v w9 ⟨hby, hB9⟩
    have hI := hI.step hB9 hbase
    have hlt8 : gr < w8.heap.size := Nat.lt_of_lt_of_le hltr hB78.size
    have hlt9 : gr < w9.heap.size := Nat.lt_of_lt_of_le hlt8 hB9.size
    have hSr := hSr.below hB9 (fun q e => by cases e; exact hlt8)
    have hvr := hvr.stay hB9
    refine ⟨_, rfl, d2 ?_⟩
    refine d1 rfl rfl (fun _ => ⟨own_sl hI.1, hSr⟩) ?_
    refine call (f := 192) rfl rfl cb192 (gscale_calls n L L (g1 r) p⁻¹ (by omega) (by omega) (hS1 r hr) hpi _ _ _ w9 hvr hby hn') ?_
    rintro v w10 ⟨⟨a10, c10, rfl, hc10, hv10⟩, hB10⟩
    have hI := hI.step hB10 hbase
    have hSr := hSr.below hB10 (fun q e => by cases e; exact hlt9)
    refine ⟨_, rfl, d2 ?_⟩
    refine dqS [15] [] rfl rfl ⟨own_sl hI.1, hSr⟩ ?_
    refine d1 rfl rfl (fun _ => ⟨own_sl hI.1, hSr⟩) ?_
    refine so U (v := (.slice a10 n c10)) rfl rfl rfl rfl rfl rfl rfl r (by simp [add_plain]) hr hI.1 ?_
    intro w11 ho11 hg11 hs11
    have hI := hI.put hr hv10 hc10 ho11 hg11 hbase
    have hI := hI.congr (g' := scl r p⁻¹ g1) (fun a ha t ht => by
     unfold scl
     by_cases har : a = r
     ·subst har; rw [upd_same, if_pos rfl]
     ·rw [upd_ne _ _ har, if_neg har])
    generalize upd A1 r a10 = A2 at hI
    generalize upd C1 r c10 = C2 at hI
    have hS2 : ∀ a, a < m → ∀ t, t < n → Small (2 * L) (scl r p⁻¹ g1 a t) := fun a ha t ht => by
     unfold scl
     split
     ·exact small_mono (small_mul (hS1 r hr t ht) hpi) (by omega)
     ·exact small_mono (hS1 a ha t ht) (by omega)
    have hS3 : ∀ a, a < m → a ≠ r → ∀ t, t < n → Small L (scl r p⁻¹ g1 a t) := fun a ha hne t ht => by
     unfold scl
     rw [if_neg hne]
     exact hS1 a ha t ht
    generalize scl r p⁻¹ g1 = g2 at *
    refine d2 ?_; refine dend rfl (fun h => by cases h) ?_
    refine dT rfl ?_
    refine loopR (fun fr w' mm => ∃ (q : Nat) (A3 : Nat → Option Addr) (C3 : Nat → Nat), fr = [(0, .slice (some ⟨go, 0, none⟩) m c), (1, .int .i64 (cols : Nat)), (6, .int .i64 (r : Nat)), (7, .int .i64 (k : Nat)), (9, .int .i64 (q : Nat))] ∧ q ≤ m ∧ RdqI w w' base go c m n A3 C3 (elq r k q g2) ∧ mm = m - q)
     ⟨0, A2, C2, rfl, by omega, hI.congr (fun a ha t ht => (elq_zero r k g2 a t).symm), rfl⟩ ⟨rfl, rfl, rfl, rfl, rfl, trivial⟩ ?_
    rintro fr w12 mm ⟨q, A3, C3, rfl, hq', hI, rfl⟩
    refine dT rfl ?_
    refine cS rfl rfl rfl rfl (fun hq => ?_) (fun hq => ?_)
    ·have hqm : q < m := by omega
     refine dT rfl ?_
     refine cS rfl rfl rfl rfl (fun hq2 => ?_) (fun hq2 => ?_)
     ·have hqr : q ≠ r := by omega
      obtain ⟨gq, oq, csq, hAq, hEq, hSq, hltq⟩ := (hI.2.1 q hqm).1.at hn
      have hxq := hEq.2 k hkn
      rw [elq_at] at hxq
      refine dT rfl ?_
      refine il U rfl rfl rfl rfl rfl rfl rfl (fun _ => rfl) rfl q rfl hqm (own_sl hI.1) (rws_get hqm) ?_
      rw [hAq]
      refine dT rfl ?_
      refine ig U rfl rfl rfl rfl ag_q rfl rfl (fun _ => rfl) rfl k rfl hkn hSq (fun j v hv => el_get hv) (el_length (by rw [hEq.1]; omega)) (by decide) ?_
      refine call (f := 191) rfl rfl cb191 (gzero_calls (g2 q k) (small_mono (hS3 q hqm hqr k hkn) (by omega)) _ w12 hxq) ?_
      rintro v w13 ⟨rfl, hB13⟩
      have hI := hI.step hB13 hbase
      refine ⟨_, rfl, ?_⟩
      by_cases hz2 : g2 q k = 0
      ·rw [decide_eq_true hz2]
       refine dS rfl ?_
       refine rend _ _ ⟨q + 1, _, _, rfl, by omega, hI.congr (fun a ha t ht => elq_skip (.inr hz2) a t), rfl⟩ (by omega) ⟨rfl, rfl, rfl, rfl, iv (by omega), trivial⟩
      rw [decide_eq_false hz2]
      refine dT rfl ?_
      have hltq' := hB13.size
      obtain ⟨gr', or', csr', hAr', hEr', hSr', hltr'⟩ := (hI.2.1 r hr).1.at hn
      refine dwn 20 (fun W => Sl W (some ⟨go, 0, none⟩) (rws m n A3 C3) ∧ Sl W (some ⟨gq, oq, none⟩) csq) hmo ?_
      intro w14 hh14 hg14
      have hB14 : Below w13.heap.size w13 w14 := (Below.refl _ _).grown hg14 (Nat.le_refl _) (fun k e => by cases e)
      have hI := hI.step hB14 hbase
      have hB12 := bl_tr hB13 hB14 hB13.size
      have hEq := hEq.stay hB12
      have hSq := hSq.below hB12 (fun q e => by cases e; exact hltq)
      have hxq := hxq.stay hB12
      have hvq := (hI.2.1 q hqm).1
      have hvr := (hI.2.1 r hr).1
      rw [hAq] at hvq
      have hl5 : ∀ W, (Sl W (some ⟨go, 0, none⟩) (rws m n A3 C3) ∧ Sl W (some ⟨gq, oq, none⟩) csq) → (loadVar 169 ((⟨go, 0, none⟩ : Addr).add (((q : Nat) : Int).toNat * 1))).run Tryz.prog W = .ok (.slice (some ⟨gq, oq, none⟩) n (C3 q)) W := fun W h => run_load_cell U rfl (by rw [← hAq]; simpa [add_plain] using slc2 h.1 (rws_get hqm))
      have hl9 : ∀ W, (Sl W (some ⟨go, 0, none⟩) (rws m n A3 C3) ∧ Sl W (some ⟨gq, oq, none⟩) csq) → (loadVar 169 ((⟨go, 0, none⟩ : Addr).add (((r : Nat) : Int).toNat * 1))).run Tryz.prog W = .ok (.slice (A3 r) n (C3 r)) W := fun W h => run_load_cell U rfl (by simpa [add_plain] using slc2 h.1 (rws_get hr))
      refine dq U [0,1,2,3,4,5,6,7,8,9,10,11,12,13,14,15,16] [(5, .slice (some ⟨gq, oq, none⟩) n (C3 q)), (9, .slice (A3 r) n (C3 r)), (13, .slice (some ⟨gq, oq, none⟩) n (C3 q)), (16, .agg ⟨el csq k⟩)] (by kernel_rfl) rfl rfl ⟨own_sl hI.1, hSq⟩ (by simp only [AllP, InR, List.nil_append, List.cons_append]; (repeat' apply And.intro); all_goals first | exact True.intro | omega | (with_reducible exact hl5) | (with_reducible exact hl9) | (with_reducible exact fun W h => elem_loadq hEq hkn h.2)) ?_
      refine d1 rfl rfl (fun _ => ⟨own_sl hI.1, hSq⟩) ?_
      refine call (f := 106) rfl rfl cb106 (rneg_calls (g2 q k) _ w14 hxq) ?_
      rintro v w15 ⟨hng, hB15⟩
      have hI := hI.step hB15 hbase
      have hlt14 : gq < w14.heap.size := Nat.lt_of_lt_of_le hltq hB12.size
      have hlt15 : gq < w15.heap.size := Nat.lt_of_lt_of_le hlt14 hB15.size
      have hSq := hSq.below hB15 (fun q e => by cases e; exact hlt14)
      refine ⟨_, rfl, d2 ?_⟩
      refine d1 rfl rfl (fun _ => ⟨own_sl hI.1, hSq⟩) ?_
      have hnS := small_neg (hS3 q hqm hqr k hkn)
      refine call (f := 194) rfl rfl cb194 (gcombine_calls n (3 * L) (2 * L) L (g2 q) (g2 r) (-(g2 q k)) hL (by omega) (fun t ht => small_mono (hS3 q hqm hqr t ht) (by omega)) (hS2 r hr) hnS _ _ _ _ _ w15 ((hvq.congr (fun t ht => elq_at r k q g2 t)).stay hB15) ((hvr.congr (fun t ht => elq_piv r k q g2 t)).stay hB15) hng hn') ?_
      rintro v w16 ⟨⟨a16, c16, rfl, hc16, hv16⟩, hB16⟩
      have hI := hI.step hB16 hbase
      have hSq := hSq.below hB16 (fun q e => by cases e; exact hlt15)
      refine ⟨_, rfl, d2 ?_⟩
      refine dqS [19] [] rfl rfl ⟨own_sl hI.1, hSq⟩ ?_
      refine d1 rfl rfl (fun _ => ⟨own_sl hI.1, hSq⟩) ?_
      refine so U (v := (.slice a16 n c16)) rfl rfl rfl rfl rfl rfl rfl q (by simp [add_plain]) hqm hI.1 ?_
      intro w17 ho17 hg17 hs17
      have hI := hI.put hqm hv16 hc16 ho17 hg17 hbase
      refine d2 ?_; refine dend rfl (fun h => by cases h) ?_
      refine dS rfl ?_
      refine rend _ _ ⟨q + 1, _, _, rfl, by omega, hI.congr (fun a ha t ht => ?_), rfl⟩ (by omega) ⟨rfl, rfl, rfl, rfl, iv (by omega), trivial⟩
      rw [← elq_step hqr a t ht]
      by_cases haq : a = q
      ·subst haq; rw [upd_same, upd_same]; unfold ela; rw [if_pos ht]
      ·rw [upd_ne _ _ haq, upd_ne _ _ haq]
     ·have hqr : q = r := by omega
      refine dS rfl ?_
      refine rend _ _ ⟨q + 1, _, _, rfl, by omega, hI.congr (fun a ha t ht => elq_skip (.inl hqr) a t), rfl⟩ (by omega) ⟨rfl, rfl, rfl, rfl, iv (by omega), trivial⟩
    ·obtain rfl : m = q := by omega
     refine dS rfl ?_
     refine rend _ _ ⟨k + 1, _, _, _, _, rfl, by omega, hgs, hI.congr (fun a ha t ht => by rw [hgn]; exact elq_all ha t), rfl⟩ (by omega) ⟨rfl, rfl, iv (by omega), iv (by omega), trivial⟩
   ·obtain rfl : i = m := by omega
    refine dT rfl ?_
    refine cT rfl rfl rfl rfl ?_
    refine dS rfl ?_
    refine rend _ _ ⟨k + 1, g, r, A, C, rfl, by omega, gj_succ_none hs hz, hI, rfl⟩ (by omega) ⟨rfl, rfl, rfl, iv (by omega), trivial⟩
  ·obtain rfl : r = m := by omega
   have hst := gj_stop (m := r) (k := k) (f := f) (by rw [hs]) (cols - k)
   rw [show k + (cols - k) = cols by omega, hs] at hst
   refine dT rfl ?_
   exact ret Tryz.results171 rfl ⟨_, rfl, by rw [hst]; rfl, A, C, by rw [hst]; exact hI⟩
 ·obtain rfl : k = cols := by omega
  refine dT rfl ?_
  exact ret Tryz.results171 rfl ⟨_, rfl, by rw [hs]; rfl, A, C, by rw [hs]; exact hI⟩
end
end Go.Proofs.YtejlpdbiacmfcaaGreatDoor
