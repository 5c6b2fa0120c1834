/-
  An append that also tells where its result lies: in the old block or in a new one. Rows of different lengths, each in a block of its own.
  Walk of matrix.flip.
  Conditions: lists of at most a million elements.
  Walks of linear.Check and linear.read.
  Conditions: texts take fewer than 2^40 bytes, lists fewer than 2^40 elements.
  Walks of matrix.texts, linear.both, linear.Apply.
  Conditions: texts take fewer than 2^40 bytes, lists fewer than 2^40 elements; the library's table of powers of ten is laid.
-/
import Derived.Test.YtejlpdbiacmfcaaGreatDoorYR5
import Derived.Test.YtejlpdbiacmfcaaGreatDoorYLa
set_option linter.unusedSimpArgs false
set_option linter.unusedVariables false
namespace Go.Proofs.YtejlpdbiacmfcaaGreatDoor
section
set_option maxHeartbeats 1000000
open Go Go.Proofs Go.RowKit Go.Lib

section
variable {P : Program} (U : Tys P) {ro : Option Nat} {n : Nat} {ds : List Deferred} {Q : PT} {l l' : Fr} {w w' : World} {arr : Array Oper} {r : List Oper} {k : List It}
theorem append_place (base : Nat) (t ty e : TypeId) (i : TypeInfo) (z : Value) (ht : P.underlying t = some (.slice e)) (hi : P.info? e = some i) (hz : i.zero = some z) (hzs : z.cells.size = i.size) (hsz : 0 < i.size)
  (a : Option Addr) (m c : Nat) (xs : List Value) (hown : w.ownsRow base e i.size (.slice a m c) m xs) (ba : Addr) (kk cb : Nat) (news : List Value) (hl : news.length = kk * i.size) (hk : 0 < kk)
  (hnews : ∀ j u, news[j]? = some u → w.cell? (ba.add j) = some u) (h1 : ∀ u ∈ news, u.oneCell' = true) (h63 : m + kk ≤ maxLen) (hbytes : (m + kk) * i.bytes ≤ 140737488355328)
  {v' : Value} {w1 : World} (hrun : (Builtin.append_ #[t, t] ty #[.slice a m c, .slice (some ba) kk cb]).run P w = .ok v' w1) : v'.ownBlock = ab a ∨ v'.ownBlock = some w.heap.size := by
 have hsmall : m + kk ≤ 9223372036854775807 := by simp only [maxLen] at h63; omega
 have hown0 := hown
 rcases hown.2 with ⟨h, h0⟩ | ⟨g, cap, cur, h, hbg, hg, hnc, hcm, hcs, htake⟩
 ·cases h
  have hr := run_append_nil (P := P) w t ty e i z ht hi hz ba kk cb news hl hnews hk (by omega) (by rw [Nat.zero_add] at hbytes; omega)
  rw [hr] at hrun
  cases hrun
  exact .inr rfl
 ·cases h
  by_cases hroom : m + kk ≤ c
  ·have hfit : m * i.size + news.length ≤ cur.size := by rw [hl, hcs, ← Nat.add_mul]; exact Nat.mul_le_mul_right _ hroom
   have hr := run_append_room (P := P) w t ty e i ht hi g m c cur hg ba kk cb news hl hnews h1 hroom hfit
   rw [hr] at hrun
   cases hrun
   exact .inl rfl
  ·have holds : ∀ j u, xs[j]? = some u → w.cell? ((⟨g, 0, none⟩ : Addr).add j) = some u := hown0.cells (g := g) rfl
   have hr := run_append_grow (P := P) w t ty e i z ht hi hz ⟨g, 0, none⟩ m c xs hown0.1 holds ba kk cb news hl hnews (by omega) (by omega) (growslice_fits (by omega) hbytes)
   rw [hr] at hrun
   cases hrun
   exact .inr rfl

theorem awf {d : Nat} {t e ty : TypeId} {s x : Operand} {ps : String} {af : Array Edge} {g : Option (Nat × Bool)} {a : Option Addr} {ba : Addr} {m c kk cb sz by_ base : Nat} {z : Value} {cs vs : List Value} {tt : Array TypeId}
  (hs : ev l s = some (.slice a m c)) (hx : ev l x = some (.slice (some ba) kk cb)) (ht : U.tb.u t = some (.slice e)) (hi : U.tb.inf e = some (sz, by_, z)) (hzc : Nat.beq z.cells.size sz = true) (hsz : Nat.blt 0 sz = true) (hg : gd arr l g = some true) (hd : Nat.blt d n = true) (htt : tt = #[t, t])
  (hown : w.ownsRow base e sz (.slice a m c) m cs) (hv : Sl w (some ba) vs) (hl : vs.length = kk * sz) (hk : 0 < kk) (h1 : ∀ u ∈ vs, u.oneCell' = true) (hbase : base ≤ w.heap.size) (hlen : (m + kk) * by_ ≤ 140737488355328) (hby : Nat.blt 0 by_ = true)
  (t' : ∀ a' c' w1, w1.ownsRow base e sz (.slice a' (m + kk) c') (m + kk) (cs ++ vs) → w.grownBy w1 (ab a) → (ab a' = ab a ∨ ab a' = some w.heap.size) → T P ro n ds Q ((d, .slice a' (m + kk) c') :: l) w1 (.ops arr r) k) :
  T P ro n ds Q l w (.ops arr (⟨some d, .call ⟨.builtin .append, #[s, x], tt⟩, ty, ps, af, g⟩ :: r)) k := by
 subst htt
 have hsz : 0 < sz := by simpa using hsz
 have hzc := Nat.eq_of_beq_eq_true hzc
 have hby : 0 < by_ := by simpa using hby
 obtain ⟨i, hi0, hz1, hz2, hz3⟩ := U.hi _ _ _ _ hi
 have hpt := U.hu _ _ ht
 have hmm : m + kk ≤ maxLen := by
  unfold maxLen
  have : (m + kk) * 1 ≤ (m + kk) * by_ := Nat.mul_le_mul_left _ hby
  omega
 have hcell : ∀ j u, vs[j]? = some u → w.cell? (ba.add j) = some u := fun j u hj => by
  obtain ⟨g, off, he, hc⟩ := hv j u hj
  cases he
  rw [add_plain]; exact hc
 obtain ⟨v', w1, hrun, ho, hgr, _⟩ := run_append_own w base t ty e i z sz by_ hpt hi0 hz3 hz1 hz2 hzc hsz (.slice a m c) m cs hown ba kk cb vs hl hcell h1 hmm hlen hbase
 have hpl := append_place (P := P) base t ty e i z hpt hi0 hz3 (by rw [hzc, hz1]) (by omega) a m c cs (by rw [hz1]; exact hown) ba kk cb vs (by rw [hz1]; exact hl) hk hcell h1 hmm (by rw [hz2]; exact hlen) hrun
 obtain ⟨a', c', rfl⟩ : ∃ a' c', v' = .slice a' (m + kk) c' := by
  rcases ho.2 with ⟨rfl, h⟩ | ⟨g, cap, cur, h, _⟩
  ·exact ⟨none, 0, by rw [h]⟩
  ·exact ⟨_, _, h⟩
 rw [ownBlock_ab] at hgr hpl
 refine op1 (w' := w1) (by intro c h; cases h) hg (put1_some hd) (fun act hf => ?_) (t' a' c' w1 ho hgr hpl)
 simp only [execOp, resolve, invoke, builtin]
 simp [hf.ev hs, hf.ev hx, hrun]
end

def vws (n : Nat) (A : Nat → Option Addr) (L C : Nat → Nat) : List Value := (List.range n).map fun i => .slice (A i) (L i) (C i)
theorem vws_get {n i : Nat} {A : Nat → Option Addr} {L C : Nat → Nat} (h : i < n) : (vws n A L C)[i]? = some (.slice (A i) (L i) (C i)) := by simp [vws, h]
theorem vws_set {n i : Nat} (h : i < n) (A : Nat → Option Addr) (L C : Nat → Nat) (a : Option Addr) (m c : Nat) : (vws n A L C).set i (.slice a m c) = vws n (upd A i a) (upd L i m) (upd C i c) := by
 apply List.ext_getElem?
 intro j
 by_cases hj : j = i
 ·subst hj
  rw [vws_get h, upd_same, upd_same, upd_same, List.getElem?_set_self (by simp [vws, h])]
 ·rw [List.getElem?_set_ne (fun e => hj e.symm)]
  by_cases hn : j < n
  ·rw [vws_get hn, vws_get hn, upd_ne _ _ hj, upd_ne _ _ hj, upd_ne _ _ hj]
  ·rw [List.getElem?_eq_none (by simp [vws]; omega), List.getElem?_eq_none (by simp [vws]; omega)]
def Own2 (w : World) (base n : Nat) (A : Nat → Option Addr) (L C : Nat → Nat) (f : Nat → Nat → Rat) : Prop :=
 (∀ j, j < n → ∃ cs, w.ownsRow base 76 3 (.slice (A j) (L j) (C j)) (L j) cs ∧ Els w cs (L j) (f j)) ∧ ∀ j j', j < n → j' < n → j ≠ j' → ∀ g, ab (A j) = some g → ab (A j') ≠ some g
theorem Own2.keep {w w' : World} {base n t : Nat} {A : Nat → Option Addr} {L C : Nat → Nat} {f : Nat → Nat → Rat} {row : Option Nat} (h : Own2 w base n A L C f) (hg : w.grownBy w' row) (hr : ∀ g, row = some g → Tg w t g) (ht : Nat.beq 79 t = false) (hf : Nat.beq 76 t = false) : Own2 w' base n A L C f :=
 ⟨fun j hj => by
  obtain ⟨cs, h1, h2⟩ := h.1 j hj
  exact ⟨cs, own_keep h1 hg (fun g hga e => (own_tag h1 g hga).ne (hr g e) hf rfl), h2.push hg hr ht⟩, h.2⟩
theorem Own2.below {w w' : World} {base n : Nat} {A : Nat → Option Addr} {L C : Nat → Nat} {f : Nat → Nat → Rat} (h : Own2 w base n A L C f) (hb : Below w.heap.size w w') : Own2 w' base n A L C f :=
 ⟨fun j hj => by
  obtain ⟨cs, h1, h2⟩ := h.1 j hj
  exact ⟨cs, own_bw h1 hb, h2.stay hb⟩, h.2⟩
theorem Own2.grow {w w' : World} {base n k : Nat} {A : Nat → Option Addr} {L C : Nat → Nat} {f : Nat → Nat → Rat} {a' : Option Addr} {c' : Nat} {cs' : List Value} (h : Own2 w base n A L C f) (hk : k < n) (hg : w.grownBy w' (ab (A k)))
  (ho : w'.ownsRow base 76 3 (.slice a' (L k + 1) c') (L k + 1) cs') (he : Els w' cs' (L k + 1) (f k)) (hp : ab a' = ab (A k) ∨ ab a' = some w.heap.size) : Own2 w' base n (upd A k a') (upd L k (L k + 1)) (upd C k c') f := by
 obtain ⟨csk, hok, hek⟩ := h.1 k hk
 have htag := own_tag hok
 have hlt : ∀ j, j < n → ∀ g, ab (A j) = some g → g < w.heap.size := fun j hj g hga => by
  obtain ⟨cs, h1, _⟩ := h.1 j hj
  exact (own_block h1 g hga).2
 refine ⟨fun j hj => ?_, fun j j' hj hj' hne g hga hga' => ?_⟩
 ·by_cases hjk : j = k
  ·subst hjk; rw [upd_same, upd_same, upd_same]; exact ⟨cs', ho, he⟩
  ·rw [upd_ne _ _ hjk, upd_ne _ _ hjk, upd_ne _ _ hjk]
   obtain ⟨cs, h1, h2⟩ := h.1 j hj
   exact ⟨cs, own_keep h1 hg (fun g hga e => h.2 j k hj hk hjk g hga e), h2.push hg htag⟩
 ·by_cases hjk : j = k
  ·subst hjk
   rw [upd_same] at hga
   rw [upd_ne _ _ (fun e => hne e.symm)] at hga'
   rcases hp with hp | hp
   ·exact h.2 j j' hj hj' hne g (hp ▸ hga) hga'
   ·have := hlt j' hj' g hga'; rw [hga] at hp; cases hp; omega
  ·rw [upd_ne _ _ hjk] at hga
   by_cases hjk' : j' = k
   ·subst hjk'
    rw [upd_same] at hga'
    rcases hp with hp | hp
    ·exact h.2 j j' hj hj' hne g hga (hp ▸ hga')
    ·have := hlt j hj g hga; rw [hga'] at hp; cases hp; omega
   ·rw [upd_ne _ _ hjk'] at hga'
    exact h.2 j j' hj hj' hne g hga hga'
theorem own_mono2 {w : World} {base base' e s : Nat} {v : Value} {m : Nat} {cs : List Value} (h : w.ownsRow base e s v m cs) (hb : base' ≤ base) : w.ownsRow base' e s v m cs := by
 refine ⟨h.1, ?_⟩
 rcases h.2 with h | ⟨g, cap, cur, h1, h2, h3⟩
 ·exact .inl h
 ·exact .inr ⟨g, cap, cur, h1, Nat.le_trans hb h2, h3⟩
theorem rws_vws (m n : Nat) (A : Nat → Option Addr) (C : Nat → Nat) : rws m n A C = vws m A (fun _ => n) C := rfl
theorem Own2.snoc {w : World} {base i n : Nat} {A : Nat → Option Addr} {C : Nat → Nat} {f : Nat → Nat → Rat} {a : Option Addr} {c B : Nat} {cs : List Value} (h : Own2 w base i A (fun _ => n) C f) (ho : w.ownsRow B 76 3 (.slice a n c) n cs) (he : Els w cs n (f i)) (hB : base ≤ B)
  (hlt : ∀ j, j < i → ∀ g, ab (A j) = some g → g < B) : Own2 w base (i + 1) (upd A i a) (fun _ => n) (upd C i c) f := by
 refine ⟨fun j hj => ?_, fun j j' hj hj' hne g hga hga' => ?_⟩
 ·by_cases hji : j = i
  ·subst hji; rw [upd_same, upd_same]; exact ⟨cs, own_mono2 ho hB, he⟩
  ·rw [upd_ne _ _ hji, upd_ne _ _ hji]; exact h.1 j (by omega)
 ·by_cases hji : j = i
  ·subst hji
   rw [upd_same] at hga
   rw [upd_ne _ _ (fun e => hne e.symm)] at hga'
   have h1 := (own_block ho g hga).1
   have h2 := hlt j' (by omega) g hga'
   omega
  ·rw [upd_ne _ _ hji] at hga
   by_cases hji' : j' = i
   ·subst hji'
    rw [upd_same] at hga'
    have h1 := (own_block ho g hga').1
    have h2 := hlt j (by omega) g hga
    omega
   ·rw [upd_ne _ _ hji'] at hga'
    exact h.2 j j' (by omega) (by omega) hne g hga hga'

theorem own2_mat {w : World} {base B m n : Nat} {A : Nat → Option Addr} {C : Nat → Nat} {f : Nat → Nat → Rat} {a : Option Addr} {c : Nat} (ho : w.ownsRow B 105 1 (.slice a m c) m (rws m n A C)) (h : Own2 w base m A (fun _ => n) C f) : MatF w a m n f :=
 ⟨A, C, own_sl ho, fun i hi => by
  obtain ⟨cs, h1, h2⟩ := h.1 i hi
  exact ⟨own_vec h1 h2, own_cap3 h1⟩, own_tag ho⟩
end
section
set_option maxHeartbeats 1000000
open Go Go.Proofs Go.RowKit Go.Lib

theorem slc2 {w : World} {g o i : Nat} {vs : List Value} {v : Value} (h : Sl w (some ⟨g, o, none⟩) vs) (hv : vs[i]? = some v) : w.cell? ⟨g, o + i, none⟩ = some v := by
 obtain ⟨g', o', he, hc⟩ := h i v hv
 cases he
 exact hc
theorem vws_start (n : Nat) : List.replicate n (Value.slice none 0 0) = vws n (fun _ => none) (fun _ => 0) (fun _ => 0) := by
 unfold vws
 rw [List.map_const', List.length_range]
theorem vws_rws {n m : Nat} {A : Nat → Option Addr} {L C : Nat → Nat} (h : ∀ j, j < n → L j = m) : vws n A L C = rws n m A C := by
 unfold vws rws
 apply List.map_congr_left
 intro i hi
 rw [h i (List.mem_range.1 hi)]
theorem Own2.start (w : World) (base n : Nat) (f : Nat → Nat → Rat) : Own2 w base n (fun _ => none) (fun _ => 0) (fun _ => 0) f :=
 ⟨fun j hj => ⟨[], ⟨rfl, .inl ⟨rfl, rfl⟩⟩, Els.nil _ _⟩, fun j j' _ _ _ g h => by cases h⟩

set_option maxRecDepth 100000 in
theorem lflip_calls (m n : Nat) (f : Nat → Nat → Rat) (hm : 0 < m) (hn : 0 < n) (hm' : m ≤ 1000000) (hn' : n ≤ 1000000) (a : Option Addr) (c : Nat) (w : World) (hf : MatF w a m n f) :
  Calls Tryz.prog 118 #[.slice a m c] w (Ret fun v w' => (∃ a' c', v = .slice a' n c' ∧ MatF w' a' n m (fun j i => f i j)) ∧ Below w.heap.size w w') := by
 obtain ⟨Ar, Cr, hSl, hV, hTb⟩ := hf
 have hAb := fun g hg => (hTb g hg).lt
 refine enter Tryz.func118 rfl Tryz.ntmps118 (Nat.le_of_ble_eq_true rfl) ?_
 refine dT rfl ?_
 refine il U rfl rfl rfl rfl rfl rfl rfl (fun _ => rfl) rfl 0 rfl hm hSl (rws_get hm) ?_
 refine dT rfl ?_
 refine mkn U rfl rfl rfl rfl rfl rfl rfl n rfl rfl (by omega) (by omega) w.heap.size (Nat.le_refl _) ?_
 intro ao w0 ho0 hg0
 obtain ⟨go, rfl⟩ : ∃ go, ao = some ⟨go, 0, none⟩ := by
  rcases ho0.2 with ⟨_, h⟩ | ⟨g, cap, cur, h, _⟩
  ·omega
  ·cases h; exact ⟨g, rfl⟩
 have hB0 : Below w.heap.size w w0 := (Below.refl _ _).grown hg0 (Nat.le_refl _) (fun k e => by cases e)
 rw [vws_start] at ho0
 refine dT rfl ?_
 refine loopR (fun fr w' mm => ∃ (i : Nat) (A : Nat → Option Addr) (L C : Nat → Nat), fr = [(3, .slice (some ⟨go, 0, none⟩) n n), (13, .slice a m c), (14, .int .i64 (m : Nat)), (15, .int .i64 (i : Nat))] ∧ i ≤ m ∧
   w'.ownsRow w.heap.size 105 1 (.slice (some ⟨go, 0, none⟩) n n) n (vws n A L C) ∧ Own2 w' w.heap.size n A L C (fun j i => f i j) ∧ (∀ j, j < n → L j = i) ∧ Below w.heap.size w w' ∧ mm = m - i)
  ⟨0, _, _, _, rfl, by omega, ho0, Own2.start _ _ _ _, fun _ _ => rfl, hB0, rfl⟩ ⟨rfl, rfl, rfl, rfl, trivial⟩ ?_
 rintro fr w1 mm ⟨i, A, L, C, rfl, hi, ho, hO, hL, hB, rfl⟩
 refine dT rfl ?_
 refine cS rfl rfl rfl rfl (fun hq => ?_) (fun hq => ?_)
 ·have him : i < m := by omega
  obtain ⟨hVi, hCi⟩ := hV i him
  refine dT rfl ?_
  refine il U rfl rfl rfl rfl rfl rfl rfl (fun _ => rfl) rfl i rfl him (hSl.below hB hAb) (rws_get him) ?_
  refine dT rfl ?_
  obtain ⟨cf, hEf, hSf, hTf⟩ := hVi
  have hAf := fun g hg => (hTf g hg).lt
  refine loopR (fun fr w' mm => ∃ (k : Nat) (A : Nat → Option Addr) (L C : Nat → Nat), fr = [(3, .slice (some ⟨go, 0, none⟩) n n), (13, .slice a m c), (14, .int .i64 (m : Nat)), (15, .int .i64 (i : Nat)), (19, .slice (Ar i) n (Cr i)), (20, .int .i64 (n : Nat)), (21, .int .i64 (k : Nat))] ∧ k ≤ n ∧
    w'.ownsRow w.heap.size 105 1 (.slice (some ⟨go, 0, none⟩) n n) n (vws n A L C) ∧ Own2 w' w.heap.size n A L C (fun j i => f i j) ∧ (∀ j, j < n → L j = if j < k then i + 1 else i) ∧ Below w.heap.size w w' ∧ mm = n - k)
   ⟨0, A, L, C, rfl, by omega, ho, hO, fun j hj => by rw [hL j hj, if_neg (by omega)], hB, rfl⟩ ⟨rfl, rfl, rfl, rfl, rfl, rfl, rfl, trivial⟩ ?_
  rintro fr w2 mm ⟨k, A, L, C, rfl, hk, ho, hO, hL, hB, rfl⟩
  refine dT rfl ?_
  refine cS rfl rfl rfl rfl (fun hq => ?_) (fun hq => ?_)
  ·have hkn : k < n := by omega
   have hLk : L k = i := by rw [hL k hkn, if_neg (by omega)]
   refine dT rfl ?_
   refine ig U rfl rfl rfl rfl ag_frac rfl rfl (fun _ => rfl) rfl k rfl hkn (hSf.below hB hAf) (fun j v hv => el_get hv) (el_length (by rw [hEf.1]; omega)) (by decide) ?_
   have hfe := (hEf.2 k hkn).stay hB
   obtain ⟨u1, u2, u3, u4, u5, u6, u7, hu⟩ := hfe.shape
   have hbz := hB.size
   refine al U rfl rfl rfl rfl ?_
   intro b7 w3 hb7 hs3 hk7 hg3
   have hB3 := hB.grown hg3 hB.size (fun k e => by cases e)
   have ho3 := own_keep ho hg3 (by intro g e h; cases h)
   have hgo := (own_block ho go rfl).2
   have hO3 := hO.below ((Below.refl _ _).grown hg3 (Nat.le_refl _) (fun k e => by cases e))
   simp only [Value.agg.injEq, Array.mk.injEq] at hu
   rw [hu] at hfe ⊢
   refine dT rfl ?_
   refine st U rfl rfl rfl rfl rfl rfl rfl rfl rfl rfl (hk7) ?_
   intro w4 hk7 hg4 hs4
   have hB4 := hB3.grown hg4 hB3.size (fun k e => by cases e; omega)
   have ho4 := own_keep ho3 hg4 (fun g e h => by
    have h1 : b7 = g := Option.some.inj h
    have h2 : go = g := Option.some.inj e
    omega)
   have hB24 : Below w2.heap.size w2 w4 := ((Below.refl _ _).grown hg3 (Nat.le_refl _) (fun k e => by cases e)).grown hg4 (by omega) (fun k e => by cases e; omega)
   have hO4 := hO.below hB24
   have hfe4 := hfe.stay hB24
   refine dT rfl ?_
   refine dwn 10 (fun W => Sl W (some ⟨go, 0, none⟩) (vws n A L C) ∧ Bk W b7 76 [.bool u1, .slice u2 u3 u4, .slice u5 u6 u7]) hmo ?_
   intro w5 hh5 hg5
   have hB5 := hB4.grown hg5 hB4.size (fun k e => by cases e)
   have ho5 := own_keep ho4 hg5 (by intro g e h; cases h)
   have hB45 : Below w4.heap.size w4 w5 := (Below.refl _ _).grown hg5 (Nat.le_refl _) (fun k e => by cases e)
   have hO5 := hO4.below hB45
   have hk75 := hk7.below hB45 hk7.lt
   have hfe5 := hfe4.stay hB45
   have hl5 : ∀ W, (Sl W (some ⟨go, 0, none⟩) (vws n A L C) ∧ Bk W b7 76 [.bool u1, .slice u2 u3 u4, .slice u5 u6 u7]) → (loadVar 105 ((⟨go, 0, none⟩ : Addr).add (((k : Nat) : Int).toNat * 1))).run Tryz.prog W = .ok (.slice (A k) (L k) (C k)) W := fun W h => run_load_cell U rfl (by simpa [add_plain] using slc2 h.1 (vws_get hkn))
   have hl6 : ∀ W, (Sl W (some ⟨go, 0, none⟩) (vws n A L C) ∧ Bk W b7 76 [.bool u1, .slice u2 u3 u4, .slice u5 u6 u7]) → (loadVar 76 ⟨b7, 0, none⟩).run Tryz.prog W = .ok (.agg ⟨[.bool u1, .slice u2 u3 u4, .slice u5 u6 u7]⟩) W := fun W h => run_load_agg ag_frac h.2 rfl
   refine dq U [0,1,2,3,4,5,6] [(5, .slice (A k) (L k) (C k)), (6, .agg ⟨[.bool u1, .slice u2 u3 u4, .slice u5 u6 u7]⟩)] (by kernel_rfl) rfl rfl ⟨own_sl ho5, hk75⟩ (by simp only [AllP, InR, List.nil_append, List.cons_append]; (repeat' apply And.intro); all_goals first | exact True.intro | omega | (with_reducible exact hl5) | (with_reducible exact hl6)) ?_
   refine d1 rfl rfl (fun _ => ⟨own_sl ho5, hk75⟩) ?_
   refine bsS U [[.bool u1, .slice u2 u3 u4, .slice u5 u6 u7]] rfl rfl rfl rfl rfl rfl (by decide) (by decide) (by intro cs h; simp at h; subst h; rfl) ?_
   intro w6 hk8 hs6 hg6
   have hB6 := hB5.grown hg6 hB5.size (fun k e => by cases e)
   have ho6 := own_keep ho5 hg6 (by intro g e h; cases h)
   have hB56 : Below w5.heap.size w5 w6 := (Below.refl _ _).grown hg6 (Nat.le_refl _) (fun k e => by cases e)
   have hO6 := hO5.below hB56
   have hk76 := hk75.below hB56 hk75.lt
   have hfe6 := hfe5.stay hB56
   refine d2 ?_
   refine d1 rfl rfl (fun _ => ⟨own_sl ho6, hk76⟩) ?_
   obtain ⟨csk, hok, hek⟩ := hO6.1 k hkn
   refine awf U rfl rfl rfl rfl rfl rfl rfl rfl rfl hok (hk8.sl 0) rfl (by decide) (by intro u hu; simp at hu; rcases hu with rfl | rfl | rfl <;> rfl) hB6.size (by omega) rfl ?_
   intro a9 c9 w9 ho9 hg9 hp9
   have htk := own_tag hok
   have hB9 := hB6.grown hg9 hB6.size (fun g e => (own_block hok g e).1)
   have hout9 := own_keep ho6 hg9 (fun g hga e => (own_tag ho6 g hga).ne (htk g e) rfl rfl)
   have hk79 : Bk w9 b7 76 [.bool u1, .slice u2 u3 u4, .slice u5 u6 u7] := hk76.keep hg9 (by
    intro e
    obtain ⟨cs2, h2, _⟩ := hO.1 k hkn
    have := (own_block h2 b7 e).2
    omega)
   have he9 : Els w9 (csk ++ [.bool u1, .slice u2 u3 u4, .slice u5 u6 u7]) (L k + 1) (fun i => f i k) := (hek.push hg9 htk).snoc (by rw [hLk]; exact hfe6.push hg9 htk)
   have hO9 := hO6.grow hkn hg9 ho9 he9 hp9
   refine d2 ?_
   refine dqS [9] [] rfl rfl ⟨own_sl hout9, hk79⟩ ?_
   refine d1 rfl rfl (fun _ => ⟨own_sl hout9, hk79⟩) ?_
   refine so U (v := (.slice a9 (L k + 1) c9)) rfl rfl rfl rfl rfl rfl rfl k (by simp [add_plain]) hkn hout9 ?_
   intro w10 ho10 hg10 hs10
   have hB10 := hB9.grown hg10 hB9.size (fun g e => by cases e; exact (own_block hout9 go rfl).1)
   have hO10 := hO9.keep (t := 105) hg10 (fun g e => by cases e; exact own_tag hout9 go rfl) rfl rfl
   rw [vws_set hkn] at ho10
   refine d2 ?_; refine dend rfl (fun h => by cases h) ?_
   refine dS rfl ?_
   refine rend _ _ ⟨k + 1, _, _, _, rfl, by omega, ho10, hO10, fun j hj => ?_, hB10, rfl⟩ (by omega) ⟨rfl, rfl, rfl, rfl, rfl, rfl, iv (by omega), trivial⟩
   by_cases hjk : j = k
   ·subst hjk; rw [upd_same, hLk, if_pos (by omega)]
   ·rw [upd_ne _ _ hjk, hL j hj]
    by_cases h : j < k
    ·rw [if_pos h, if_pos (by omega)]
    ·rw [if_neg h, if_neg (by omega)]
  ·obtain rfl : k = n := by omega
   refine dS rfl ?_
   exact rend _ _ ⟨i + 1, A, L, C, rfl, by omega, ho, hO, fun j hj => by rw [hL j hj, if_pos hj], hB, rfl⟩ (by omega) ⟨rfl, rfl, rfl, iv (by omega), trivial⟩
 ·obtain rfl : i = m := by omega
  refine dT rfl ?_
  refine ret Tryz.results118 rfl ⟨_, rfl, ⟨some ⟨go, 0, none⟩, n, rfl, A, C, by rw [← vws_rws hL]; exact own_sl ho, fun j hj => ?_, own_tag ho⟩, hB⟩
  obtain ⟨cs, h1, h2⟩ := hO.1 j hj
  rw [hL j hj] at h1 h2
  exact ⟨own_vec h1 h2, own_cap3 h1⟩
end
section
set_option maxHeartbeats 1000000
open Go Go.Proofs Go.RowKit Go.Lib

abbrev rw' (xss : List (List (List UInt8))) (i : Nat) : List (List UInt8) := xss.getD i []
def srws (xss : List (List (List UInt8))) (A : Nat → Option Addr) (C : Nat → Nat) : List Value := (List.range xss.length).map fun i => .slice (A i) (rw' xss i).length (C i)
theorem srws_get {xss : List (List (List UInt8))} {i : Nat} {A : Nat → Option Addr} {C : Nat → Nat} (h : i < xss.length) : (srws xss A C)[i]? = some (.slice (A i) (rw' xss i).length (C i)) := by simp [srws, h]
def SM (w : World) (a : Option Addr) (xss : List (List (List UInt8))) : Prop := ∃ A C, Sl w a (srws xss A C) ∧ ∀ i, i < xss.length → Sl w (A i) (strs (rw' xss i))
theorem SM.stay {w w' : World} {a : Option Addr} {xss : List (List (List UInt8))} (h : SM w a xss) (hb : Below w.heap.size w w') : SM w' a xss := by
 obtain ⟨A, C, h1, h2⟩ := h
 exact ⟨A, C, h1.stay hb, fun i hi => (h2 i hi).stay hb⟩
def rowOk (xss : List (List (List UInt8))) (i : Nat) : Prop := (rw' xss i).length = (rw' xss 0).length ∧ VErr (rw' xss i) 0
def XErr (xss : List (List (List UInt8))) (e : Int) : Prop :=
 ((xss.length = 0 ∨ (rw' xss 0).length = 0) ∧ e = 3) ∨ (0 < xss.length ∧ 0 < (rw' xss 0).length ∧ (64 < xss.length ∨ 64 < (rw' xss 0).length) ∧ e = 4) ∨
 (0 < xss.length ∧ 0 < (rw' xss 0).length ∧ xss.length ≤ 64 ∧ (rw' xss 0).length ≤ 64 ∧ ∃ i, i < xss.length ∧ (∀ j, j < i → rowOk xss j) ∧ (((rw' xss i).length ≠ (rw' xss 0).length ∧ e = 3) ∨ ((rw' xss i).length = (rw' xss 0).length ∧ e ≠ 0 ∧ VErr (rw' xss i) e))) ∨
 (0 < xss.length ∧ 0 < (rw' xss 0).length ∧ xss.length ≤ 64 ∧ (rw' xss 0).length ≤ 64 ∧ (∀ j, j < xss.length → rowOk xss j) ∧ e = 0)
theorem rowOk.not {xss : List (List (List UInt8))} {i : Nat} {e : Int} (h : rowOk xss i) (h' : ((rw' xss i).length ≠ (rw' xss 0).length ∧ e = 3) ∨ ((rw' xss i).length = (rw' xss 0).length ∧ e ≠ 0 ∧ VErr (rw' xss i) e)) : False := by
 rcases h' with ⟨h1, _⟩ | ⟨_, h1, h2⟩
 ·exact h1 h.1
 ·exact h1 (h2.uniq h.2)
theorem XErr.uniq {xss : List (List (List UInt8))} {e f : Int} (h : XErr xss e) (h' : XErr xss f) : e = f := by
 rcases h with ⟨h1, rfl⟩ | ⟨h0, h1, h2, rfl⟩ | ⟨h0, h1, h2, h3, i, h4, h5, h6⟩ | ⟨h0, h1, h2, h3, h4, rfl⟩ <;>
  rcases h' with ⟨g1, rfl⟩ | ⟨g0, g1, g2, rfl⟩ | ⟨g0, g1, g2, g3, j, g4, g5, g6⟩ | ⟨g0, g1, g2, g3, g4, rfl⟩ <;> first
  | rfl
  | (exfalso; omega)
  | (rcases Nat.lt_trichotomy i j with h | rfl | h
     · exact (rowOk.not (g5 i h) h6).elim
     · rcases h6 with ⟨h7, rfl⟩ | ⟨h7, h8, h9⟩ <;> rcases g6 with ⟨g7, rfl⟩ | ⟨g7, g8, g9⟩ <;> first | rfl | contradiction | exact h9.uniq g9
     · exact (rowOk.not (h5 j h) g6).elim)
  | exact (rowOk.not (g4 i h4) h6).elim
  | exact (rowOk.not (h4 j g4) g6).elim
theorem XErr.ok {xss : List (List (List UInt8))} (h : XErr xss 0) : 0 < xss.length ∧ 0 < (rw' xss 0).length ∧ xss.length ≤ 64 ∧ (rw' xss 0).length ≤ 64 ∧ ∀ j, j < xss.length → rowOk xss j := by
 rcases h with ⟨_, h⟩ | ⟨_, _, _, h⟩ | ⟨_, _, _, _, i, hi, _, ⟨_, h⟩ | ⟨_, h, _⟩⟩ | ⟨h0, h1, h2, h3, h4, _⟩
 ·cases h
 ·cases h
 ·cases h
 ·exact absurd rfl h
 ·exact ⟨h0, h1, h2, h3, h4⟩

theorem lcheck_calls (xss : List (List (List UInt8))) (a : Option Addr) (c : Nat) (w : World) (hs : SM w a xss) (hl : xss.length ≤ 1099511627776) (hl2 : ∀ i, i < xss.length → (rw' xss i).length ≤ 1099511627776) (hx : ∀ i, i < xss.length → ∀ j, j < (rw' xss i).length → ((rw' xss i).getD j []).length ≤ 1099511627776) :
  Calls Tryz.prog 147 #[.slice a xss.length c] w (Ret fun v w' => (∃ e, v = .int .i64 e ∧ XErr xss e) ∧ Below w.heap.size w w') := by
 obtain ⟨A, C, hSl, hR⟩ := hs
 refine enter Tryz.func147 rfl Tryz.ntmps147 (Nat.le_of_ble_eq_true rfl) ?_
 refine dT rfl ?_
 refine cS rfl rfl rfl rfl (fun hq => ?_) (fun hq => ?_)
 ·refine dT rfl ?_
  exact ret Tryz.results147 rfl ⟨_, rfl, ⟨3, rfl, .inl ⟨.inl (by omega), rfl⟩⟩, Below.refl _ _⟩
 have h0 : 0 < xss.length := by omega
 have hb0 := hl2 0 h0
 refine dT rfl ?_
 refine il U rfl rfl rfl rfl rfl rfl rfl (fun _ => rfl) rfl 0 rfl h0 hSl (srws_get h0) ?_
 refine dT rfl ?_
 refine cS rfl rfl rfl rfl (fun hq1 => ?_) (fun hq1 => ?_)
 ·refine dT rfl ?_
  exact ret Tryz.results147 rfl ⟨_, rfl, ⟨3, rfl, .inl ⟨.inr (by omega), rfl⟩⟩, Below.refl _ _⟩
 have h1 : 0 < (rw' xss 0).length := by omega
 refine dT rfl ?_
 refine cS rfl rfl rfl rfl (fun hq2 => ?_) (fun hq2 => ?_)
 ·refine dT rfl ?_
  exact ret Tryz.results147 rfl ⟨_, rfl, ⟨4, rfl, .inr (.inl ⟨h0, h1, .inl (by omega), rfl⟩)⟩, Below.refl _ _⟩
 refine dT rfl ?_
 refine il U rfl rfl rfl rfl rfl rfl rfl (fun _ => rfl) rfl 0 rfl h0 hSl (srws_get h0) ?_
 refine dT rfl ?_
 refine cS rfl rfl rfl rfl (fun hq3 => ?_) (fun hq3 => ?_)
 ·refine dT rfl ?_
  exact ret Tryz.results147 rfl ⟨_, rfl, ⟨4, rfl, .inr (.inl ⟨h0, h1, .inr (by omega), rfl⟩)⟩, Below.refl _ _⟩
 have h64 : xss.length ≤ 64 := by omega
 have h65 : (rw' xss 0).length ≤ 64 := by omega
 refine dT rfl ?_
 refine loopR (fun fr w' mm => ∃ (i : Nat), fr = [(0, .slice a xss.length c), (28, .slice a xss.length c), (29, .int .i64 (xss.length : Nat)), (30, .int .i64 (i : Nat))] ∧ i ≤ xss.length ∧ (∀ j, j < i → rowOk xss j) ∧ Below w.heap.size w w' ∧ mm = xss.length - i)
  ⟨0, rfl, by omega, fun j hj => absurd hj (by omega), Below.refl _ _, rfl⟩ ⟨rfl, rfl, rfl, rfl, trivial⟩ ?_
 rintro fr w1 mm ⟨i, rfl, hi, hok, hB, rfl⟩
 have hSl1 := hSl.stay hB
 refine dT rfl ?_
 refine cS rfl rfl rfl rfl (fun hq => ?_) (fun hq => ?_)
 ·have hil : i < xss.length := by omega
  have hbi := hl2 i hil
  refine dT rfl ?_
  refine il U rfl rfl rfl rfl rfl rfl rfl (fun _ => rfl) rfl i rfl hil hSl1 (srws_get hil) ?_
  refine dT rfl ?_
  refine il U rfl rfl rfl rfl rfl rfl rfl (fun _ => rfl) rfl 0 rfl h0 hSl1 (srws_get h0) ?_
  refine dT rfl ?_
  refine cS rfl rfl rfl rfl (fun hq4 => ?_) (fun hq4 => ?_)
  ·refine dT rfl ?_
   exact ret Tryz.results147 rfl ⟨_, rfl, ⟨3, rfl, .inr (.inr (.inl ⟨h0, h1, h64, h65, i, hil, hok, .inl ⟨fun h => hq4 (by rw [h]), rfl⟩⟩))⟩, hB⟩
  have hlen : (rw' xss i).length = (rw' xss 0).length := by omega
  refine dT rfl ?_
  refine call (f := 45) rfl rfl cb45 (lVector_calls (rw' xss i) (A i) (C i) w1 ((hR i hil).stay hB) hbi (hx i hil)) ?_
  rintro v w2 ⟨⟨e, rfl, he⟩, hB2⟩
  have hB2' := bl_tr hB hB2 hB.size
  refine ⟨_, rfl, ?_⟩
  refine dT rfl ?_
  refine cS rfl rfl rfl rfl (fun hq5 => ?_) (fun hq5 => ?_)
  ·refine dT rfl ?_
   exact ret Tryz.results147 rfl ⟨_, rfl, ⟨e, rfl, .inr (.inr (.inl ⟨h0, h1, h64, h65, i, hil, hok, .inr ⟨hlen, hq5, he⟩⟩))⟩, hB2'⟩
  obtain rfl := Classical.not_not.1 hq5
  refine dS rfl ?_
  refine rend _ _ ⟨i + 1, rfl, by omega, fun j hj => ?_, hB2', rfl⟩ (by omega) ⟨rfl, rfl, rfl, iv (by omega), trivial⟩
  rcases Nat.lt_succ_iff_lt_or_eq.1 hj with h | rfl
  ·exact hok j h
  ·exact ⟨hlen, he⟩
 ·obtain rfl : i = xss.length := by omega
  refine dT rfl ?_
  exact ret Tryz.results147 rfl ⟨_, rfl, ⟨0, rfl, .inr (.inr (.inr ⟨h0, h1, h64, h65, hok, rfl⟩))⟩, hB⟩

def mval (xss : List (List (List UInt8))) : Nat → Nat → Rat := fun i k => qval ((rw' xss i).getD k [])
def MatR (B : Nat) (xss : List (List (List UInt8))) (v : Value) (w : World) : Prop :=
 (∃ e, e ≠ 0 ∧ XErr xss e ∧ v = .tuple ⟨[.slice none 0 0, .int .i64 e]⟩) ∨ (XErr xss 0 ∧ ∃ a c A C, v = .tuple ⟨[.slice a xss.length c, .int .i64 0]⟩ ∧ w.ownsRow B 105 1 (.slice a xss.length c) xss.length (rws xss.length (rw' xss 0).length A C) ∧ Own2 w B xss.length A (fun _ => (rw' xss 0).length) C (mval xss))
theorem lread_calls (xss : List (List (List UInt8))) (a : Option Addr) (c : Nat) (w : World) (hs : SM w a xss) (hl : xss.length ≤ 1099511627776) (hl2 : ∀ i, i < xss.length → (rw' xss i).length ≤ 1099511627776) (hx : ∀ i, i < xss.length → ∀ j, j < (rw' xss i).length → ((rw' xss i).getD j []).length ≤ 1099511627776) :
  Calls Tryz.prog 116 #[.slice a xss.length c] w (Ret fun v w' => MatR w.heap.size xss v w' ∧ Below w.heap.size w w') := by
 have hs0 := hs
 obtain ⟨A, C, hSl, hR⟩ := hs0
 refine enter Tryz.func116 rfl Tryz.ntmps116 (Nat.le_of_ble_eq_true rfl) ?_
 refine dT rfl ?_
 refine call (f := 147) rfl rfl cb147 (lcheck_calls xss a c w hs hl hl2 hx) ?_
 rintro v w0 ⟨⟨e, rfl, he⟩, hB0⟩
 refine ⟨_, rfl, ?_⟩
 refine dT rfl ?_
 refine cS rfl rfl rfl rfl (fun hq1 => ?_) (fun hq1 => ?_)
 ·refine dT rfl ?_
  exact ret Tryz.results116 rfl ⟨_, rfl, .inl ⟨e, hq1, he, rfl⟩, hB0⟩
 obtain rfl := Classical.not_not.1 hq1
 obtain ⟨h0, h1, h64, h65, hall⟩ := he.ok
 refine dT rfl ?_
 refine loopR (fun fr w' mm => ∃ (i : Nat) (a2 : Option Addr) (c2 : Nat) (A2 : Nat → Option Addr) (C2 : Nat → Nat), fr = [(5, .slice a2 i c2), (15, .slice a xss.length c), (16, .int .i64 (xss.length : Nat)), (17, .int .i64 (i : Nat))] ∧ i ≤ xss.length ∧
   w'.ownsRow w.heap.size 105 1 (.slice a2 i c2) i (rws i (rw' xss 0).length A2 C2) ∧ Own2 w' w.heap.size i A2 (fun _ => (rw' xss 0).length) C2 (mval xss) ∧ Below w.heap.size w w' ∧ mm = xss.length - i)
  ⟨0, none, 0, fun _ => none, fun _ => 0, rfl, by omega, ⟨rfl, .inl ⟨rfl, rfl⟩⟩, ⟨fun j hj => absurd hj (by omega), fun j j' hj => absurd hj (by omega)⟩, hB0, rfl⟩ ⟨rfl, rfl, rfl, rfl, trivial⟩ ?_
 rintro fr w1 mm ⟨i, a2, c2, A2, C2, rfl, hi, ho, hV, hB, rfl⟩
 refine dT rfl ?_
 refine cS rfl rfl rfl rfl (fun hq => ?_) (fun hq => ?_)
 ·have hil : i < xss.length := by omega
  have hrow := hall i hil
  refine dT rfl ?_
  refine il U rfl rfl rfl rfl rfl rfl rfl (fun _ => rfl) rfl i rfl hil (hSl.stay hB) (srws_get hil) ?_
  refine dT rfl ?_
  refine call (f := 83) rfl rfl cb83 (lvector_calls (rw' xss i) (A i) (C i) w1 ((hR i hil).stay hB) (hl2 i hil) (hx i hil)) ?_
  rintro v w2 ⟨hr, hB2⟩
  rcases hr with ⟨e, h1, h2, rfl⟩ | ⟨_, a3, c3, cs3, rfl, ho3, hE3⟩
  ·exact absurd (h2.uniq hrow.2) h1
  rw [hrow.1] at ho3 hE3 ⊢
  have hB2' := bl_tr hB hB2 hB.size
  have ho2 := own_bw ho hB2
  refine ⟨_, rfl, ?_⟩
  refine dT rfl ?_
  refine ap U (v := (.slice a3 (rw' xss 0).length c3)) rfl rfl rfl rfl rfl rfl (fun _ => rfl) rfl (fun _ => rfl) rfl rfl rfl ho2 hB2'.size (by omega) (by decide) ?_
  intro a5 c5 w5 ho5 hg5
  have hB5 := hB2'.grown hg5 hB2'.size (fun g e => (own_block ho2 g e).1)
  rw [rws_snoc] at ho5
  have hlt : ∀ j, j < i → ∀ g, ab (A2 j) = some g → g < w1.heap.size := fun j hj g hg => by
   obtain ⟨cs, h1, _⟩ := hV.1 j hj
   exact (own_block h1 g hg).2
  have hO3 := (hV.below hB2).snoc ho3 hE3 hB.size hlt
  have hO5 := hO3.keep (t := 105) hg5 (own_tag ho2) rfl rfl
  refine dS rfl ?_
  exact rend _ _ ⟨i + 1, a5, c5, _, _, rfl, by omega, ho5, hO5, hB5, rfl⟩ (by omega) ⟨rfl, rfl, rfl, iv (by omega), trivial⟩
 ·obtain rfl : i = xss.length := by omega
  refine dT rfl ?_
  exact ret Tryz.results116 rfl ⟨_, rfl, .inr ⟨he, a2, c2, A2, C2, rfl, ho, hV⟩, hB⟩
end
section
set_option maxHeartbeats 1000000
open Go Go.Proofs Go.RowKit Go.Lib

def mtx (m n : Nat) (f : Nat → Nat → Rat) : List (List (List UInt8)) := (List.range m).map fun i => txs n (f i)
theorem mtx_length (m n : Nat) (f : Nat → Nat → Rat) : (mtx m n f).length = m := by simp [mtx]
theorem mtx_row {m n i : Nat} {f : Nat → Nat → Rat} (h : i < m) : rw' (mtx m n f) i = txs n (f i) := by simp [rw', mtx, List.getD, h]
def MtxR (m n : Nat) (f : Nat → Nat → Rat) (v : Value) (w : World) : Prop :=
 ((∃ i, i < m ∧ ∃ k, k < n ∧ ¬ Small 4000 (f i k)) ∧ v = .tuple ⟨[.slice none 0 0, .int .i64 5]⟩) ∨
 ((∀ i, i < m → ∀ k, k < n → Small 4000 (f i k)) ∧ ∃ a c, v = .tuple ⟨[.slice a m c, .int .i64 0]⟩ ∧ SM w a (mtx m n f))
def BErr (xss : List (List (List UInt8))) (ys : List (List UInt8)) (e : Int) : Prop := (e ≠ 0 ∧ XErr xss e) ∨ (XErr xss 0 ∧ VErr ys e)
theorem BErr.uniq {xss : List (List (List UInt8))} {ys : List (List UInt8)} {e f : Int} (h : BErr xss ys e) (h' : BErr xss ys f) : e = f := by
 rcases h with ⟨h1, h2⟩ | ⟨h1, h2⟩ <;> rcases h' with ⟨g1, g2⟩ | ⟨g1, g2⟩
 ·exact h2.uniq g2
 ·exact absurd (h2.uniq g1) h1
 ·exact absurd (g2.uniq h1) g1
 ·exact h2.uniq g2
theorem BErr.ok {xss : List (List (List UInt8))} {ys : List (List UInt8)} (h : BErr xss ys 0) : XErr xss 0 ∧ VErr ys 0 := by
 rcases h with ⟨h1, _⟩ | h
 ·exact absurd rfl h1
 ·exact h
def vval (ys : List (List UInt8)) : Nat → Rat := fun i => qval (ys.getD i [])
def BothR (xss : List (List (List UInt8))) (ys : List (List UInt8)) (v : Value) (w : World) : Prop :=
 ∃ am nm cm av nv cv e, v = .tuple ⟨[.slice am nm cm, .slice av nv cv, .int .i64 e]⟩ ∧ BErr xss ys e ∧ (e = 0 → nm = xss.length ∧ nv = ys.length ∧ MatF w am xss.length (rw' xss 0).length (mval xss) ∧ VecF w av ys.length (vval ys))
theorem lboth_calls (xss : List (List (List UInt8))) (ys : List (List UInt8)) (a b : Option Addr) (c d : Nat) (w : World) (hs : SM w a xss) (hl : xss.length ≤ 1099511627776) (hl2 : ∀ i, i < xss.length → (rw' xss i).length ≤ 1099511627776) (hx : ∀ i, i < xss.length → ∀ j, j < (rw' xss i).length → ((rw' xss i).getD j []).length ≤ 1099511627776)
  (hsy : Sl w b (strs ys)) (hly : ys.length ≤ 1099511627776) (hy : ∀ j, j < ys.length → (ys.getD j []).length ≤ 1099511627776) :
  Calls Tryz.prog 87 #[.slice a xss.length c, .slice b ys.length d] w (Ret fun v w' => BothR xss ys v w' ∧ Below w.heap.size w w') := by
 refine enter Tryz.func87 rfl Tryz.ntmps87 (Nat.le_of_ble_eq_true rfl) ?_
 refine dT rfl ?_
 refine call (f := 116) rfl rfl cb116 (lread_calls xss a c w hs hl hl2 hx) ?_
 rintro v w1 ⟨hr, hB1⟩
 rcases hr with ⟨e, h1, h2, rfl⟩ | ⟨he, am, cm, _, _, rfl, hoM, hOM⟩
 ·refine ⟨_, rfl, ?_⟩
  refine dT rfl ?_
  refine cT rfl rfl rfl (h1) ?_; refine dT rfl ?_
  exact ret Tryz.results87 rfl ⟨_, rfl, ⟨_, _, _, _, _, _, e, rfl, .inl ⟨h1, h2⟩, fun h => absurd h h1⟩, hB1⟩
 have hM := own2_mat hoM hOM
 refine ⟨_, rfl, ?_⟩
 refine dT rfl ?_
 refine cF rfl rfl rfl ((fun h => h rfl)) ?_; refine dT rfl ?_
 refine call (f := 83) rfl rfl cb83 (lvector_calls ys b d w1 (hsy.stay hB1) hly hy) ?_
 rintro v w2 ⟨hr, hB2⟩
 have hB2' := bl_tr hB1 hB2 hB1.size
 rcases hr with ⟨e, h1, h2, rfl⟩ | ⟨hv, av, cv, csv, rfl, hov, hEv⟩
 ·refine ⟨_, rfl, ?_⟩
  refine dT rfl ?_
  exact ret Tryz.results87 rfl ⟨_, rfl, ⟨_, _, _, _, _, _, e, rfl, .inr ⟨he, h2⟩, fun h => absurd h h1⟩, hB2'⟩
 refine ⟨_, rfl, ?_⟩
 refine dT rfl ?_
 exact ret Tryz.results87 rfl ⟨_, rfl, ⟨_, _, _, _, _, _, 0, rfl, .inr ⟨he, hv⟩, fun _ => ⟨rfl, rfl, hM.stay hB2, own_vec hov hEv⟩⟩, hB2'⟩

theorem VErr.small {ys : List (List UInt8)} (h : VErr ys 0) : ∀ i, i < ys.length → Small 4000 (vval ys i) := fun i hi => (h.ok.2.2 i hi).small
theorem XErr.small {xss : List (List (List UInt8))} (h : XErr xss 0) : ∀ i, i < xss.length → ∀ k, k < (rw' xss 0).length → Small 4000 (mval xss i k) := fun i hi k hk => by
 have := h.ok.2.2.2.2 i hi
 exact (this.2.ok.2.2 k (by rw [this.1]; exact hk)).small
def AppR (xss : List (List (List UInt8))) (ys : List (List UInt8)) (v : Value) (w : World) : Prop :=
 (∃ e, e ≠ 0 ∧ BErr xss ys e ∧ v = .tuple ⟨[.slice none 0 0, .int .i64 e]⟩) ∨
 (BErr xss ys 0 ∧ (rw' xss 0).length ≠ ys.length ∧ v = .tuple ⟨[.slice none 0 0, .int .i64 10]⟩) ∨
 (BErr xss ys 0 ∧ (rw' xss 0).length = ys.length ∧ TxtR xss.length (fun k => sm ys.length (fun t => mval xss k t * vval ys t)) v w)
end
end Go.Proofs.YtejlpdbiacmfcaaGreatDoor
