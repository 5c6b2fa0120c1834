/-
  Walk of matrix.flip.
  Conditions: lists of at most a million elements.

  Walks of matrix.times, linear.column, Transpose, Mul.
  Conditions: texts take fewer than 2^40 bytes, lists fewer than 2^40 elements; the library's table of powers of ten is laid.

  Walks of linear.Transpose and linear.Mul.
  Conditions: texts take fewer than 2^40 bytes, lists fewer than 2^40 elements; the library's table of powers of ten is laid.

  Walks of frac.Of, frac.One, linear.identity, linear.Identity.
  Conditions: the library's table of powers of ten is laid.

  Walk of linear.Identity.
  Conditions: the library's table of powers of ten is laid.
-/
import Derived.Test.YtfdekppnilffeaaGreatDoorYVa
import Derived.Test.YtfdekppnilffeaaGreatDoorYLb
section
set_option linter.unusedSimpArgs false
set_option linter.unusedVariables false
set_option maxHeartbeats 1000000
namespace Go.Proofs.YtfdekppnilffeaaGreatDoor
open Go Go.Proofs Go.RowKit Go.Lib

theorem slc2 {w : World} {g o i : Nat} {vs : List Value} {v : Value} (h : Sl w (some ⟨g, o, none⟩) vs) (hv : vs[i]? = some v) : w.cell? ⟨g, o + i, none⟩ = some v := by
  obtain ⟨g', o', he, hc⟩ := h i v hv
  cases he
  exact hc
theorem vws_start (n : Nat) : List.replicate n (Value.slice none 0 0) = vws n (fun _ => none) (fun _ => 0) (fun _ => 0) := by
  unfold vws
  rw [List.map_const', List.length_range]
theorem vws_rws {n m : Nat} {A : Nat → Option Addr} {L C : Nat → Nat} (h : ∀ j, j < n → L j = m) : vws n A L C = rws n m A C := by
  unfold vws rws
  apply List.map_congr_left
  intro i hi
  rw [h i (List.mem_range.1 hi)]
theorem Own2.start (w : World) (base n : Nat) (f : Nat → Nat → Rat) : Own2 w base n (fun _ => none) (fun _ => 0) (fun _ => 0) f :=
  ⟨fun j hj => ⟨[], ⟨rfl, .inl ⟨rfl, rfl⟩⟩, Els.nil _ _⟩, fun j j' _ _ _ g h => by cases h⟩

set_option maxRecDepth 100000 in
theorem lflip_calls (m n : Nat) (f : Nat → Nat → Rat) (hm : 0 < m) (hn : 0 < n) (hm' : m ≤ 1000000) (hn' : n ≤ 1000000) (a : Option Addr) (c : Nat) (w : World) (hf : MatF w a m n f) :
    Calls Tryz.prog 52 #[.slice a m c] w (Ret fun v w' => (∃ a' c', v = .slice a' n c' ∧ MatF w' a' n m (fun j i => f i j)) ∧ Below w.heap.size w w') := by
  obtain ⟨Ar, Cr, hSl, hV, hTb⟩ := hf
  have hAb := fun g hg => (hTb g hg).lt
  refine enter Tryz.func52 rfl Tryz.ntmps52 (Nat.le_of_ble_eq_true rfl) ?_
  refine dr U 600 rfl trivial ?_
  refine il U rfl rfl rfl rfl rfl rfl rfl (fun _ => rfl) rfl 0 rfl hm hSl (rws_get hm) ?_
  refine dr U 600 rfl trivial ?_
  refine mkn U rfl rfl rfl rfl rfl rfl rfl n rfl rfl (by omega) (by omega) w.heap.size (Nat.le_refl _) ?_
  intro ao w0 ho0 hg0
  obtain ⟨go, rfl⟩ : ∃ go, ao = some ⟨go, 0, none⟩ := by
    rcases ho0.2 with ⟨_, h⟩ | ⟨g, cap, cur, h, _⟩
    · omega
    · cases h; exact ⟨g, rfl⟩
  have hB0 : Below w.heap.size w w0 := (Below.refl _ _).grown hg0 (Nat.le_refl _) (fun k e => by cases e)
  rw [vws_start] at ho0
  refine dr U 600 rfl trivial ?_
  refine loopR (fun fr w' mm => ∃ (i : Nat) (A : Nat → Option Addr) (L C : Nat → Nat), fr = [(3, .slice (some ⟨go, 0, none⟩) n n), (13, .slice a m c), (14, .int .i64 (m : Nat)), (15, .int .i64 (i : Nat))] ∧ i ≤ m ∧
      w'.ownsRow w.heap.size 58 1 (.slice (some ⟨go, 0, none⟩) n n) n (vws n A L C) ∧ Own2 w' w.heap.size n A L C (fun j i => f i j) ∧ (∀ j, j < n → L j = i) ∧ Below w.heap.size w w' ∧ mm = m - i)
    ⟨0, _, _, _, rfl, by omega, ho0, Own2.start _ _ _ _, fun _ _ => rfl, hB0, rfl⟩ ⟨rfl, rfl, rfl, rfl, trivial⟩ ?_
  rintro fr w1 mm ⟨i, A, L, C, rfl, hi, ho, hO, hL, hB, rfl⟩
  refine dr U 600 rfl trivial ?_
  refine cS rfl rfl rfl rfl (fun hq => ?_) (fun hq => ?_)
  · have him : i < m := by omega
    obtain ⟨hVi, hCi⟩ := hV i him
    refine dr U 600 rfl trivial ?_
    refine il U rfl rfl rfl rfl rfl rfl rfl (fun _ => rfl) rfl i rfl him (hSl.below hB hAb) (rws_get him) ?_
    refine dr U 600 rfl trivial ?_
    obtain ⟨cf, hEf, hSf, hTf⟩ := hVi
    have hAf := fun g hg => (hTf g hg).lt
    refine loopR (fun fr w' mm => ∃ (k : Nat) (A : Nat → Option Addr) (L C : Nat → Nat), fr = [(3, .slice (some ⟨go, 0, none⟩) n n), (13, .slice a m c), (14, .int .i64 (m : Nat)), (15, .int .i64 (i : Nat)), (19, .slice (Ar i) n (Cr i)), (20, .int .i64 (n : Nat)), (21, .int .i64 (k : Nat))] ∧ k ≤ n ∧
        w'.ownsRow w.heap.size 58 1 (.slice (some ⟨go, 0, none⟩) n n) n (vws n A L C) ∧ Own2 w' w.heap.size n A L C (fun j i => f i j) ∧ (∀ j, j < n → L j = if j < k then i + 1 else i) ∧ Below w.heap.size w w' ∧ mm = n - k)
      ⟨0, A, L, C, rfl, by omega, ho, hO, fun j hj => by rw [hL j hj, if_neg (by omega)], hB, rfl⟩ ⟨rfl, rfl, rfl, rfl, rfl, rfl, rfl, trivial⟩ ?_
    rintro fr w2 mm ⟨k, A, L, C, rfl, hk, ho, hO, hL, hB, rfl⟩
    refine dr U 600 rfl trivial ?_
    refine cS rfl rfl rfl rfl (fun hq => ?_) (fun hq => ?_)
    · have hkn : k < n := by omega
      have hLk : L k = i := by rw [hL k hkn, if_neg (by omega)]
      refine dr U 600 rfl trivial ?_
      refine ig U rfl rfl rfl rfl ag_frac rfl rfl (fun _ => rfl) rfl k rfl hkn (hSf.below hB hAf) (fun j v hv => el_get hv) (el_length (by rw [hEf.1]; omega)) (by decide) ?_
      have hfe := (hEf.2 k hkn).stay hB
      obtain ⟨u1, u2, u3, u4, u5, u6, u7, hu⟩ := hfe.shape
      have hbz := hB.size
      refine al U rfl rfl rfl rfl ?_
      intro b7 w3 hb7 hs3 hk7 hg3
      have hB3 := hB.grown hg3 hB.size (fun k e => by cases e)
      have ho3 := own_keep ho hg3 (by intro g e h; cases h)
      have hgo := (own_block ho go rfl).2
      have hO3 := hO.below ((Below.refl _ _).grown hg3 (Nat.le_refl _) (fun k e => by cases e))
      simp only [Value.agg.injEq, Array.mk.injEq] at hu
      rw [hu] at hfe ⊢
      refine dr U 600 rfl trivial ?_
      refine st U rfl rfl rfl rfl rfl rfl rfl rfl rfl rfl (hk7) ?_
      intro w4 hk7 hg4 hs4
      have hB4 := hB3.grown hg4 hB3.size (fun k e => by cases e; omega)
      have ho4 := own_keep ho3 hg4 (fun g e h => by
        have h1 : b7 = g := Option.some.inj h
        have h2 : go = g := Option.some.inj e
        omega)
      have hB24 : Below w2.heap.size w2 w4 := ((Below.refl _ _).grown hg3 (Nat.le_refl _) (fun k e => by cases e)).grown hg4 (by omega) (fun k e => by cases e; omega)
      have hO4 := hO.below hB24
      have hfe4 := hfe.stay hB24
      refine dr U 600 rfl trivial ?_
      refine dwn 10 (fun W => Sl W (some ⟨go, 0, none⟩) (vws n A L C) ∧ Bk W b7 105 [.bool u1, .slice u2 u3 u4, .slice u5 u6 u7]) hmo ?_
      intro w5 hh5 hg5
      have hB5 := hB4.grown hg5 hB4.size (fun k e => by cases e)
      have ho5 := own_keep ho4 hg5 (by intro g e h; cases h)
      have hB45 : Below w4.heap.size w4 w5 := (Below.refl _ _).grown hg5 (Nat.le_refl _) (fun k e => by cases e)
      have hO5 := hO4.below hB45
      have hk75 := hk7.below hB45 hk7.lt
      have hfe5 := hfe4.stay hB45
      have hl5 : ∀ W, (Sl W (some ⟨go, 0, none⟩) (vws n A L C) ∧ Bk W b7 105 [.bool u1, .slice u2 u3 u4, .slice u5 u6 u7]) → (loadVar 58 ((⟨go, 0, none⟩ : Addr).add (((k : Nat) : Int).toNat * 1))).run Tryz.prog W = .ok (.slice (A k) (L k) (C k)) W := fun W h => run_load_cell U rfl (by simpa [add_plain] using slc2 h.1 (vws_get hkn))
      have hl6 : ∀ W, (Sl W (some ⟨go, 0, none⟩) (vws n A L C) ∧ Bk W b7 105 [.bool u1, .slice u2 u3 u4, .slice u5 u6 u7]) → (loadVar 105 ⟨b7, 0, none⟩).run Tryz.prog W = .ok (.agg ⟨[.bool u1, .slice u2 u3 u4, .slice u5 u6 u7]⟩) W := fun W h => run_load_agg ag_frac h.2 rfl
      refine dq U [0,1,2,3,4,5,6] [(5, .slice (A k) (L k) (C k)), (6, .agg ⟨[.bool u1, .slice u2 u3 u4, .slice u5 u6 u7]⟩)] (by kernel_rfl) rfl rfl ⟨own_sl ho5, hk75⟩ (by simp only [AllP, InR, List.nil_append, List.cons_append]; (repeat' apply And.intro); all_goals first | exact True.intro | omega | (with_reducible exact hl5) | (with_reducible exact hl6)) ?_
      refine d1 rfl rfl (fun _ => ⟨own_sl ho5, hk75⟩) ?_
      refine bsS U [[.bool u1, .slice u2 u3 u4, .slice u5 u6 u7]] rfl rfl rfl rfl rfl rfl (by decide) (by decide) (by intro cs h; simp at h; subst h; rfl) ?_
      intro w6 hk8 hs6 hg6
      have hB6 := hB5.grown hg6 hB5.size (fun k e => by cases e)
      have ho6 := own_keep ho5 hg6 (by intro g e h; cases h)
      have hB56 : Below w5.heap.size w5 w6 := (Below.refl _ _).grown hg6 (Nat.le_refl _) (fun k e => by cases e)
      have hO6 := hO5.below hB56
      have hk76 := hk75.below hB56 hk75.lt
      have hfe6 := hfe5.stay hB56
      refine d2 ?_
      refine d1 rfl rfl (fun _ => ⟨own_sl ho6, hk76⟩) ?_
      obtain ⟨csk, hok, hek⟩ := hO6.1 k hkn
      refine awf U rfl rfl rfl rfl rfl rfl rfl rfl rfl hok (hk8.sl 0) rfl (by decide) (by intro u hu; simp at hu; rcases hu with rfl | rfl | rfl <;> rfl) hB6.size (by omega) rfl ?_
      intro a9 c9 w9 ho9 hg9 hp9
      have htk := own_tag hok
      have hB9 := hB6.grown hg9 hB6.size (fun g e => (own_block hok g e).1)
      have hout9 := own_keep ho6 hg9 (fun g hga e => (own_tag ho6 g hga).ne (htk g e) rfl rfl)
      have hk79 : Bk w9 b7 105 [.bool u1, .slice u2 u3 u4, .slice u5 u6 u7] := hk76.keep hg9 (by
        intro e
        obtain ⟨cs2, h2, _⟩ := hO.1 k hkn
        have := (own_block h2 b7 e).2
        omega)
      have he9 : Els w9 (csk ++ [.bool u1, .slice u2 u3 u4, .slice u5 u6 u7]) (L k + 1) (fun i => f i k) := (hek.push hg9 htk).snoc (by rw [hLk]; exact hfe6.push hg9 htk)
      have hO9 := hO6.grow hkn hg9 ho9 he9 hp9
      refine d2 ?_
      refine dq U [9] [] (by kernel_rfl) rfl rfl ⟨own_sl hout9, hk79⟩ (by simp only [AllP, InR, List.nil_append, List.cons_append]; (repeat' apply And.intro); all_goals first | exact True.intro | omega | (simp only [List.length_cons, List.length_nil]; omega) | (intro w_ hw_; refine ldC U rfl hw_ ?_; first | assumption | (simp [add_plain]; assumption)) | (intro w_ hw_; refine run_load_cell U rfl ?_; first | exact hw_ | exact hw_.1 | exact hw_.2 | exact hw_.2.1 | exact hw_.2.2 | exact hw_.2.2.1 | exact hw_.2.2.2 | (simp [add_plain]; first | exact hw_.1 | exact hw_.2.1 | exact hw_.2.2))) ?_
      refine d1 rfl rfl (fun _ => ⟨own_sl hout9, hk79⟩) ?_
      refine so U (v := (.slice a9 (L k + 1) c9)) rfl rfl rfl rfl rfl rfl rfl k (by simp [add_plain]) hkn hout9 ?_
      intro w10 ho10 hg10 hs10
      have hB10 := hB9.grown hg10 hB9.size (fun g e => by cases e; exact (own_block hout9 go rfl).1)
      have hO10 := hO9.keep (t := 58) hg10 (fun g e => by cases e; exact own_tag hout9 go rfl) rfl rfl
      rw [vws_set hkn] at ho10
      refine d2 ?_; refine dend rfl (fun h => by cases h) ?_
      refine dr U 600 rfl (by first | exact True.intro | (simp only [AllP, InR, List.nil_append, List.cons_append, and_true]; omega)) ?_
      refine rend _ _ ⟨k + 1, _, _, _, rfl, by omega, ho10, hO10, fun j hj => ?_, hB10, rfl⟩ (by omega) ⟨rfl, rfl, rfl, rfl, rfl, rfl, iv (by omega), trivial⟩
      by_cases hjk : j = k
      · subst hjk; rw [upd_same, hLk, if_pos (by omega)]
      · rw [upd_ne _ _ hjk, hL j hj]
        by_cases h : j < k
        · rw [if_pos h, if_pos (by omega)]
        · rw [if_neg h, if_neg (by omega)]
    · obtain rfl : k = n := by omega
      refine dr U 600 rfl (by first | exact True.intro | (simp only [AllP, InR, List.nil_append, List.cons_append, and_true]; omega)) ?_
      exact rend _ _ ⟨i + 1, A, L, C, rfl, by omega, ho, hO, fun j hj => by rw [hL j hj, if_pos hj], hB, rfl⟩ (by omega) ⟨rfl, rfl, rfl, iv (by omega), trivial⟩
  · obtain rfl : i = m := by omega
    refine dr U 600 rfl trivial ?_
    refine ret Tryz.results52 rfl ⟨_, rfl, ⟨some ⟨go, 0, none⟩, n, rfl, A, C, by rw [← vws_rws hL]; exact own_sl ho, fun j hj => ?_, own_tag ho⟩, hB⟩
    obtain ⟨cs, h1, h2⟩ := hO.1 j hj
    rw [hL j hj] at h1 h2
    exact ⟨own_vec h1 h2, own_cap3 h1⟩
end Go.Proofs.YtfdekppnilffeaaGreatDoor
end
section
set_option linter.unusedSimpArgs false
set_option linter.unusedVariables false
set_option maxHeartbeats 1000000
namespace Go.Proofs.YtfdekppnilffeaaGreatDoor
open Go Go.Proofs Go.RowKit Go.Lib

theorem ltimes_calls (m n p L : Nat) (f g : Nat → Nat → Rat) (hL : n * (2 * L + 1) + 1 ≤ 1000000) (hfs : ∀ i, i < m → ∀ t, t < n → Small L (f i t)) (hgs : ∀ t, t < n → ∀ k, k < p → Small L (g t k)) (hn : 0 < n) (hp : 0 < p) (hm' : m ≤ 1000000) (hn' : n ≤ 1000000) (hp' : p ≤ 1000000)
    (a b : Option Addr) (c d : Nat) (w : World) (hf : MatF w a m n f) (hg : MatF w b n p g) :
    Calls Tryz.prog 53 #[.slice a m c, .slice b n d] w (Ret fun v w' => (∃ a' c', v = .slice a' m c' ∧ MatF w' a' m p (fun i k => sm n (fun t => g t k * f i t))) ∧ Below w.heap.size w w') := by
  obtain ⟨A, C, hSl, hV, hTb⟩ := hf
  have hAb := fun g hg => (hTb g hg).lt
  refine enter Tryz.func53 rfl Tryz.ntmps53 (Nat.le_of_ble_eq_true rfl) ?_
  refine dr U 600 rfl trivial ?_
  refine call (f := 52) rfl rfl cb52 (lflip_calls n p g hn hp hn' hp' b d w hg) ?_
  rintro v w0 ⟨⟨af, cf, rfl, hM⟩, hB0⟩
  refine ⟨_, rfl, ?_⟩
  refine dr U 600 rfl trivial ?_
  refine loopR (fun fr w' mm => ∃ (i : Nat) (a2 : Option Addr) (c2 : Nat) (A2 : Nat → Option Addr) (C2 : Nat → Nat), fr = [(5, .slice af p cf), (6, .slice a2 i c2), (11, .slice a m c), (12, .int .i64 (m : Nat)), (13, .int .i64 (i : Nat))] ∧ i ≤ m ∧
      w'.ownsRow w0.heap.size 58 1 (.slice a2 i c2) i (rws i p A2 C2) ∧ Rws w' i p A2 C2 (fun i k => sm n (fun t => g t k * f i t)) ∧ Below w.heap.size w w' ∧ Below w0.heap.size w0 w' ∧ mm = m - i)
    ⟨0, none, 0, fun _ => none, fun _ => 0, rfl, by omega, ⟨rfl, .inl ⟨rfl, rfl⟩⟩, Rws.none _ _ _ _ _, hB0, Below.refl _ _, rfl⟩ ⟨rfl, rfl, rfl, rfl, rfl, trivial⟩ ?_
  rintro fr w1 mm ⟨i, a2, c2, A2, C2, rfl, hi, ho, hR, hB, hBz, rfl⟩
  refine dr U 600 rfl trivial ?_
  refine cS rfl rfl rfl rfl (fun hq => ?_) (fun hq => ?_)
  · have him : i < m := by omega
    refine dr U 600 rfl trivial ?_
    refine il U rfl rfl rfl rfl rfl rfl rfl (fun _ => rfl) rfl i rfl him (hSl.below hB hAb) (rws_get him) ?_
    refine dr U 600 rfl trivial ?_
    refine call (f := 49) rfl rfl cb49 (lapply_calls p n L (fun k t => g t k) (f i) hL (fun k hk t ht => hgs t ht k hk) (hfs i him) af (A i) cf (C i) w1 (hM.stay hBz) ((hV i him).1.stay hB) hn' hp') ?_
    rintro v w2 ⟨⟨a3, c3, rfl, hc3, hv3⟩, hB2⟩
    have hB2' := bl_tr hB hB2 hB.size
    have hBz2 := bl_tr hBz hB2 hBz.size
    have ho2 := own_bw ho hB2
    refine ⟨_, rfl, ?_⟩
    refine ap U (v := (.slice a3 p c3)) rfl rfl rfl rfl rfl rfl (fun _ => rfl) rfl (fun _ => rfl) rfl rfl rfl ho2 hBz2.size (by omega) (by decide) ?_
    intro a5 c5 w5 ho5 hg5
    have hz0 := hB0.size
    have hB5 := hB2'.grown hg5 hB2'.size (fun g e => by have := (own_block ho2 g e).1; omega)
    have hBz5 := hBz2.grown hg5 hBz2.size (fun g e => (own_block ho2 g e).1)
    rw [rws_snoc] at ho5
    refine dr U 600 rfl (by first | exact True.intro | (simp only [AllP, InR, List.nil_append, List.cons_append, and_true]; omega)) ?_
    exact rend _ _ ⟨i + 1, a5, c5, _, _, rfl, by omega, ho5, (((hR.stay hB2).push hg5 (own_tag ho2)).snoc (VecF.push hv3 hg5 (own_tag ho2)) hc3), hB5, hBz5, rfl⟩ (by omega) ⟨rfl, rfl, rfl, rfl, iv (by omega), trivial⟩
  · obtain rfl : i = m := by omega
    refine dr U 600 rfl trivial ?_
    exact ret Tryz.results53 rfl ⟨_, rfl, ⟨a2, c2, rfl, A2, C2, own_sl ho, hR, own_tag ho⟩, hB⟩
end Go.Proofs.YtfdekppnilffeaaGreatDoor
end
section
set_option linter.unusedSimpArgs false
set_option linter.unusedVariables false
set_option maxHeartbeats 1000000
namespace Go.Proofs.YtfdekppnilffeaaGreatDoor
open Go Go.Proofs Go.RowKit Go.Lib

theorem MtxR.tup {m n : Nat} {f : Nat → Nat → Rat} {v : Value} {w : World} (h : MtxR m n f v w) : ∃ a k c e, v = .tuple ⟨[.slice a k c, .int .i64 e]⟩ := by
  rcases h with ⟨_, rfl⟩ | ⟨_, a, c, rfl, _⟩ <;> exact ⟨_, _, _, _, rfl⟩
/-- What Transpose answers. -/
def TraR (xss : List (List (List UInt8))) (v : Value) (w : World) : Prop :=
  (∃ e, e ≠ 0 ∧ XErr xss e ∧ v = .tuple ⟨[.slice none 0 0, .int .i64 e]⟩) ∨ (XErr xss 0 ∧ MtxR (rw' xss 0).length xss.length (fun j i => mval xss i j) v w)
/-- What Mul answers. -/
def MulR (xss yss : List (List (List UInt8))) (v : Value) (w : World) : Prop :=
  (∃ e, e ≠ 0 ∧ ((XErr xss e) ∨ (XErr xss 0 ∧ XErr yss e)) ∧ v = .tuple ⟨[.slice none 0 0, .int .i64 e]⟩) ∨
  (XErr xss 0 ∧ XErr yss 0 ∧ (rw' xss 0).length ≠ yss.length ∧ v = .tuple ⟨[.slice none 0 0, .int .i64 10]⟩) ∨
  (XErr xss 0 ∧ XErr yss 0 ∧ (rw' xss 0).length = yss.length ∧ MtxR xss.length (rw' yss 0).length (fun i k => sm yss.length (fun t => mval yss t k * mval xss i t)) v w)
end Go.Proofs.YtfdekppnilffeaaGreatDoor
end
section
set_option linter.unusedSimpArgs false
set_option linter.unusedVariables false
set_option maxHeartbeats 1000000
namespace Go.Proofs.YtfdekppnilffeaaGreatDoor
open Go Go.Proofs Go.RowKit Go.Lib

end Go.Proofs.YtfdekppnilffeaaGreatDoor
end
section
set_option linter.unusedSimpArgs false
set_option linter.unusedVariables false
set_option maxHeartbeats 1000000
namespace Go.Proofs.YtfdekppnilffeaaGreatDoor
open Go Go.Proofs Go.RowKit Go.Lib

theorem small_one : Small 1 1 := ⟨by rw [show (1 : Rat).num.natAbs = 1 from rfl, nDigits_small (by omega)]; omega, by rw [show (1 : Rat).den = 1 from rfl, nDigits_small (by omega)]; omega⟩
theorem idn_small (i k : Nat) : Small 1 (idn i k) := by
  unfold idn
  split
  · exact small_one
  · exact small_zero
/-- What Identity answers. -/
def IdR (n : Int) (v : Value) (w : World) : Prop :=
  ((n < 1 ∨ 64 < n) ∧ v = .slice none 0 0) ∨ (1 ≤ n ∧ n ≤ 64 ∧ ∃ a c, v = .slice a n.toNat c ∧ SM w a (mtx n.toNat n.toNat idn))
end Go.Proofs.YtfdekppnilffeaaGreatDoor
end
