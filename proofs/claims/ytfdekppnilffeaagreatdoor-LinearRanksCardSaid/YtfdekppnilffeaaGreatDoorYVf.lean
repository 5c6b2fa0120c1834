/-
  Walk of matrix.flip.
  Conditions: lists of at most a million elements.

  Walks of matrix.times, linear.column, Transpose, Mul.
  Conditions: texts take fewer than 2^40 bytes, lists fewer than 2^40 elements; the library's table of powers of ten is laid.

  Walks of linear.Transpose and linear.Mul.
  Conditions: texts take fewer than 2^40 bytes, lists fewer than 2^40 elements; the library's table of powers of ten is laid.

  Walks of frac.Of, frac.One, linear.identity, linear.Identity.
  Conditions: the library's table of powers of ten is laid.

  Walk of linear.Identity.
  Conditions: the library's table of powers of ten is laid.
-/
import Derived.Test.YtfdekppnilffeaaGreatDoorYVa
import Derived.Test.YtfdekppnilffeaaGreatDoorYLb
section
set_option linter.unusedSimpArgs false
set_option linter.unusedVariables false
set_option maxHeartbeats 1000000
namespace Go.Proofs.YtfdekppnilffeaaGreatDoor
open Go Go.Proofs Go.RowKit Go.Lib

theorem slc2 {w : World} {g o i : Nat} {vs : List Value} {v : Value} (h : Sl w (some ⟨g, o, none⟩) vs) (hv : vs[i]? = some v) : w.cell? ⟨g, o + i, none⟩ = some v := by
  obtain ⟨g', o', he, hc⟩ := h i v hv
  cases he
  exact hc
theorem vws_start (n : Nat) : List.replicate n (Value.slice none 0 0) = vws n (fun _ => none) (fun _ => 0) (fun _ => 0) := by
  unfold vws
  rw [List.map_const', List.length_range]
theorem vws_rws {n m : Nat} {A : Nat → Option Addr} {L C : Nat → Nat} (h : ∀ j, j < n → L j = m) : vws n A L C = rws n m A C := by
  unfold vws rws
  apply List.map_congr_left
  intro i hi
  rw [h i (List.mem_range.1 hi)]
theorem Own2.start (w : World) (base n : Nat) (f : Nat → Nat → Rat) : Own2 w base n (fun _ => none) (fun _ => 0) (fun _ => 0) f :=
  ⟨fun j hj => ⟨[], ⟨rfl, .inl ⟨rfl, rfl⟩⟩, Els.nil _ _⟩, fun j j' _ _ _ g h => by cases h⟩

set_option maxRecDepth 100000 in
theorem lflip_calls (m n : Nat) (f : Nat → Nat → Rat) (hm : 0 < m) (hn : 0 < n) (hm' : m ≤ 1000000) (hn' : n ≤ 1000000) (a : Option Addr) (c : Nat) (w : World) (hf : MatF w a m n f) :
    Calls Tryz.prog 52 #[.slice a m c] w (Ret fun v w' => (∃ a' c', v = .slice a' n c' ∧ MatF w' a' n m (fun j i => f i j)) ∧ Below w.heap.size w w') := by
  obtain ⟨Ar, Cr, hSl, hV, hTb⟩ := hf
  have hAb := fun g hg => (hTb g hg).lt
  refine enter Tryz.func52 rfl Tryz.ntmps52 (Nat.le_of_ble_eq_true rfl) ?_
  refine dr U 600 rfl trivial ?_
  refine il U rfl rfl rfl rfl rfl rfl rfl (fun _ => rfl) rfl 0 rfl hm hSl (rws_get hm) ?_
  refine dr U 600 rfl trivial ?_
  refine mkn U rfl rfl rfl rfl rfl rfl rfl n rfl rfl (by omega) (by omega) w.heap.size (Nat.le_refl _) ?_
  intro ao w0 ho0 hg0
  obtain ⟨go, rfl⟩ : ∃ go, ao = some ⟨go, 0, none⟩ := by
    rcases ho0.2 with ⟨_, h⟩ | ⟨g, cap, cur, h, _⟩
    · omega
    · cases h; exact ⟨g, rfl⟩
  have hB0 : Below w.heap.size w w0 := (Below.refl _ _).grown hg0 (Nat.le_refl _) (fun k e => by cases e)
  rw [vws_start] at ho0
  refine dr U 600 rfl trivial ?_
  refine loopR (fun fr w' mm => ∃ (i : Nat) (A : Nat → Option Addr) (L C : Nat → Nat), fr = [(3, .slice (some ⟨go, 0, none⟩) n n), (13, .slice a m c), (14, .int .i64 (m : Nat)), (15, .int .i64 (i : Nat))] ∧ i ≤ m ∧
      w'.ownsRow w.heap.size 58 1 (.slice (some ⟨go, 0, none⟩) n n) n (vws n A L C) ∧ Own2 w' w.heap.size n A L C (fun j i => f i j) ∧ (∀ j, j < n → L j = i) ∧ Below w.heap.size w w' ∧ mm = m - i)
    ⟨0, _, _, _, rfl, by omega, ho0, Own2.start _ _ _ _, fun _ _ => rfl, hB0, rfl⟩ ⟨rfl, rfl, rfl, rfl, trivial⟩ ?_
  rintro fr w1 mm ⟨i, A, L, C, rfl, hi, ho, hO, hL, hB, rfl⟩
  refine dr U 600 rfl trivial ?_
  refine cS rfl rfl rfl rfl (fun hq => ?_) (fun hq => ?_)
  · have him : i < m := by omega
    obtain ⟨hVi, hCi⟩ := hV i him
    refine dr U 600 rfl trivial ?_
    refine il U rfl rfl rfl rfl rfl rfl rfl (fun _ => rfl) rfl i rfl him (hSl.below hB hAb) (rws_get him) ?_
    refine dr U 600 rfl trivial ?_
    obtain ⟨cf, hEf, hSf, hTf⟩ := hVi
    have hAf := fun g hg => (hTf g hg).lt
    refine loopR (fun fr w' mm => ∃ (k : Nat) (A : Nat → Option Addr) (L C : Nat → Nat), fr = [(3, .slice (some ⟨go, 0, none⟩) n n), (13, .slice a m c), (14, .int .i64 (m : Nat)), (15, .int .i64 (i : Nat)), (19, .slice (Ar i) n (Cr i)), (20, .int .i64 (n : Nat)), (21, .int .i64 (k : Nat))] ∧ k ≤ n ∧
        w'.ownsRow w.heap.size 58 1 (.slice (some ⟨go, 0, none⟩) n n) n (vws n A L C) ∧ Own2 w' w.heap.size n A L C (fun j i => f i j) ∧ (∀ j, j < n → L j = if j < k then i + 1 else i) ∧ Below w.heap.size w w' ∧ mm = n - k)
      ⟨0, A, L, C, rfl, by omega, ho, hO, fun j hj => by rw [hL j hj, if_neg (by omega)], hB, rfl⟩ ⟨rfl, rfl, rfl, rfl, rfl, rfl, rfl, trivial⟩ ?_
    rintro fr w2 mm ⟨k, A, L, C, rfl, hk, ho, hO, hL, hB, rfl⟩
    refine dr U 600 rfl trivial ?_
    refine cS rfl rfl rfl rfl (fun hq => ?_) (fun hq => ?_)
    · have hkn : k < n := by omega
      have hLk : L k = i := by rw [hL k hkn, if_neg (by omega)]
      refine dr U 600 rfl trivial ?_
      refine ig U rfl rfl rfl rfl ag_frac rfl rfl (fun _ => rfl) rfl k rfl hkn (hSf.below hB hAf) (fun j v hv => el_get hv) (el_length (by rw [hEf.1]; omega)) (by decide) ?_
      have hfe := (hEf.2 k hkn).stay hB
      obtain ⟨u1, u2, u3, u4, u5, u6, u7, hu⟩ := hfe.shape
      have hbz := hB.size
      refine al U rfl rfl rfl rfl ?_
      intro b7 w3 hb7 hs3 hk7 hg3
      have hB3 := hB.grown hg3 hB.size (fun k e => by cases e)
      have ho3 := own_keep ho hg3 (by intro g e h; cases h)
      have hgo := (own_block ho go rfl).2
      have hO3 := hO.below ((Below.refl _ _).grown hg3 (Nat.le_refl _) (fun k e => by cases e))
      simp only [Value.agg.injEq, Array.mk.injEq] at hu
      rw [hu] at hfe ⊢
      refine dr U 600 rfl trivial ?_
      refine st U rfl rfl rfl rfl rfl rfl rfl rfl rfl rfl (hk7) ?_
      intro w4 hk7 hg4 hs4
      have hB4 := hB3.grown hg4 hB3.size (fun k e => by cases e; omega)
      have ho4 := own_keep ho3 hg4 (fun g e h => by
        have h1 : b7 = g := Option.some.inj h
        have h2 : go = g := Option.some.inj e
        omega)
      have hB24 : Below w2.heap.size w2 w4 := ((Below.refl _ _).grown hg3 (Nat.le_refl _) (fun k e => by cases e)).grown hg4 (by omega) (fun k e => by cases e; omega)
      have hO4 := hO.below hB24
      have hfe4 := hfe.stay hB24
      refine dr U 600 rfl trivial ?_
      refine dwn 10 (fun W => Sl W (some ⟨go, 0, none⟩) (vws n A L C) ∧ Bk W b7 105 [.bool u1, .slice u2 u3 u4, .slice u5 u6 u7]) hmo ?_
      intro w5 hh5 hg5
      have hB5 := hB4.grown hg5 hB4.size (fun k e => by cases e)
      have ho5 := own_keep ho4 hg5 (by intro g e h; cases h)
      have hB45 : Below w4.heap.size w4 w5 := (Below.refl _ _).grown hg5 (Nat.le_refl _) (fun k e => by cases e)
      have hO5 := hO4.below hB45
      have hk75 := hk7.below hB45 hk7.lt
      have hfe5 := hfe4.stay hB45
      have hl5 : ∀ W, (Sl W (some ⟨go, 0, none⟩) (vws n A L C) ∧ Bk W b7 105 [.bool u1, .slice u2 u3 u4, .slice u5 u6 u7]) → (loadVar 58 ((⟨go, 0, none⟩ : Addr).add (((k : Nat) : Int).toNat * 1))).run Tryz.prog W = .ok (.slice (A k) (L k) (C k)) W := fun W h => run_load_cell U rfl (by simpa [add_plain] using slc2 h.1 (vws_get hkn))
      have hl6 : ∀ W, (Sl W (some ⟨go, 0, none⟩) (vws n A L C) ∧ Bk W b7 105 [.bool u1, .slice u2 u3 u4, .slice u5 u6 u7]) → (loadVar 105 ⟨b7, 0, none⟩).run Tryz.prog W = .ok (.agg ⟨[.bool u1, .slice u2 u3 u4, .slice u5 u6 u7]⟩) W := fun W h => run_load_agg ag_frac h.2 rfl
      refine dq U [0,1,2,3,4,5,6] [(5, .slice (A k) (L k) (C k)), (6, .agg ⟨[.bool u1, .slice u2 u3 u4, .slice u5 u6 u7]⟩)] (by kernel_rfl) rfl rfl ⟨own_sl ho5, hk75⟩ (by simp only [AllP, InR, List.nil_append, List.cons_append]; (repeat' apply And.intro); all_goals first | exact True.intro | omega | (with_reducible exact hl5) | (with_reducible exact hl6)) ?_
      refine d1 rfl rfl (fun _ => ⟨own_sl ho5, hk75⟩) ?_
      refine bsS U [[.bool u1, .slice u2 u3 u4, .slice u5 u6 u7]] rfl rfl rfl rfl rfl rfl (by decide) (by decide) (by intro cs h; simp at h; subst h; rfl) ?_
      intro w6 hk8 hs6 hg6
      have hB6 := hB5.grown hg6 hB5.size (fun k e => by cases e)
      have ho6 := own_keep ho5 hg6 (by intro g e h; cases h)
      have hB56 : Below w5.heap.size w5 w6 := (Below.refl _ _).grown hg6 (Nat.le_refl _) (fun k e => by cases e)
      have hO6 := hO5.below hB56
      have hk76 := hk75.below hB56 hk75.lt
      have hfe6 := hfe5.stay hB56
      refine d2 ?_
      refine d1 rfl rfl (fun _ => ⟨own_sl ho6, hk76⟩) ?_
      obtain ⟨csk, hok, hek⟩ := hO6.1 k hkn
      refine awf U rfl rfl rfl rfl rfl rfl rfl rfl rfl hok (hk8.sl 0) rfl (by decide) (by intro u hu; simp at hu; rcases hu with rfl | rfl | rfl <;> rfl) hB6.size (by omega) rfl ?_
      intro a9 c9 w9 ho9 hg9 hp9
      have htk := own_tag hok
      have hB9 := hB6.grown hg9 hB6.size (fun g e => (own_block hok g e).1)
      have hout9 := own_keep ho6 hg9 (fun g hga e => (own_tag ho6 g hga).ne (htk g e) rfl rfl)
      have hk79 : Bk w9 b7 105 [.bool u1, .slice u2 u3 u4, .slice u5 u6 u7] := hk76.keep hg9 (by
        intro e
        obtain ⟨cs2, h2, _⟩ := hO.1 k hkn
        have := (own_block h2 b7 e).2
        omega)
      have he9 : Els w9 (csk ++ [.bool u1, .slice u2 u3 u4, .slice u5 u6 u7]) (L k + 1) (fun i => f i k) := (hek.push hg9 htk).snoc (by rw [hLk]; exact hfe6.push hg9 htk)
      have hO9 := hO6.grow hkn hg9 ho9 he9 hp9
      refine d2 ?_
      refine dq U [9] [] (by kernel_rfl) rfl rfl ⟨own_sl hout9, hk79⟩ (by simp only [AllP, InR, List.nil_append, List.cons_append]; (repeat' apply And.intro); all_goals first | exact True.intro | omega | (simp only [List.length_cons, List.length_nil]; omega) | (intro w_ hw_; refine ldC U rfl hw_ ?_; first | assumption | (simp [add_plain]; assumption)) | (intro w_ hw_; refine run_load_cell U rfl ?_; first | exact hw_ | exact hw_.1 | exact hw_.2 | exact hw_.2.1 | exact hw_.2.2 | exact hw_.2.2.1 | exact hw_.2.2.2 | (simp [add_plain]; first | exact hw_.1 | exact hw_.2.1 | exact hw_.2.2))) ?_
      refine d1 rfl rfl (fun _ => ⟨own_sl hout9, hk79⟩) ?_
      refine so U (v := (.slice a9 (L k + 1) c9)) rfl rfl rfl rfl rfl rfl rfl k (by simp [add_plain]) hkn hout9 ?_
      intro w10 ho10 hg10 hs10
      have hB10 := hB9.grown hg10 hB9.size (fun g e => by cases e; exact (own_block hout9 go rfl).1)
      have hO10 := hO9.keep (t := 58) hg10 (fun g e => by cases e; exact own_tag hout9 go rfl) rfl rfl
      rw [vws_set hkn] at ho10
      refine d2 ?_; refine dend rfl (fun h => by cases h) ?_
      refine dr U 600 rfl (by first | exact True.intro | (simp only [AllP, InR, List.nil_append, List.cons_append, and_true]; omega)) ?_
      refine rend _ _ ⟨k + 1, _, _, _, rfl, by omega, ho10, hO10, fun j hj => ?_, hB10, rfl⟩ (by omega) ⟨rfl, rfl, rfl, rfl, rfl, rfl, iv (by omega), trivial⟩
      by_cases hjk : j = k
      · subst hjk; rw [upd_same, hLk, if_pos (by omega)]
      · rw [upd_ne _ _ hjk, hL j hj]
        by_cases h : j < k
        · rw [if_pos h, if_pos (by omega)]
        · rw [if_neg h, if_neg (by omega)]
    · obtain rfl : k = n := by omega
      refine dr U 600 rfl (by first | exact True.intro | (simp only [AllP, InR, List.nil_append, List.cons_append, and_true]; omega)) ?_
      exact rend _ _ ⟨i + 1, A, L, C, rfl, by omega, ho, hO, fun j hj => by rw [hL j hj, if_pos hj], hB, rfl⟩ (by omega) ⟨rfl, rfl, rfl, iv (by omega), trivial⟩
  · obtain rfl : i = m := by omega
    refine dr U 600 rfl trivial ?_
    refine ret Tryz.results52 rfl ⟨_, rfl, ⟨some ⟨go, 0, none⟩, n, rfl, A, C, by rw [← vws_rws hL]; exact own_sl ho, fun j hj => ?_, own_tag ho⟩, hB⟩
    obtain ⟨cs, h1, h2⟩ := hO.1 j hj
    rw [hL j hj] at h1 h2
    exact ⟨own_vec h1 h2, own_cap3 h1⟩
end Go.Proofs.YtfdekppnilffeaaGreatDoor
end
section
set_option linter.unusedSimpArgs false
set_option linter.unusedVariables false
set_option maxHeartbeats 1000000
namespace Go.Proofs.YtfdekppnilffeaaGreatDoor
open Go Go.Proofs Go.RowKit Go.Lib

theorem ltimes_calls (m n p L : Nat) (f g : Nat → Nat → Rat) (hL : n * (2 * L + 1) + 1 ≤ 1000000) (hfs : ∀ i, i < m → ∀ t, t < n → Small L (f i t)) (hgs : ∀ t, t < n → ∀ k, k < p → Small L (g t k)) (hn : 0 < n) (hp : 0 < p) (hm' : m ≤ 1000000) (hn' : n ≤ 1000000) (hp' : p ≤ 1000000)
    (a b : Option Addr) (c d : Nat) (w : World) (hf : MatF w a m n f) (hg : MatF w b n p g) :
    Calls Tryz.prog 53 #[.slice a m c, .slice b n d] w (Ret fun v w' => (∃ a' c', v = .slice a' m c' ∧ MatF w' a' m p (fun i k => sm n (fun t => g t k * f i t))) ∧ Below w.heap.size w w') := by
  obtain ⟨A, C, hSl, hV, hTb⟩ := hf
  have hAb := fun g hg => (hTb g hg).lt
  refine enter Tryz.func53 rfl Tryz.ntmps53 (Nat.le_of_ble_eq_true rfl) ?_
  refine dr U 600 rfl trivial ?_
  refine call (f := 52) rfl rfl cb52 (lflip_calls n p g hn hp hn' hp' b d w hg) ?_
  rintro v w0 ⟨⟨af, cf, rfl, hM⟩, hB0⟩
  refine ⟨_, rfl, ?_⟩
  refine dr U 600 rfl trivial ?_
  refine loopR (fun fr w' mm => ∃ (i : Nat) (a2 : Option Addr) (c2 : Nat) (A2 : Nat → Option Addr) (C2 : Nat → Nat), fr = [(5, .slice af p cf), (6, .slice a2 i c2), (11, .slice a m c), (12, .int .i64 (m : Nat)), (13, .int .i64 (i : Nat))] ∧ i ≤ m ∧
      w'.ownsRow w0.heap.size 58 1 (.slice a2 i c2) i (rws i p A2 C2) ∧ Rws w' i p A2 C2 (fun i k => sm n (fun t => g t k * f i t)) ∧ Below w.heap.size w w' ∧ Below w0.heap.size w0 w' ∧ mm = m - i)
    ⟨0, none, 0, fun _ => none, fun _ => 0, rfl, by omega, ⟨rfl, .inl ⟨rfl, rfl⟩⟩, Rws.none _ _ _ _ _, hB0, Below.refl _ _, rfl⟩ ⟨rfl, rfl, rfl, rfl, rfl, trivial⟩ ?_
  rintro fr w1 mm ⟨i, a2, c2, A2, C2, rfl, hi, ho, hR, hB, hBz, rfl⟩
  refine dr U 600 rfl trivial ?_
  refine cS rfl rfl rfl rfl (fun hq => ?_) (fun hq => ?_)
  · have him : i < m := by omega
    refine dr U 600 rfl trivial ?_
    refine il U rfl rfl rfl rfl rfl rfl rfl (fun _ => rfl) rfl i rfl him (hSl.below hB hAb) (rws_get him) ?_
    refine dr U 600 rfl trivial ?_
    refine call (f := 49) rfl rfl cb49 (lapply_calls p n L (fun k t => g t k) (f i) hL (fun k hk t ht => hgs t ht k hk) (hfs i him) af (A i) cf (C i) w1 (hM.stay hBz) ((hV i him).1.stay hB) hn' hp') ?_
    rintro v w2 ⟨⟨a3, c3, rfl, hc3, hv3⟩, hB2⟩
    have hB2' := bl_tr hB hB2 hB.size
    have hBz2 := bl_tr hBz hB2 hBz.size
    have ho2 := own_bw ho hB2
    refine ⟨_, rfl, ?_⟩
    refine ap U (v := (.slice a3 p c3)) rfl rfl rfl rfl rfl rfl (fun _ => rfl) rfl (fun _ => rfl) rfl rfl rfl ho2 hBz2.size (by omega) (by decide) ?_
    intro a5 c5 w5 ho5 hg5
    have hz0 := hB0.size
    have hB5 := hB2'.grown hg5 hB2'.size (fun g e => by have := (own_block ho2 g e).1; omega)
    have hBz5 := hBz2.grown hg5 hBz2.size (fun g e => (own_block ho2 g e).1)
    rw [rws_snoc] at ho5
    refine dr U 600 rfl (by first | exact True.intro | (simp only [AllP, InR, List.nil_append, List.cons_append, and_true]; omega)) ?_
    exact rend _ _ ⟨i + 1, a5, c5, _, _, rfl, by omega, ho5, (((hR.stay hB2).push hg5 (own_tag ho2)).snoc (VecF.push hv3 hg5 (own_tag ho2)) hc3), hB5, hBz5, rfl⟩ (by omega) ⟨rfl, rfl, rfl, rfl, iv (by omega), trivial⟩
  · obtain rfl : i = m := by omega
    refine dr U 600 rfl trivial ?_
    exact ret Tryz.results53 rfl ⟨_, rfl, ⟨a2, c2, rfl, A2, C2, own_sl ho, hR, own_tag ho⟩, hB⟩
end Go.Proofs.YtfdekppnilffeaaGreatDoor
end
section
set_option linter.unusedSimpArgs false
set_option linter.unusedVariables false
set_option maxHeartbeats 1000000
namespace Go.Proofs.YtfdekppnilffeaaGreatDoor
open Go Go.Proofs Go.RowKit Go.Lib

theorem MtxR.tup {m n : Nat} {f : Nat → Nat → Rat} {v : Value} {w : World} (h : MtxR m n f v w) : ∃ a k c e, v = .tuple ⟨[.slice a k c, .int .i64 e]⟩ := by
  rcases h with ⟨_, rfl⟩ | ⟨_, a, c, rfl, _⟩ <;> exact ⟨_, _, _, _, rfl⟩
/-- What Transpose answers. -/
def TraR (xss : List (List (List UInt8))) (v : Value) (w : World) : Prop :=
  (∃ e, e ≠ 0 ∧ XErr xss e ∧ v = .tuple ⟨[.slice none 0 0, .int .i64 e]⟩) ∨ (XErr xss 0 ∧ MtxR (rw' xss 0).length xss.length (fun j i => mval xss i j) v w)
theorem lTranspose_calls (xss : List (List (List UInt8))) (a : Option Addr) (c : Nat) (w : World) (hs : SM w a xss) (hl : xss.length ≤ 1099511627776) (hl2 : ∀ i, i < xss.length → (rw' xss i).length ≤ 1099511627776) (hx : ∀ i, i < xss.length → ∀ j, j < (rw' xss i).length → ((rw' xss i).getD j []).length ≤ 1099511627776) (ht : TabOk w) :
    Calls Tryz.prog 25 #[.slice a xss.length c] w (Ret fun v w' => TraR xss v w' ∧ Below w.heap.size w w') := by
  refine enter Tryz.func25 rfl Tryz.ntmps25 (Nat.le_of_ble_eq_true rfl) ?_
  refine dr U 600 rfl trivial ?_
  refine call (f := 50) rfl rfl cb50 (lread_calls xss a c w hs hl hl2 hx) ?_
  rintro v w1 ⟨hr, hB1⟩
  rcases hr with ⟨e, h1, h2, rfl⟩ | ⟨he, am, cm, _, _, rfl, hoM, hOM⟩
  · refine ⟨_, rfl, ?_⟩
    refine dr U 600 rfl trivial ?_
    refine cT rfl rfl rfl (h1) ?_; refine dr U 600 rfl trivial ?_
    exact ret Tryz.results25 rfl ⟨_, rfl, .inl ⟨e, h1, h2, rfl⟩, hB1⟩
  have hM := own2_mat hoM hOM
  obtain ⟨h0, h1, h64, h65, _⟩ := he.ok
  refine ⟨_, rfl, ?_⟩
  refine dr U 600 rfl trivial ?_
  refine cF rfl rfl rfl ((fun h => h rfl)) ?_; refine dr U 600 rfl trivial ?_
  refine call (f := 52) rfl rfl cb52 (lflip_calls xss.length (rw' xss 0).length (mval xss) h0 h1 (by omega) (by omega) am cm w1 hM) ?_
  rintro v w2 ⟨⟨a2, c2, rfl, hM2⟩, hB2⟩
  have hB2' := bl_tr hB1 hB2 hB1.size
  refine ⟨_, rfl, ?_⟩
  refine call (f := 60) rfl rfl cb60 (lmtexts_calls (rw' xss 0).length xss.length _ (fun j hj i hi => small_mono (he.small i hi j hj) (by omega)) a2 c2 w2 hM2 (by omega) (by omega) (ht.below hB2')) ?_
  rintro v w3 ⟨hr, hB3⟩
  have Hr := hr
  obtain ⟨_, _, _, _, rfl⟩ := Hr.tup
  refine ⟨_, rfl, ?_⟩
  refine dr U 600 rfl trivial ?_
  exact ret Tryz.results25 rfl ⟨_, rfl, .inr ⟨he, hr⟩, bl_tr hB2' hB3 hB2'.size⟩

/-- What Mul answers. -/
def MulR (xss yss : List (List (List UInt8))) (v : Value) (w : World) : Prop :=
  (∃ e, e ≠ 0 ∧ ((XErr xss e) ∨ (XErr xss 0 ∧ XErr yss e)) ∧ v = .tuple ⟨[.slice none 0 0, .int .i64 e]⟩) ∨
  (XErr xss 0 ∧ XErr yss 0 ∧ (rw' xss 0).length ≠ yss.length ∧ v = .tuple ⟨[.slice none 0 0, .int .i64 10]⟩) ∨
  (XErr xss 0 ∧ XErr yss 0 ∧ (rw' xss 0).length = yss.length ∧ MtxR xss.length (rw' yss 0).length (fun i k => sm yss.length (fun t => mval yss t k * mval xss i t)) v w)
theorem lMul_calls (xss yss : List (List (List UInt8))) (a b : Option Addr) (c d : Nat) (w : World) (hs : SM w a xss) (hl : xss.length ≤ 1099511627776) (hl2 : ∀ i, i < xss.length → (rw' xss i).length ≤ 1099511627776) (hx : ∀ i, i < xss.length → ∀ j, j < (rw' xss i).length → ((rw' xss i).getD j []).length ≤ 1099511627776)
    (hsy : SM w b yss) (hly : yss.length ≤ 1099511627776) (hly2 : ∀ i, i < yss.length → (rw' yss i).length ≤ 1099511627776) (hy : ∀ i, i < yss.length → ∀ j, j < (rw' yss i).length → ((rw' yss i).getD j []).length ≤ 1099511627776) (ht : TabOk w) :
    Calls Tryz.prog 23 #[.slice a xss.length c, .slice b yss.length d] w (Ret fun v w' => MulR xss yss v w' ∧ Below w.heap.size w w') := by
  refine enter Tryz.func23 rfl Tryz.ntmps23 (Nat.le_of_ble_eq_true rfl) ?_
  refine dr U 600 rfl trivial ?_
  refine call (f := 50) rfl rfl cb50 (lread_calls xss a c w hs hl hl2 hx) ?_
  rintro v w1 ⟨hr, hB1⟩
  rcases hr with ⟨e, h1, h2, rfl⟩ | ⟨he, am, cm, _, _, rfl, hoM, hOM⟩
  · refine ⟨_, rfl, ?_⟩
    refine dr U 600 rfl trivial ?_
    refine cT rfl rfl rfl (h1) ?_; refine dr U 600 rfl trivial ?_
    exact ret Tryz.results23 rfl ⟨_, rfl, .inl ⟨e, h1, .inl h2, rfl⟩, hB1⟩
  have hM := own2_mat hoM hOM
  obtain ⟨h0, h1, h64, h65, _⟩ := he.ok
  refine ⟨_, rfl, ?_⟩
  refine dr U 600 rfl trivial ?_
  refine cF rfl rfl rfl ((fun h => h rfl)) ?_; refine dr U 600 rfl trivial ?_
  refine call (f := 50) rfl rfl cb50 (lread_calls yss b d w1 (hsy.stay hB1) hly hly2 hy) ?_
  rintro v w2 ⟨hr, hB2⟩
  have hB2' := bl_tr hB1 hB2 hB1.size
  rcases hr with ⟨e, g1, g2, rfl⟩ | ⟨hf, bm, dm, _, _, rfl, hoN, hON⟩
  · refine ⟨_, rfl, ?_⟩
    refine dr U 600 rfl trivial ?_
    refine cT rfl rfl rfl (g1) ?_; refine dr U 600 rfl trivial ?_
    exact ret Tryz.results23 rfl ⟨_, rfl, .inl ⟨e, g1, .inr ⟨he, g2⟩, rfl⟩, hB2'⟩
  have hN := own2_mat hoN hON
  obtain ⟨k0, k1, k64, k65, _⟩ := hf.ok
  have hM := hM.stay hB2
  have hM0 := hM
  obtain ⟨A, C, hSl, hR, hTb⟩ := hM0
  refine ⟨_, rfl, ?_⟩
  refine dr U 600 rfl trivial ?_
  refine cF rfl rfl rfl ((fun h => h rfl)) ?_; refine dr U 600 rfl trivial ?_
  refine il U rfl rfl rfl rfl rfl rfl rfl (fun _ => rfl) rfl 0 rfl h0 hSl (rws_get h0) ?_
  refine dr U 600 rfl trivial ?_
  refine cS rfl rfl rfl rfl (fun hq2 => ?_) (fun hq2 => ?_)
  · refine dr U 600 rfl trivial ?_
    exact ret Tryz.results23 rfl ⟨_, rfl, .inr (.inl ⟨he, hf, fun h => hq2 (by rw [h]), rfl⟩), hB2'⟩
  have hlen : (rw' xss 0).length = yss.length := by omega
  rw [hlen] at hM
  have hsmf := he.small
  rw [hlen] at hsmf
  have hbd : yss.length * (2 * 4000 + 1) + 1 ≤ 1000000 := by omega
  refine dr U 600 rfl trivial ?_
  refine call (f := 53) rfl rfl cb53 (ltimes_calls xss.length yss.length (rw' yss 0).length 4000 (mval xss) (mval yss) hbd hsmf hf.small k0 k1 (by omega) (by omega) (by omega) am bm cm dm w2 hM hN) ?_
  rintro v w3 ⟨⟨a3, c3, rfl, hM3⟩, hB3⟩
  have hB3' := bl_tr hB2' hB3 hB2'.size
  refine ⟨_, rfl, ?_⟩
  refine call (f := 60) rfl rfl cb60 (lmtexts_calls xss.length (rw' yss 0).length _ (fun i hi k hk => small_mono (sm_small (fun t ht => hf.small t ht k hk) (hsmf i hi) yss.length (Nat.le_refl _)) (by omega)) a3 c3 w3 hM3 (by omega) (by omega) (ht.below hB3')) ?_
  rintro v w4 ⟨hr, hB4⟩
  have Hr := hr
  obtain ⟨_, _, _, _, rfl⟩ := Hr.tup
  refine ⟨_, rfl, ?_⟩
  refine dr U 600 rfl trivial ?_
  exact ret Tryz.results23 rfl ⟨_, rfl, .inr (.inr ⟨he, hf, hlen, hr⟩), bl_tr hB3' hB4 hB3'.size⟩
end Go.Proofs.YtfdekppnilffeaaGreatDoor
end
section
set_option linter.unusedSimpArgs false
set_option linter.unusedVariables false
set_option maxHeartbeats 1000000
namespace Go.Proofs.YtfdekppnilffeaaGreatDoor
open Go Go.Proofs Go.RowKit Go.Lib

theorem frof_calls (n : Nat) (a : Option Addr) (c : Nat) (w : World) (ha : Rd w a c (lim n)) : Calls Tryz.prog 119 #[.slice a (lim n).length c] w (Ret fun v w' => FV w' v false n 1 ∧ Below w.heap.size w w') := by
  refine enter Tryz.func119 rfl Tryz.ntmps119 (Nat.le_of_ble_eq_true rfl) ?_
  refine dr U 600 rfl trivial ?_
  refine al U rfl rfl rfl rfl ?_
  intro b w0 hb0 hs0 hk0 hg0
  have hB0 : Below w.heap.size w w0 := (Below.refl _ _).grown hg0 (Nat.le_refl _) (fun k e => by cases e)
  refine dr U 600 rfl trivial ?_
  refine call (f := 120) rfl rfl cb120 (of_calls 1 (by omega) w0) ?_
  rintro v w1 ⟨a1, c1, rfl, ho, hB⟩
  refine ⟨_, rfl, ?_⟩
  have hk1 := hk0.below hB (by omega)
  have hB1 := bl_tr hB0 hB hB0.size
  refine dr U 600 rfl trivial ?_
  refine st U rfl rfl rfl rfl rfl rfl rfl rfl rfl rfl (hk1) ?_
  intro w2 hkW hgW hsW
  refine dr U 600 rfl trivial ?_
  have hBW := hB1.grown hgW hB1.size (fun k e => by cases e; omega)
  refine retS Tryz.results119 (vs := [_]) ⟨⟨_, rfl, run_load_agg ag_frac hkW rfl⟩, trivial⟩ ⟨_, rfl, ?_, hBW⟩
  exact ⟨a, c, a1, c1, rfl, (ha.below hB1).past hk1 ni0 hgW, (own_rd ho).past hk1 ni0 hgW⟩
theorem frone_calls (w : World) : Calls Tryz.prog 90 #[] w (Ret fun v w' => FQ w' v 1 ∧ Below w.heap.size w w') := by
  refine enter Tryz.func90 rfl Tryz.ntmps90 (Nat.le_of_ble_eq_true rfl) ?_
  refine dr U 600 rfl trivial ?_
  refine al U rfl rfl rfl rfl ?_
  intro b w0 hb0 hs0 hk0 hg0
  have hB0 : Below w.heap.size w w0 := (Below.refl _ _).grown hg0 (Nat.le_refl _) (fun k e => by cases e)
  refine dr U 600 rfl trivial ?_
  refine call (f := 120) rfl rfl cb120 (of_calls 1 (by omega) w0) ?_
  rintro v w1 ⟨a1, c1, rfl, ho, hB⟩
  refine ⟨_, rfl, ?_⟩
  have hk1 := hk0.below hB (by omega)
  have hB1 := bl_tr hB0 hB hB0.size
  refine call (f := 119) rfl rfl cb119 (frof_calls 1 a1 c1 w1 (own_rd ho)) ?_
  rintro v w2 ⟨hv, hB2⟩
  obtain ⟨an, cn, ad, cd, rfl, h1, h2⟩ := hv
  refine ⟨_, rfl, ?_⟩
  have hk2 := hk1.below hB2 hk1.lt
  have hB2' := bl_tr hB1 hB2 hB1.size
  refine dr U 600 rfl trivial ?_
  refine st U rfl rfl rfl rfl rfl rfl rfl rfl rfl rfl (hk2) ?_
  intro w3 hkW hgW hsW
  refine dr U 600 rfl trivial ?_
  have hBW := hB2'.grown hgW hB2'.size (fun k e => by cases e; omega)
  refine retS Tryz.results90 (vs := [_]) ⟨⟨_, rfl, run_load_agg ag_frac hkW rfl⟩, trivial⟩ ⟨_, rfl, ?_, hBW⟩
  exact ⟨an, cn, ad, cd, rfl, h1.past hk2 ni0 hgW, h2.past hk2 ni0 hgW⟩

set_option maxRecDepth 100000 in
theorem lidentity_calls (n : Nat) (hn : 0 < n) (hn' : n ≤ 1000000) (w : World) :
    Calls Tryz.prog 61 #[.int .i64 (n : Nat)] w (Ret fun v w' => (∃ a' c', v = .slice a' n c' ∧ MatF w' a' n n idn) ∧ Below w.heap.size w w') := by
  refine enter Tryz.func61 rfl Tryz.ntmps61 (Nat.le_of_ble_eq_true rfl) ?_
  refine dr U 600 rfl trivial ?_
  refine mkn U rfl rfl rfl rfl rfl rfl rfl n rfl rfl (by omega) (by omega) w.heap.size (Nat.le_refl _) ?_
  intro ao w0 ho0 hg0
  obtain ⟨go, rfl⟩ : ∃ go, ao = some ⟨go, 0, none⟩ := by
    rcases ho0.2 with ⟨_, h⟩ | ⟨g, cap, cur, h, _⟩
    · omega
    · cases h; exact ⟨g, rfl⟩
  have hB0 : Below w.heap.size w w0 := (Below.refl _ _).grown hg0 (Nat.le_refl _) (fun k e => by cases e)
  rw [vws_start] at ho0
  refine dr U 600 rfl trivial ?_
  refine loopR (fun fr w' mm => ∃ (i : Nat) (A : Nat → Option Addr) (L C : Nat → Nat), fr = [(0, .int .i64 (n : Nat)), (3, .slice (some ⟨go, 0, none⟩) n n), (9, .int .i64 (n : Nat)), (10, .int .i64 (i : Nat))] ∧ i ≤ n ∧
      w'.ownsRow w.heap.size 58 1 (.slice (some ⟨go, 0, none⟩) n n) n (vws n A L C) ∧ Own2 w' w.heap.size n A L C idn ∧ (∀ j, j < n → L j = if j < i then n else 0) ∧ Below w.heap.size w w' ∧ mm = n - i)
    ⟨0, _, _, _, rfl, by omega, ho0, Own2.start _ _ _ _, fun _ _ => rfl, hB0, rfl⟩ ⟨rfl, rfl, rfl, rfl, trivial⟩ ?_
  rintro fr w1 mm ⟨i, A, L, C, rfl, hi, ho, hO, hL, hB, rfl⟩
  refine dr U 600 rfl trivial ?_
  refine cS rfl rfl rfl rfl (fun hq => ?_) (fun hq => ?_)
  · have hin : i < n := by omega
    refine dr U 600 rfl trivial ?_
    refine loopR (fun fr w' mm => ∃ (k : Nat) (A : Nat → Option Addr) (L C : Nat → Nat), fr = [(0, .int .i64 (n : Nat)), (3, .slice (some ⟨go, 0, none⟩) n n), (9, .int .i64 (n : Nat)), (10, .int .i64 (i : Nat)), (4, .int .i64 (i : Nat)), (13, .int .i64 (n : Nat)), (14, .int .i64 (k : Nat))] ∧ k ≤ n ∧
        w'.ownsRow w.heap.size 58 1 (.slice (some ⟨go, 0, none⟩) n n) n (vws n A L C) ∧ Own2 w' w.heap.size n A L C idn ∧ (∀ j, j < n → L j = if j < i then n else if j = i then k else 0) ∧ Below w.heap.size w w' ∧ mm = n - k)
      ⟨0, A, L, C, rfl, by omega, ho, hO, fun j hj => by rw [hL j hj]; split; rfl; split <;> rfl, hB, rfl⟩ ⟨rfl, rfl, rfl, rfl, rfl, rfl, rfl, trivial⟩ ?_
    rintro fr w2 mm ⟨k, A, L, C, rfl, hk, ho, hO, hL, hB, rfl⟩
    refine dr U 600 rfl trivial ?_
    refine cS rfl rfl rfl rfl (fun hq => ?_) (fun hq => ?_)
    · have hkn : k < n := by omega
      have hLi : L i = k := by rw [hL i hin, if_neg (by omega), if_pos rfl]
      refine dr U 600 rfl trivial ?_
      refine cS rfl rfl rfl rfl (fun hq3 => ?_) (fun hq3 => ?_)
      · have hik : i = k := by omega
        refine dr U 600 rfl trivial ?_
        refine dwn 10 (fun W => Sl W (some ⟨go, 0, none⟩) (vws n A L C)) hmo ?_
        intro w5 hh5 hg5
        have hB5 := hB.grown hg5 hB.size (fun k e => by cases e)
        have ho5 := own_keep ho hg5 (by intro g e h; cases h)
        have hB25 : Below w2.heap.size w2 w5 := (Below.refl _ _).grown hg5 (Nat.le_refl _) (fun k e => by cases e)
        have hO5 := hO.below hB25
        have hl5 : ∀ W, Sl W (some ⟨go, 0, none⟩) (vws n A L C) → (loadVar 58 ((⟨go, 0, none⟩ : Addr).add (((i : Nat) : Int).toNat * 1))).run Tryz.prog W = .ok (.slice (A i) (L i) (C i)) W := fun W h => run_load_cell U rfl (by simpa [add_plain] using slc2 h (vws_get hin))
        refine dq U [0,1,2,3,4,5] [(5, .slice (A i) (L i) (C i))] (by kernel_rfl) rfl rfl (own_sl ho5) (by simp only [AllP, InR, List.nil_append, List.cons_append]; (repeat' apply And.intro); all_goals first | exact True.intro | omega | (with_reducible exact hl5)) ?_
        refine d1 rfl rfl (fun _ => own_sl ho5) ?_
        refine call (f := 90) rfl rfl cb90 (frone_calls w5) ?_
        rintro v w6 ⟨hv, hB6⟩
        have hB6' := bl_tr hB5 hB6 hB5.size
        obtain ⟨u1, u2, u3, u4, u5, u6, u7, rfl⟩ := hv.shape
        refine ⟨_, rfl, d2 ?_⟩
        have ho6 := own_bw ho5 hB6
        have hO6 := hO5.below hB6
        refine d1 rfl rfl (fun _ => own_sl ho6) ?_
        refine bsS U [[.bool u1, .slice u2 u3 u4, .slice u5 u6 u7]] rfl rfl rfl rfl rfl rfl (by decide) (by decide) (by intro cs h; simp at h; subst h; rfl) ?_
        intro w7 hk8 hs7 hg7
        have hB7 := hB6'.grown hg7 hB6'.size (fun k e => by cases e)
        have ho7 := own_keep ho6 hg7 (by intro g e h; cases h)
        have hB67 : Below w6.heap.size w6 w7 := (Below.refl _ _).grown hg7 (Nat.le_refl _) (fun k e => by cases e)
        have hO7 := hO6.below hB67
        have hv7 := hv.stay hB67
        refine d2 ?_
        refine d1 rfl rfl (fun _ => own_sl ho7) ?_
        obtain ⟨csk, hok, hek⟩ := hO7.1 i hin
        refine awf U rfl rfl rfl rfl rfl rfl rfl rfl rfl hok (hk8.sl 0) rfl (by decide) (by intro u hu; simp at hu; rcases hu with rfl | rfl | rfl <;> rfl) hB7.size (by omega) rfl ?_
        intro a9 c9 w9 ho9 hg9 hp9
        have htk := own_tag hok
        have hB9 := hB7.grown hg9 hB7.size (fun g e => (own_block hok g e).1)
        have hout9 := own_keep ho7 hg9 (fun g hga e => (own_tag ho7 g hga).ne (htk g e) rfl rfl)
        have he9 : Els w9 (csk ++ [.bool u1, .slice u2 u3 u4, .slice u5 u6 u7]) (L i + 1) (idn i) := (hek.push hg9 htk).snoc (by rw [hLi]; have := hv7.push hg9 htk; rwa [show idn i k = 1 from (by unfold idn; rw [if_pos hik])])
        have hO9 := hO7.grow hin hg9 ho9 he9 hp9
        refine d2 ?_
        refine dq U [9] [] (by kernel_rfl) rfl rfl (own_sl hout9) (by simp only [AllP, InR, List.nil_append, List.cons_append]; (repeat' apply And.intro); all_goals first | exact True.intro | omega | (simp only [List.length_cons, List.length_nil]; omega) | (intro w_ hw_; refine ldC U rfl hw_ ?_; first | assumption | (simp [add_plain]; assumption)) | (intro w_ hw_; refine run_load_cell U rfl ?_; first | exact hw_ | exact hw_.1 | exact hw_.2 | exact hw_.2.1 | exact hw_.2.2 | exact hw_.2.2.1 | exact hw_.2.2.2 | (simp [add_plain]; first | exact hw_.1 | exact hw_.2.1 | exact hw_.2.2))) ?_
        refine d1 rfl rfl (fun _ => own_sl hout9) ?_
        refine so U (v := (.slice a9 (L i + 1) c9)) rfl rfl rfl rfl rfl rfl rfl i (by simp [add_plain]) hin hout9 ?_
        intro w10 ho10 hg10 hs10
        have hB10 := hB9.grown hg10 hB9.size (fun g e => by cases e; exact (own_block hout9 go rfl).1)
        have hO10 := hO9.keep (t := 58) hg10 (fun g e => by cases e; exact own_tag hout9 go rfl) rfl rfl
        rw [vws_set hin] at ho10
        refine d2 ?_; refine dend rfl (fun h => by cases h) ?_
        refine dr U 600 rfl (by first | exact True.intro | (simp only [AllP, InR, List.nil_append, List.cons_append, and_true]; omega)) ?_
        refine rend _ _ ⟨k + 1, _, _, _, rfl, by omega, ho10, hO10, fun j hj => ?_, hB10, rfl⟩ (by omega) ⟨rfl, rfl, rfl, rfl, rfl, rfl, iv (by omega), trivial⟩
        by_cases hji : j = i
        · subst hji; rw [upd_same, hLi, if_neg (by omega), if_pos rfl]
        · rw [upd_ne _ _ hji, hL j hj, if_neg hji, if_neg hji]
      · have hik : i ≠ k := by omega
        refine dr U 600 rfl trivial ?_
        refine dwn 10 (fun W => Sl W (some ⟨go, 0, none⟩) (vws n A L C)) hmo ?_
        intro w5 hh5 hg5
        have hB5 := hB.grown hg5 hB.size (fun k e => by cases e)
        have ho5 := own_keep ho hg5 (by intro g e h; cases h)
        have hB25 : Below w2.heap.size w2 w5 := (Below.refl _ _).grown hg5 (Nat.le_refl _) (fun k e => by cases e)
        have hO5 := hO.below hB25
        have hl5 : ∀ W, Sl W (some ⟨go, 0, none⟩) (vws n A L C) → (loadVar 58 ((⟨go, 0, none⟩ : Addr).add (((i : Nat) : Int).toNat * 1))).run Tryz.prog W = .ok (.slice (A i) (L i) (C i)) W := fun W h => run_load_cell U rfl (by simpa [add_plain] using slc2 h (vws_get hin))
        refine dq U [0,1,2,3,4,5] [(5, .slice (A i) (L i) (C i))] (by kernel_rfl) rfl rfl (own_sl ho5) (by simp only [AllP, InR, List.nil_append, List.cons_append]; (repeat' apply And.intro); all_goals first | exact True.intro | omega | (with_reducible exact hl5)) ?_
        refine d1 rfl rfl (fun _ => own_sl ho5) ?_
        refine call (f := 91) rfl rfl cb91 (frzero_calls w5) ?_
        rintro v w6 ⟨hvz, hB6⟩
        have hv : FQ w6 v 0 := hvz
        have hB6' := bl_tr hB5 hB6 hB5.size
        obtain ⟨u1, u2, u3, u4, u5, u6, u7, rfl⟩ := hv.shape
        refine ⟨_, rfl, d2 ?_⟩
        have ho6 := own_bw ho5 hB6
        have hO6 := hO5.below hB6
        refine d1 rfl rfl (fun _ => own_sl ho6) ?_
        refine bsS U [[.bool u1, .slice u2 u3 u4, .slice u5 u6 u7]] rfl rfl rfl rfl rfl rfl (by decide) (by decide) (by intro cs h; simp at h; subst h; rfl) ?_
        intro w7 hk8 hs7 hg7
        have hB7 := hB6'.grown hg7 hB6'.size (fun k e => by cases e)
        have ho7 := own_keep ho6 hg7 (by intro g e h; cases h)
        have hB67 : Below w6.heap.size w6 w7 := (Below.refl _ _).grown hg7 (Nat.le_refl _) (fun k e => by cases e)
        have hO7 := hO6.below hB67
        have hv7 := hv.stay hB67
        refine d2 ?_
        refine d1 rfl rfl (fun _ => own_sl ho7) ?_
        obtain ⟨csk, hok, hek⟩ := hO7.1 i hin
        refine awf U rfl rfl rfl rfl rfl rfl rfl rfl rfl hok (hk8.sl 0) rfl (by decide) (by intro u hu; simp at hu; rcases hu with rfl | rfl | rfl <;> rfl) hB7.size (by omega) rfl ?_
        intro a9 c9 w9 ho9 hg9 hp9
        have htk := own_tag hok
        have hB9 := hB7.grown hg9 hB7.size (fun g e => (own_block hok g e).1)
        have hout9 := own_keep ho7 hg9 (fun g hga e => (own_tag ho7 g hga).ne (htk g e) rfl rfl)
        have he9 : Els w9 (csk ++ [.bool u1, .slice u2 u3 u4, .slice u5 u6 u7]) (L i + 1) (idn i) := (hek.push hg9 htk).snoc (by rw [hLi]; have := hv7.push hg9 htk; rwa [show idn i k = 0 from (by unfold idn; rw [if_neg hik])])
        have hO9 := hO7.grow hin hg9 ho9 he9 hp9
        refine d2 ?_
        refine dq U [9] [] (by kernel_rfl) rfl rfl (own_sl hout9) (by simp only [AllP, InR, List.nil_append, List.cons_append]; (repeat' apply And.intro); all_goals first | exact True.intro | omega | (simp only [List.length_cons, List.length_nil]; omega) | (intro w_ hw_; refine ldC U rfl hw_ ?_; first | assumption | (simp [add_plain]; assumption)) | (intro w_ hw_; refine run_load_cell U rfl ?_; first | exact hw_ | exact hw_.1 | exact hw_.2 | exact hw_.2.1 | exact hw_.2.2 | exact hw_.2.2.1 | exact hw_.2.2.2 | (simp [add_plain]; first | exact hw_.1 | exact hw_.2.1 | exact hw_.2.2))) ?_
        refine d1 rfl rfl (fun _ => own_sl hout9) ?_
        refine so U (v := (.slice a9 (L i + 1) c9)) rfl rfl rfl rfl rfl rfl rfl i (by simp [add_plain]) hin hout9 ?_
        intro w10 ho10 hg10 hs10
        have hB10 := hB9.grown hg10 hB9.size (fun g e => by cases e; exact (own_block hout9 go rfl).1)
        have hO10 := hO9.keep (t := 58) hg10 (fun g e => by cases e; exact own_tag hout9 go rfl) rfl rfl
        rw [vws_set hin] at ho10
        refine d2 ?_; refine dend rfl (fun h => by cases h) ?_
        refine dr U 600 rfl (by first | exact True.intro | (simp only [AllP, InR, List.nil_append, List.cons_append, and_true]; omega)) ?_
        refine rend _ _ ⟨k + 1, _, _, _, rfl, by omega, ho10, hO10, fun j hj => ?_, hB10, rfl⟩ (by omega) ⟨rfl, rfl, rfl, rfl, rfl, rfl, iv (by omega), trivial⟩
        by_cases hji : j = i
        · subst hji; rw [upd_same, hLi, if_neg (by omega), if_pos rfl]
        · rw [upd_ne _ _ hji, hL j hj, if_neg hji, if_neg hji]
    · obtain rfl : k = n := by omega
      refine dr U 600 rfl (by first | exact True.intro | (simp only [AllP, InR, List.nil_append, List.cons_append, and_true]; omega)) ?_
      exact rend _ _ ⟨i + 1, A, L, C, rfl, by omega, ho, hO, fun j hj => by rw [hL j hj]; split <;> split <;> (try split) <;> omega, hB, rfl⟩ (by omega) ⟨rfl, rfl, rfl, iv (by omega), trivial⟩
  · obtain rfl : i = n := by omega
    refine dr U 600 rfl trivial ?_
    refine ret Tryz.results61 rfl ⟨_, rfl, ⟨some ⟨go, 0, none⟩, i, rfl, A, C, by rw [← vws_rws (L := L) (m := i) (fun j hj => by rw [hL j hj, if_pos hj])]; exact own_sl ho, fun j hj => ?_, own_tag ho⟩, hB⟩
    obtain ⟨cs, h1, h2⟩ := hO.1 j hj
    rw [hL j hj, if_pos hj] at h1 h2
    exact ⟨own_vec h1 h2, own_cap3 h1⟩
end Go.Proofs.YtfdekppnilffeaaGreatDoor
end
section
set_option linter.unusedSimpArgs false
set_option linter.unusedVariables false
set_option maxHeartbeats 1000000
namespace Go.Proofs.YtfdekppnilffeaaGreatDoor
open Go Go.Proofs Go.RowKit Go.Lib

theorem small_one : Small 1 1 := ⟨by rw [show (1 : Rat).num.natAbs = 1 from rfl, nDigits_small (by omega)]; omega, by rw [show (1 : Rat).den = 1 from rfl, nDigits_small (by omega)]; omega⟩
theorem idn_small (i k : Nat) : Small 1 (idn i k) := by
  unfold idn
  split
  · exact small_one
  · exact small_zero
/-- What Identity answers. -/
def IdR (n : Int) (v : Value) (w : World) : Prop :=
  ((n < 1 ∨ 64 < n) ∧ v = .slice none 0 0) ∨ (1 ≤ n ∧ n ≤ 64 ∧ ∃ a c, v = .slice a n.toNat c ∧ SM w a (mtx n.toNat n.toNat idn))
theorem lIdentity_calls (n : Int) (hn : -9223372036854775808 ≤ n ∧ n ≤ 9223372036854775807) (w : World) (ht : TabOk w) :
    Calls Tryz.prog 24 #[.int .i64 n] w (Ret fun v w' => IdR n v w' ∧ Below w.heap.size w w') := by
  refine enter Tryz.func24 rfl Tryz.ntmps24 (Nat.le_of_ble_eq_true rfl) ?_
  refine dr U 600 rfl trivial ?_
  refine cS rfl rfl rfl rfl (fun hq1 => ?_) (fun hq1 => ?_)
  · refine dr U 600 rfl trivial ?_
    exact ret Tryz.results24 rfl ⟨_, rfl, .inl ⟨.inl hq1, rfl⟩, Below.refl _ _⟩
  refine dr U 600 rfl trivial ?_
  refine cS rfl rfl rfl rfl (fun hq2 => ?_) (fun hq2 => ?_)
  · refine dr U 600 rfl trivial ?_
    exact ret Tryz.results24 rfl ⟨_, rfl, .inl ⟨.inr hq2, rfl⟩, Below.refl _ _⟩
  obtain ⟨k, rfl⟩ : ∃ k : Nat, n = (k : Int) := ⟨n.toNat, by omega⟩
  refine dr U 600 rfl trivial ?_
  refine call (f := 61) rfl rfl cb61 (lidentity_calls k (by omega) (by omega) w) ?_
  rintro v w1 ⟨⟨a1, c1, rfl, hM⟩, hB1⟩
  refine ⟨_, rfl, ?_⟩
  refine call (f := 60) rfl rfl cb60 (lmtexts_calls k k idn (fun i _ j _ => small_mono (idn_small i j) (by omega)) a1 c1 w1 hM (by omega) (by omega) (ht.below hB1)) ?_
  rintro v w2 ⟨hr, hB2⟩
  rcases hr with ⟨⟨i, _, j, _, h⟩, _⟩ | ⟨_, a2, c2, rfl, hS⟩
  · exact absurd (small_mono (idn_small i j) (by omega)) h
  refine ⟨_, rfl, ?_⟩
  refine dr U 600 rfl trivial ?_
  exact ret Tryz.results24 rfl ⟨_, rfl, .inr ⟨by omega, by omega, a2, c2, rfl, hS⟩, bl_tr hB1 hB2 hB1.size⟩
end Go.Proofs.YtfdekppnilffeaaGreatDoor
end
