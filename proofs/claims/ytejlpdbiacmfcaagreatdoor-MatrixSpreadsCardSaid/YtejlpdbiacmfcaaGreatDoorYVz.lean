/-
  Walks of matrix.solve and linear.solved.
  Conditions: a bound on the sizes of the numbers.

  Walks of linear.Rank, Solve, Inverse, Least.
  Conditions: a bound on the sizes of the numbers; the library's table of powers of ten is laid.

  Plain things of lists of texts that are numbers.
  No conditions: each theorem names its own premises.

  Lists of rows of ints in memory.
  No conditions: each theorem names its own premises.

  What package matrix answers, as plain functions and relations.
  No conditions: each theorem names its own premises.

  The blocks of the tree in the order of the loops.
  No conditions: each theorem names its own premises.

  Walks of package matrix: row, within, contains.
  Conditions: lists have at most a million elements.
-/
import Derived.Test.YtejlpdbiacmfcaaGreatDoorYLb
import Derived.Test.YtejlpdbiacmfcaaGreatDoorYVu
import Derived.Test.YtejlpdbiacmfcaaGreatDoorYVx
section
set_option linter.unusedSimpArgs false
set_option linter.unusedVariables false
set_option maxHeartbeats 2000000
namespace Go.Proofs.YtejlpdbiacmfcaaGreatDoor
open Go Go.Proofs Go.RowKit Go.Lib

theorem grw_le {L k n : Nat} (h : grw n L ≤ 1000000) (hk : k < n) : 3 * grw (n - 1) L ≤ 1000000 ∧ grw k L ≤ grw (n - 1) L := by
  refine ⟨?_, grw_mono L (by omega)⟩
  obtain ⟨q, rfl⟩ : ∃ q, n = q + 1 := ⟨n - 1, by omega⟩
  rw [grw] at h
  rw [Nat.add_sub_cancel]; omega
theorem aug_small {n p S : Nat} {f b : Mx} (hf : ∀ i t, i < n → t < n → Small S (f i t)) (hb : ∀ i t, i < n → t < p → Small S (b i t)) : ∀ i t, i < n → t < n + p → Small S (aug n f b i t) := fun i t hi ht => by
  unfold aug
  split
  · exact hf i t hi (by assumption)
  · exact hb i _ hi (by omega)
theorem Own2.len {w : World} {base n : Nat} {A : Nat → Option Addr} {L L' C : Nat → Nat} {f : Nat → Nat → Rat} (h : Own2 w base n A L C f) (he : ∀ j, j < n → L j = L' j) : Own2 w base n A L' C f :=
  ⟨fun j hj => by rw [← he j hj]; exact h.1 j hj, h.2⟩
theorem el_drop {cs : List Value} (n j : Nat) : el (cs.drop (n * 3)) j = el cs (n + j) := by
  unfold el
  rw [List.drop_drop, Nat.add_mul]
theorem Els.drop {w : World} {cs : List Value} {n p : Nat} {f : Nat → Rat} (h : Els w cs (n + p) f) : Els w (cs.drop (n * 3)) p (fun j => f (n + j)) :=
  ⟨by rw [List.length_drop, h.1, Nat.add_mul]; omega, fun i hi => by rw [el_drop]; exact h.2 (n + i) (by omega)⟩
theorem sadd_some {q c n : Nat} (h : c ≠ n) : sadd (some ⟨q, 0, none⟩) c n 3 = some ⟨q, n * 3, none⟩ := by
  unfold sadd
  rw [if_neg h]
  show some ((⟨q, 0, none⟩ : Addr).add (n * 3)) = _
  rw [add_plain, Nat.zero_add]
theorem sl_drop3 {w : World} {q : Nat} {cs : List Value} (h : Sl w (some ⟨q, 0, none⟩) cs) (n : Nat) : Sl w (some ⟨q, n, none⟩) (cs.drop n) := fun j v hv => by
  rw [List.getElem?_drop] at hv
  obtain ⟨g, o, he, hc⟩ := h _ v hv
  cases he
  exact ⟨q, n, rfl, by rw [← hc, Nat.zero_add]⟩
/-- The rows behind some columns. -/
theorem own_tail {w : World} {base q n p c : Nat} {cs : List Value} {f : Nat → Rat} (h : w.ownsRow base 76 3 (.slice (some ⟨q, 0, none⟩) (n + p) c) (n + p) cs) (he : Els w cs (n + p) f) (hp : 0 < p) : VecF w (sadd (some ⟨q, 0, none⟩) c n 3) p (fun j => f (n + j)) ∧ p ≤ c - n := by
  have hc := own_cap3 h
  rw [sadd_some (by omega)]
  exact ⟨⟨cs.drop (n * 3), he.drop, sl_drop3 (own_sl3 h) _, fun g hg => by cases hg; exact own_tag h q rfl⟩, by omega⟩

theorem lreduce_small (m n cols S : Nat) (f : Nat → Nat → Rat) (hn : 0 < n) (hcols : cols ≤ n) (hc0 : 0 < cols) (hm' : m ≤ 1000000) (hn' : n ≤ 1000000) (hS : ∀ i t, i < m → t < n → Small S (f i t)) (hG : grw cols S ≤ 1000000)
    (go c base : Nat) (A0 : Nat → Option Addr) (C0 : Nat → Nat) (w : World) (ho0 : w.ownsRow base 105 1 (.slice (some ⟨go, 0, none⟩) m c) m (rws m n A0 C0)) (hO0 : Own2 w base m A0 (fun _ => n) C0 f) (hbase : base ≤ w.heap.size) :
    Calls Tryz.prog 120 #[.slice (some ⟨go, 0, none⟩) m c, .int .i64 (cols : Nat)] w (Ret fun v w' => v = .int .i64 ((gj m f cols).2 : Nat) ∧ ∃ A C, RdcI w w' base go c m n A C (gj m f cols).1) :=
  lreduce_calls m n cols (grw (cols - 1) S) f hn hcols hm' hn' (grw_le hG (show 0 < cols by omega)).1 (fun k hk i t hi ht => small_mono (gj_small hS k (by omega) i t hi ht) (grw_le hG hk).2) go c base A0 C0 w ho0 hO0 hbase

theorem lsolve_calls (n p S : Nat) (f b : Mx) (hn : 0 < n) (hp : 0 < p) (hn' : n ≤ 500000) (hp' : p ≤ 500000) (hfS : ∀ i t, i < n → t < n → Small S (f i t)) (hbS : ∀ i t, i < n → t < p → Small S (b i t)) (hG : grw n S ≤ 1000000)
    (a ab_ : Option Addr) (c d : Nat) (w : World) (hf : MatF w a n n f) (hb : MatF w ab_ n p b) :
    Calls Tryz.prog 89 #[.slice a n c, .slice ab_ n d] w (Ret fun v w' => (((gj n f n).2 ≠ n ∧ v = .tuple ⟨[.slice none 0 0, .bool false]⟩) ∨ ((gj n f n).2 = n ∧ ∃ a' c', v = .tuple ⟨[.slice a' n c', .bool true]⟩ ∧ MatF w' a' n p (fun i j => (gj n (aug n f b) n).1 i (n + j)))) ∧ Below w.heap.size w w') := by
  refine enter Tryz.func89 rfl Tryz.ntmps89 (Nat.le_of_ble_eq_true rfl) ?_
  refine dr U 600 rfl trivial ?_
  refine call (f := 119) rfl rfl cb119 (lwith_calls n n p f b hn hn hp (by omega) (by omega) (by omega) a ab_ c d w hf hb) ?_
  rintro v w0 ⟨⟨go, co, A0, L0, C0, rfl, hL0, ho0, hO0⟩, hB0⟩
  rw [vws_rws hL0] at ho0
  have hO0 : Own2 w0 w.heap.size n A0 (fun _ => n + p) C0 (aug n f b) := hO0.len hL0
  refine ⟨_, rfl, ?_⟩
  refine dr U 600 rfl trivial ?_
  refine call (f := 120) rfl rfl cb120 (lreduce_small n (n + p) n S (aug n f b) (by omega) (by omega) hn (by omega) (by omega) (aug_small hfS hbS) hG go co w.heap.size A0 C0 w0 ho0 hO0 hB0.size) ?_
  rintro v w1 ⟨rfl, A, C, ho1, hO1, hB01⟩
  have hB1 := hB0.trans hB01
  have hle := gj_le n (aug n f b) n
  have hrk := aug_rank n f b
  refine ⟨_, rfl, ?_⟩
  refine dr U 600 rfl trivial ?_
  refine cS rfl rfl rfl rfl (fun hq => ?_) (fun hq => ?_)
  · refine dr U 600 rfl trivial ?_
    exact ret Tryz.results89 rfl ⟨_, rfl, .inl ⟨by omega, rfl⟩, hB1⟩
  have hfull : (gj n f n).2 = n := by omega
  refine dr U 600 rfl trivial ?_
  refine loopR (fun fr w' mm => ∃ (i : Nat) (A2 : Nat → Option Addr) (L2 C2 : Nat → Nat), fr = [(0, .slice a n c), (6, .slice (some ⟨go, 0, none⟩) n co), (19, .int .i64 (n : Nat)), (20, .int .i64 (i : Nat))] ∧ i ≤ n ∧
      w'.ownsRow w.heap.size 105 1 (.slice (some ⟨go, 0, none⟩) n co) n (vws n A2 L2 C2) ∧ Own2 w' w.heap.size n A (fun _ => n + p) C (gj n (aug n f b) n).1 ∧
      (∀ j, j < n → if j < i then A2 j = sadd (A j) (C j) n 3 ∧ L2 j = p ∧ C2 j = C j - n else A2 j = A j ∧ L2 j = n + p ∧ C2 j = C j) ∧ Below w.heap.size w w' ∧ mm = n - i)
    ⟨0, A, fun _ => n + p, C, rfl, by omega, ho1, hO1, fun j hj => by rw [if_neg (by omega)]; exact ⟨rfl, rfl, rfl⟩, hB1, rfl⟩ ⟨rfl, rfl, rfl, rfl, trivial⟩ ?_
  rintro fr w2 mm ⟨i, A2, L2, C2, rfl, hi, ho, hO, hA, hB, rfl⟩
  refine dr U 600 rfl trivial ?_
  refine cS rfl rfl rfl rfl (fun hq => ?_) (fun hq => ?_)
  · have hin : i < n := by omega
    have hAi := hA i hin
    rw [if_neg (by omega)] at hAi
    obtain ⟨e1, e2, e3⟩ := hAi
    refine dr U 600 rfl trivial ?_
    refine il U rfl rfl rfl rfl rfl rfl rfl (fun _ => rfl) rfl i rfl hin (own_sl ho) (vws_get hin) ?_
    rw [e1, e2, e3]
    refine dr U 600 rfl (by first | exact True.intro | (simp only [AllP, InR, List.nil_append, List.cons_append, and_true]; omega)) ?_
    simp only [Int.toNat_natCast, Nat.add_sub_cancel_left]
    refine ia U rfl rfl rfl rfl rfl rfl i rfl hin ?_
    refine so U (v := (.slice (sadd (A i) (C i) n 3) p (C i - n))) rfl rfl rfl rfl rfl rfl rfl i (by simp [add_plain]) hin ho ?_
    intro w3 ho3 hg3 hs3
    have hB3 := hB.grown hg3 hB.size (fun g e => by cases e; exact (own_block ho go rfl).1)
    have hO3 := hO.keep (t := 105) hg3 (fun g e => by cases e; exact own_tag ho go rfl) rfl rfl
    rw [vws_set hin] at ho3
    refine dr U 600 rfl (by first | exact True.intro | (simp only [AllP, InR, List.nil_append, List.cons_append, and_true]; omega)) ?_
    refine rend _ _ ⟨i + 1, _, _, _, rfl, by omega, ho3, hO3, fun j hj => ?_, hB3, rfl⟩ (by omega) ⟨rfl, rfl, rfl, iv (by omega), trivial⟩
    by_cases hji : j = i
    · subst hji
      rw [if_pos (by omega), upd_same, upd_same, upd_same]; exact ⟨rfl, rfl, rfl⟩
    · rw [upd_ne _ _ hji, upd_ne _ _ hji, upd_ne _ _ hji]
      have := hA j hj
      by_cases h : j < i
      · rw [if_pos h] at this; rw [if_pos (by omega)]; exact this
      · rw [if_neg h] at this; rw [if_neg (by omega)]; exact this
  · obtain rfl : n = i := by omega
    refine dr U 600 rfl trivial ?_
    have hA' : ∀ j, j < n → A2 j = sadd (A j) (C j) n 3 ∧ L2 j = p ∧ C2 j = C j - n := fun j hj => by
      have := hA j hj
      rwa [if_pos hj] at this
    rw [vws_rws (fun j hj => (hA' j hj).2.1)] at ho
    refine ret Tryz.results89 rfl ⟨_, rfl, .inr ⟨hfull, some ⟨go, 0, none⟩, co, rfl, A2, C2, own_sl ho, fun j hj => ?_, own_tag ho⟩, hB⟩
    obtain ⟨cs, h1, h2⟩ := hO.1 j hj
    have hq : ∃ q, A j = some ⟨q, 0, none⟩ := by
      rcases h1.2 with ⟨_, e⟩ | ⟨q, cap, cur, e, _⟩
      · have : n + p = 0 := e
        omega
      · simp only [Value.slice.injEq] at e; exact ⟨q, e.1⟩
    obtain ⟨q, hq⟩ := hq
    rw [(hA' j hj).1, (hA' j hj).2.2, hq]
    rw [hq] at h1
    exact own_tail h1 h2 hp

theorem lsolved_calls (n : Nat) (f : Mx) (hn : 0 < n) (hn' : n ≤ 1000000) (hfit : ∀ i, i < n → Small 1000000 (f i 0)) (a : Option Addr) (c : Nat) (w : World) (hf : MatF w a n 1 f) (ht : TabOk w) :
    Calls Tryz.prog 88 #[.slice a n c, .bool true] w (Ret fun v w' => (∃ ys e, TxtS n (fun i => f i 0) ys e ∧ VOut ys e v w') ∧ Below w.heap.size w w') := by
  refine enter Tryz.func88 rfl Tryz.ntmps88 (Nat.le_of_ble_eq_true rfl) ?_
  refine dr U 600 rfl trivial ?_
  refine call (f := 118) rfl rfl cb118 (lflip_calls n 1 f hn (by omega) hn' (by omega) a c w hf) ?_
  rintro v w1 ⟨⟨a1, c1, rfl, hM⟩, hB1⟩
  obtain ⟨A, C, hSl, hV, hT⟩ := hM
  refine ⟨_, rfl, ?_⟩
  refine il U rfl rfl rfl rfl rfl rfl rfl (fun _ => rfl) rfl 0 rfl (by omega) hSl (rws_get (by omega)) ?_
  refine call (f := 117) rfl rfl cb117 (ltexts_calls n (fun i => f i 0) hfit (A 0) (C 0) w1 (hV 0 (by omega)).1 hn' (ht.below hB1)) ?_
  rintro v w2 ⟨hr, hB2⟩
  obtain ⟨ys, e, h1, h2⟩ := hr.spec
  obtain ⟨a3, c3, rfl, h3⟩ := h2
  refine ⟨_, rfl, ?_⟩
  refine dr U 600 rfl trivial ?_
  exact ret Tryz.results88 rfl ⟨_, rfl, ⟨ys, e, h1, a3, c3, rfl, h3⟩, bl_tr hB1 hB2 hB1.size⟩
theorem lsolved_no (w : World) : Calls Tryz.prog 88 #[.slice none 0 0, .bool false] w (Ret fun v w' => VOut [] 17 v w' ∧ Below w.heap.size w w') := by
  refine enter Tryz.func88 rfl Tryz.ntmps88 (Nat.le_of_ble_eq_true rfl) ?_
  refine dr U 600 rfl trivial ?_
  exact ret Tryz.results88 rfl ⟨_, rfl, VOut.nil _ _, Below.refl _ _⟩
end Go.Proofs.YtejlpdbiacmfcaaGreatDoor
end
section
set_option linter.unusedSimpArgs false
set_option linter.unusedVariables false
set_option maxHeartbeats 2000000
namespace Go.Proofs.YtejlpdbiacmfcaaGreatDoor
open Go Go.Proofs Go.RowKit Go.Lib

theorem own_go {w : World} {base e m c : Nat} {a : Option Addr} {cs : List Value} (h : w.ownsRow base e 1 (.slice a m c) m cs) (hm : 0 < m) : ∃ go, a = some ⟨go, 0, none⟩ := by
  rcases h.2 with ⟨_, e⟩ | ⟨q, cap, cur, e, _⟩
  · have : m = 0 := e
    omega
  · simp only [Value.slice.injEq] at e; exact ⟨q, e.1⟩

/-- The only column of the solution of a system, as texts. -/
theorem gj_sol {n : Nat} {f : Mx} {b : Nat → Rat} (h : (gj n f n).2 = n) : ∀ i, i < n → mapp n f (fun i => (gj n (aug n f (fun i _ => b i)) n).1 i (n + 0)) i = b i := fun i hi =>
  (solve_iff (c := 1) (b := fun i _ => b i) h 0 (by omega) (fun i => (gj n (aug n f (fun i _ => b i)) n).1 i (n + 0))).2 (fun _ _ => rfl) i hi
theorem gj_aug_small {n p S : Nat} {f b : Mx} (hfS : ∀ i t, i < n → t < n → Small S (f i t)) (hbS : ∀ i t, i < n → t < p → Small S (b i t)) (hG : grw n S ≤ 1000000) : ∀ i t, i < n → t < n + p → Small 1000000 ((gj n (aug n f b) n).1 i t) :=
  fun i t hi ht => small_mono (gj_small (aug_small hfS hbS) n (by omega) i t hi ht) hG

theorem BErr.xok {xss : List (List Tx)} {ys : List Tx} (h : BErr xss ys 0) : 0 < xss.length ∧ 0 < (rw' xss 0).length ∧ xss.length ≤ 64 ∧ (rw' xss 0).length ≤ 64 := by
  obtain ⟨h1, _⟩ := h.ok
  obtain ⟨a, b, c, d, _⟩ := h1.ok
  exact ⟨a, b, c, d⟩

theorem lSolve_calls (xss : List (List Tx)) (ys : List Tx) (S : Nat) (a b : Option Addr) (c d : Nat) (w : World) (hs : SM w a xss) (hl : xss.length ≤ 1099511627776) (hl2 : ∀ i, i < xss.length → (rw' xss i).length ≤ 1099511627776) (hx : ∀ i, i < xss.length → ∀ j, j < (rw' xss i).length → ((rw' xss i).getD j []).length ≤ 1099511627776)
    (hsy : Sl w b (strs ys)) (hly : ys.length ≤ 1099511627776) (hy : ∀ j, j < ys.length → (ys.getD j []).length ≤ 1099511627776) (ht : TabOk w)
    (hS : BErr xss ys 0 → (∀ i t, i < xss.length → t < (rw' xss 0).length → Small S (mval xss i t)) ∧ (∀ i, i < ys.length → Small S (vval ys i)) ∧ grw xss.length S ≤ 1000000) :
    Calls Tryz.prog 50 #[.slice a xss.length c, .slice b ys.length d] w (Ret fun v w' => (∃ zs e, SolS xss ys zs e ∧ VOut zs e v w') ∧ Below w.heap.size w w') := by
  refine enter Tryz.func50 rfl Tryz.ntmps50 (Nat.le_of_ble_eq_true rfl) ?_
  refine dr U 600 rfl trivial ?_
  refine call (f := 87) rfl rfl cb87 (lboth_calls xss ys a b c d w hs hl hl2 hx hsy hly hy) ?_
  rintro v w1 ⟨⟨am, nm, cm, av, nv, cv, e, rfl, he, hok⟩, hB1⟩
  refine ⟨_, rfl, ?_⟩
  refine dr U 600 rfl trivial ?_
  refine cS rfl rfl rfl rfl (fun hq1 => ?_) (fun hq1 => ?_)
  · refine dr U 600 rfl trivial ?_
    exact ret Tryz.results50 rfl ⟨_, rfl, ⟨[], e, .inl ⟨hq1, he, rfl⟩, VOut.nil _ _⟩, hB1⟩
  obtain rfl := Classical.not_not.1 hq1
  obtain ⟨rfl, rfl, hM, hV⟩ := hok rfl
  obtain ⟨h0, h1, h64, h65⟩ := he.xok
  obtain ⟨hSm, hSv, hG⟩ := hS he
  have hM0 := hM
  obtain ⟨A, C, hSl, hR, hTb⟩ := hM0
  refine dr U 600 rfl trivial ?_
  refine il U rfl rfl rfl rfl rfl rfl rfl (fun _ => rfl) rfl 0 rfl h0 hSl (rws_get h0) ?_
  refine dr U 600 rfl trivial ?_
  refine cS rfl rfl rfl rfl (fun hq2 => ?_) (fun hq2 => ?_)
  · refine dr U 600 rfl trivial ?_
    exact ret Tryz.results50 rfl ⟨_, rfl, ⟨[], 10, .inr (.inl ⟨he, .inl (fun h => hq2 (by rw [← h])), rfl, rfl⟩), VOut.nil _ _⟩, hB1⟩
  have hsq : xss.length = (rw' xss 0).length := by omega
  refine dr U 600 rfl trivial ?_
  refine cS rfl rfl rfl rfl (fun hq3 => ?_) (fun hq3 => ?_)
  · refine dr U 600 rfl trivial ?_
    exact ret Tryz.results50 rfl ⟨_, rfl, ⟨[], 10, .inr (.inl ⟨he, .inr (fun h => hq3 (by rw [← h])), rfl, rfl⟩), VOut.nil _ _⟩, hB1⟩
  have hlen : ys.length = xss.length := by omega
  rw [hlen] at hV hSv
  rw [← hsq] at hM hSm
  rw [hlen]
  refine dr U 600 rfl trivial ?_
  refine call (f := 90) rfl rfl cb90 (lcolumn_calls xss.length (vval ys) (by omega) av cv w1 hV) ?_
  rintro v w2 ⟨⟨a2, c2, rfl, hN⟩, hB2⟩
  have hB2' := bl_tr hB1 hB2 hB1.size
  refine ⟨_, rfl, ?_⟩
  refine call (f := 89) rfl rfl cb89 (lsolve_calls xss.length 1 S (mval xss) (fun i _ => vval ys i) h0 (by omega) (by omega) (by omega) hSm (fun i t hi _ => hSv i hi) hG am a2 cm c2 w2 (hM.stay hB2) hN) ?_
  rintro v w3 ⟨hr, hB3⟩
  have hB3' := bl_tr hB2' hB3 hB2'.size
  rcases hr with ⟨hns, rfl⟩ | ⟨hfull, a3, c3, rfl, hX⟩
  · refine ⟨_, rfl, ?_⟩
    refine dr U 600 rfl trivial ?_
    refine call (f := 88) rfl rfl cb88 (lsolved_no w3) ?_
    rintro v w4 ⟨⟨a4, c4, rfl, h4⟩, hB4⟩
    refine ⟨_, rfl, ?_⟩
    refine dr U 600 rfl trivial ?_
    exact ret Tryz.results50 rfl ⟨_, rfl, ⟨[], 17, .inr (.inr ⟨he, hsq, hlen, .inl ⟨hns, rfl, rfl⟩⟩), a4, c4, rfl, h4⟩, bl_tr hB3' hB4 hB3'.size⟩
  · refine ⟨_, rfl, ?_⟩
    refine dr U 600 rfl trivial ?_
    refine call (f := 88) rfl rfl cb88 (lsolved_calls xss.length _ h0 (by omega) (fun i hi => gj_aug_small (p := 1) hSm (fun i t hi _ => hSv i hi) hG i (xss.length + 0) hi (by omega)) a3 c3 w3 hX (ht.below hB3')) ?_
    rintro v w4 ⟨⟨zs, e4, h3, a4, c4, rfl, h4⟩, hB4⟩
    refine ⟨_, rfl, ?_⟩
    refine dr U 600 rfl trivial ?_
    exact ret Tryz.results50 rfl ⟨_, rfl, ⟨zs, e4, .inr (.inr ⟨he, hsq, hlen, .inr ⟨hfull, _, gj_sol hfull, h3⟩⟩), a4, c4, rfl, h4⟩, bl_tr hB3' hB4 hB3'.size⟩

end Go.Proofs.YtejlpdbiacmfcaaGreatDoor
end
section
set_option linter.unusedSimpArgs false
set_option linter.unusedVariables false
namespace Go.Proofs.YtejlpdbiacmfcaaGreatDoor
open Go Go.Proofs Go.RowKit Go.Lib

theorem XErr.rows {xss : List (List Tx)} (h : XErr xss 0) : (∀ i, i < xss.length → (rw' xss i).length = (rw' xss 0).length) ∧ ∀ i, i < xss.length → ∀ j, j < (rw' xss 0).length → QErr ((rw' xss i).getD j []) 0 := by
  have hr := h.ok.2.2.2.2
  exact ⟨fun i hi => (hr i hi).1, fun i hi j hj => (hr i hi).2.ok.2.2 j (by rw [(hr i hi).1]; exact hj)⟩
/-- The lengths of lists and texts. -/
structure Lens (xss : List (List Tx)) : Prop where
  l : xss.length ≤ 1099511627776
  l2 : ∀ i, i < xss.length → (rw' xss i).length ≤ 1099511627776
  x : ∀ i, i < xss.length → ∀ j, j < (rw' xss i).length → ((rw' xss i).getD j []).length ≤ 1099511627776
theorem Lens.row {xss : List (List Tx)} (h : Lens xss) (he : XErr xss 0) : ∀ i, i < xss.length → ∀ j, j < (rw' xss 0).length → ((rw' xss i).getD j []).length ≤ 1099511627776 := fun i hi j hj => h.x i hi j (by rw [he.rows.1 i hi]; exact hj)
structure LenV (ys : List Tx) : Prop where
  l : ys.length ≤ 1099511627776
  x : ∀ j, j < ys.length → (ys.getD j []).length ≤ 1099511627776

theorem txs_snoc (n : Nat) (f : Nat → Rat) : txs (n + 1) f = txs n f ++ [qtext (f n)] := by unfold txs; rw [List.range_succ, List.map_append]; rfl
theorem qtext_zero : qtext 0 = [48] := by have := qtext_nat 0; rw [decDigits_one (by omega)] at this; simpa using this
theorem qtext_one : qtext 1 = [49] := by have := qtext_nat 1; rw [decDigits_one (by omega)] at this; simpa using this
theorem VErr.qok {ys : List Tx} (h : VErr ys 0) : ∀ i, i < ys.length → QErr (ys.getD i []) 0 := h.ok.2.2
theorem mtx_getD {m n i j : Nat} {f : Nat → Nat → Rat} (hi : i < m) (hj : j < n) : (rw' (mtx m n f) i).getD j [] = qtext (f i j) := by
  rw [mtx_row hi]
  simp [txs, List.getD, hj]
theorem mtx_len {m n i : Nat} {f : Nat → Nat → Rat} (hi : i < m) : (rw' (mtx m n f) i).length = n := by rw [mtx_row hi, txs_length]
end Go.Proofs.YtejlpdbiacmfcaaGreatDoor
end
section
set_option linter.unusedSimpArgs false
set_option linter.unusedVariables false
set_option maxHeartbeats 1000000
namespace Go.Proofs.YtejlpdbiacmfcaaGreatDoor
open Go Go.Proofs Go.RowKit Go.Lib

/-- Ints as values. -/
def ivs (l : List Int) : List Value := l.map fun x => .int .i64 x
theorem ivs_get {l : List Int} {i : Nat} (h : i < l.length) : (ivs l)[i]? = some (.int .i64 (l.getD i 0)) := by simp [ivs, h, List.getD]
theorem ivs_set {l : List Int} {i : Nat} {x : Int} : (ivs l).set i (.int .i64 x) = ivs (l.set i x) := by simp [ivs, List.map_set]
theorem ivs_zero (n : Nat) : List.replicate n (Value.int .i64 0) = ivs (List.replicate n 0) := by simp [ivs]
def irow (xss : List (List Int)) (i : Nat) : List Int := xss.getD i []
/-- The list of the rows' places. -/
def irws (xss : List (List Int)) (A : Nat → Option Addr) (C : Nat → Nat) : List Value := (List.range xss.length).map fun i => .slice (A i) (irow xss i).length (C i)
theorem irws_get {xss : List (List Int)} {i : Nat} {A : Nat → Option Addr} {C : Nat → Nat} (h : i < xss.length) : (irws xss A C)[i]? = some (.slice (A i) (irow xss i).length (C i)) := by simp [irws, h]
theorem irws_length (xss : List (List Int)) (A : Nat → Option Addr) (C : Nat → Nat) : (irws xss A C).length = xss.length := by simp [irws]
theorem irow_app1 {xss yss : List (List Int)} {i : Nat} (h : i < xss.length) : irow (xss ++ yss) i = irow xss i := by
  unfold irow; simp [List.getD, List.getElem?_append_left h]
theorem irow_app2 (xss : List (List Int)) (xs : List Int) : irow (xss ++ [xs]) xss.length = xs := by
  unfold irow; simp [List.getD]
theorem irws_snoc (xss : List (List Int)) (xs : List Int) (A : Nat → Option Addr) (C : Nat → Nat) (a : Option Addr) (c : Nat) : irws xss A C ++ [.slice a xs.length c] = irws (xss ++ [xs]) (upd A xss.length a) (upd C xss.length c) := by
  unfold irws
  rw [List.length_append, List.length_singleton, List.range_succ, List.map_append, List.map_singleton, upd_same, upd_same, irow_app2]
  congr 1
  apply List.map_congr_left
  intro i hi
  have := List.mem_range.1 hi
  rw [upd_ne _ _ (by omega), upd_ne _ _ (by omega), irow_app1 this]
/-- A list of rows of ints. -/
def SZ (w : World) (a : Option Addr) (xss : List (List Int)) : Prop := ∃ A C, Sl w a (irws xss A C) ∧ ∀ i, i < xss.length → Sl w (A i) (ivs (irow xss i))
theorem SZ.stay {w w' : World} {a : Option Addr} {xss : List (List Int)} (h : SZ w a xss) (hb : Below w.heap.size w w') : SZ w' a xss := by
  obtain ⟨A, C, h1, h2⟩ := h
  exact ⟨A, C, h1.stay hb, fun i hi => (h2 i hi).stay hb⟩
theorem SZ.nil (w : World) : SZ w none [] := ⟨fun _ => none, fun _ => 0, Sl.nil _ _, fun i hi => absurd hi (by simp)⟩
/-- A new list of rows of ints. -/
def OwnZ (w : World) (B : Nat) (a : Option Addr) (c : Nat) (xss : List (List Int)) : Prop := ∃ A C, w.ownsRow B 23 1 (.slice a xss.length c) xss.length (irws xss A C) ∧ ∀ i, i < xss.length → Sl w (A i) (ivs (irow xss i)) ∧ ∀ g, ab (A i) = some g → Tg w 3 g
theorem OwnZ.sz {w : World} {B : Nat} {a : Option Addr} {c : Nat} {xss : List (List Int)} (h : OwnZ w B a c xss) : SZ w a xss := by
  obtain ⟨A, C, h1, h2⟩ := h
  exact ⟨A, C, own_sl h1, fun i hi => (h2 i hi).1⟩
theorem OwnZ.nil (w : World) (B : Nat) : OwnZ w B none 0 [] := ⟨fun _ => none, fun _ => 0, ⟨rfl, .inl ⟨rfl, rfl⟩⟩, fun i hi => absurd hi (by simp)⟩
theorem OwnZ.stay {w w' : World} {B : Nat} {a : Option Addr} {c : Nat} {xss : List (List Int)} (h : OwnZ w B a c xss) (hb : Below w.heap.size w w') : OwnZ w' B a c xss := by
  obtain ⟨A, C, h1, h2⟩ := h
  exact ⟨A, C, own_bw h1 hb, fun i hi => ⟨(h2 i hi).1.below hb (fun g hg => ((h2 i hi).2 g hg).lt), fun g hg => ((h2 i hi).2 g hg).below hb⟩⟩
/-- One more row. -/
theorem OwnZ.snoc {w w' : World} {B : Nat} {a a' b : Option Addr} {c c' d : Nat} {xss : List (List Int)} {xs : List Int} {A : Nat → Option Addr} {C : Nat → Nat}
    (ho : w.ownsRow B 23 1 (.slice a xss.length c) xss.length (irws xss A C)) (h2 : ∀ i, i < xss.length → Sl w (A i) (ivs (irow xss i)) ∧ ∀ g, ab (A i) = some g → Tg w 3 g)
    (hb : Sl w b (ivs xs)) (hbt : ∀ g, ab b = some g → Tg w 3 g) (hg : w.grownBy w' (ab a)) (ho' : w'.ownsRow B 23 1 (.slice a' (xss.length + 1) c') (xss.length + 1) (irws xss A C ++ [.slice b xs.length d])) : OwnZ w' B a' c' (xss ++ [xs]) := by
  have key : ∀ (b : Option Addr) (vs : List Value), Sl w b vs → (∀ g, ab b = some g → Tg w 3 g) → Sl w' b vs ∧ ∀ g, ab b = some g → Tg w' 3 g := fun b vs h1 h2 =>
    have hne : ∀ g, ab b = some g → ab a ≠ some g := fun g hg e => (h2 g hg).ne (own_tag ho g e) rfl rfl
    ⟨h1.keep hg hne, fun q hq => (h2 q hq).grown hg (hne q hq)⟩
  rw [irws_snoc] at ho'
  refine ⟨_, _, by rw [List.length_append, List.length_singleton]; exact ho', fun i hi => ?_⟩
  rw [List.length_append, List.length_singleton] at hi
  by_cases h : i = xss.length
  · subst h; rw [upd_same, irow_app2]; exact key b _ hb hbt
  · rw [upd_ne _ _ h, irow_app1 (by omega)]; exact key _ _ (h2 i (by omega)).1 (h2 i (by omega)).2
end Go.Proofs.YtejlpdbiacmfcaaGreatDoor
end
section
set_option linter.unusedSimpArgs false
set_option linter.unusedVariables false
set_option maxHeartbeats 1000000
namespace Go.Proofs.YtejlpdbiacmfcaaGreatDoor
open Go Go.Proofs Go.RowKit Go.Lib

/-- Ints of at most this absolute value. -/
def Wthn (l : List Int) (B : Int) : Prop := ∀ x, x ∈ l → -B ≤ x ∧ x ≤ B
instance (l : List Int) (B : Int) : Decidable (Wthn l B) := by unfold Wthn; exact inferInstance
def ratsI (l : List Int) : Nat → Rat := fun i => ((l.getD i 0 : Int) : Rat)
/-- What an estimate is. -/
def EstS (kind n : Int) (noisy : List Int) (zs : List (List UInt8)) (e : Int) : Prop :=
  (strat kind n = [] ∧ zs = [] ∧ e = 2) ∨ (strat kind n ≠ [] ∧ noisy.length ≠ (strat kind n).length ∧ zs = [] ∧ e = 10) ∨
  (strat kind n ≠ [] ∧ noisy.length = (strat kind n).length ∧ ¬ Wthn noisy 1000000000000 ∧ zs = [] ∧ e = 2) ∨
  (strat kind n ≠ [] ∧ noisy.length = (strat kind n).length ∧ Wthn noisy 1000000000000 ∧ SlvS n.toNat (nrm (strat kind n)) (mapp (strat kind n).length (trp (stM (strat kind n))) (ratsI noisy)) zs e)
theorem EstS.uniq {kind n : Int} {noisy : List Int} {zs zs' : List (List UInt8)} {e e' : Int} (h : EstS kind n noisy zs e) (h' : EstS kind n noisy zs' e') : zs = zs' ∧ e = e' := by
  rcases h with ⟨h1, rfl, rfl⟩ | ⟨h1, h2, rfl, rfl⟩ | ⟨h1, h2, h3, rfl, rfl⟩ | ⟨h1, h2, h3, h4⟩ <;>
  rcases h' with ⟨g1, rfl, rfl⟩ | ⟨g1, g2, rfl, rfl⟩ | ⟨g1, g2, g3, rfl, rfl⟩ | ⟨g1, g2, g3, g4⟩ <;>
  first | exact ⟨rfl, rfl⟩ | exact absurd g1 h1 | exact absurd h1 g1 | exact absurd g2 h2 | exact absurd h2 g2 | exact absurd g3 h3 | exact absurd h3 g3 | exact h4.uniq g4
theorem strat_empty {kind : Int} {n : Nat} (h0 : 0 < n) (hn : n ≤ 64) (hk : 0 ≤ kind ∧ kind ≤ 2) : strat kind n ≠ [] := fun e => by
  have := colS_pos (kind := kind) (n := n) (k := 0) hk hn h0
  rw [e] at this
  simp [colS] at this
theorem strat_kind {kind n : Int} (h : strat kind n ≠ []) : (1 ≤ n ∧ n ≤ 64) ∧ 0 ≤ kind ∧ kind ≤ 2 := by
  unfold strat at h
  split at h
  · exact absurd rfl h
  · refine ⟨by omega, ?_⟩
    split at h
    · omega
    · split at h
      · omega
      · split at h
        · omega
        · exact absurd rfl h
end Go.Proofs.YtejlpdbiacmfcaaGreatDoor
end
section
set_option linter.unusedSimpArgs false
set_option linter.unusedVariables false
set_option maxHeartbeats 1000000
namespace Go.Proofs.YtejlpdbiacmfcaaGreatDoor
open Go Go.Proofs Go.RowKit Go.Lib

/-- The blocks before a place. -/
def bpre (n j k : Nat) : List (Nat × Nat) := (List.range j).flatMap (lvl n) ++ (lvl n j).take k
theorem lvl_length (n j : Nat) : (lvl n j).length = cnt n (2 ^ j) := by simp [lvl]
theorem two_pos (j : Nat) : 0 < 2 ^ j := Nat.pow_pos (by omega)
theorem bpre_zero (n : Nat) : bpre n 0 0 = [] := by simp [bpre]
theorem bpre_succ {n j k : Nat} (h : k * 2 ^ j < n) : bpre n j (k + 1) = bpre n j k ++ [(k * 2 ^ j, min n (k * 2 ^ j + 2 ^ j))] := by
  have hc := (cnt_lt (n := n) (two_pos j)).2 h
  unfold bpre
  rw [List.take_succ_eq_append_getElem (by rw [lvl_length]; exact hc), List.append_assoc]
  congr 2
  simp [lvl]
theorem bpre_next {n j k : Nat} (h : ¬ k * 2 ^ j < n) : bpre n j k = bpre n (j + 1) 0 := by
  have hc : ¬ k < cnt n (2 ^ j) := fun h' => h ((cnt_lt (two_pos j)).1 h')
  unfold bpre
  rw [List.take_of_length_le (by rw [lvl_length]; omega), List.range_succ, List.flatMap_append]
  simp
theorem bpre_all (n : Nat) : bpre n (lev n) 0 = blks n := by simp [bpre, blks]
theorem bpre_pre {n j k : Nat} (hj : j < lev n) : ∃ t, blks n = bpre n j k ++ t := by
  have h : blks n = (List.range j).flatMap (lvl n) ++ ((List.range (lev n - j)).map (fun x => j + x)).flatMap (lvl n) := by
    unfold blks
    rw [← List.flatMap_append]
    congr 1
    conv => lhs; rw [show lev n = j + (lev n - j) by omega]
    rw [List.range_add]
  refine ⟨(lvl n j).drop k ++ ((List.range (lev n - (j + 1))).map (fun x => (j + 1) + x)).flatMap (lvl n), ?_⟩
  have h2 : blks n = (List.range (j + 1)).flatMap (lvl n) ++ ((List.range (lev n - (j + 1))).map (fun x => (j + 1) + x)).flatMap (lvl n) := by
    unfold blks
    rw [← List.flatMap_append]
    congr 1
    conv => lhs; rw [show lev n = (j + 1) + (lev n - (j + 1)) by omega]
    rw [List.range_add]
  rw [h2, List.range_succ, List.flatMap_append, bpre]
  simp only [List.flatMap_cons, List.flatMap_nil, List.append_nil, List.append_assoc]
  rw [← List.append_assoc ((lvl n j).take k), List.take_append_drop]
theorem bpre_at {n j k : Nat} (hj : j < lev n) (h : k * 2 ^ j < n) : (blks n)[(bpre n j k).length]? = some (k * 2 ^ j, min n (k * 2 ^ j + 2 ^ j)) := by
  obtain ⟨t, ht⟩ := bpre_pre (n := n) (j := j) (k := k + 1) hj
  rw [ht, bpre_succ h]
  simp
theorem bpre_len {n j k : Nat} (h : k * 2 ^ j < n) : (bpre n j (k + 1)).length = (bpre n j k).length + 1 := by rw [bpre_succ h]; simp
theorem pow_lev {n j : Nat} (hn : 0 < n) (h : n ≤ 64) (hj : j ≤ lev n) : 2 ^ j ≤ 128 ∧ j ≤ 7 := by
  have h7 : lev n ≤ 7 := by
    have h1 := fun h => (lev_lt (n := n) (j := 7) hn).1 h
    by_cases h2 : 7 < lev n
    · have := h1 h2; omega
    · omega
  exact ⟨Nat.le_trans (Nat.pow_le_pow_right (by omega) (show j ≤ 7 by omega)) (by decide), by omega⟩
/-- The tree's rows from the first blocks. -/
def treeTo (n : Nat) (l : List (Nat × Nat)) : List (List Int) := (l.map (blkR n)).foldl addRow []
theorem treeTo_snoc (n : Nat) (l : List (Nat × Nat)) (b : Nat × Nat) : treeTo n (l ++ [b]) = addRow (treeTo n l) (blkR n b) := by simp [treeTo]
theorem tree_to (n : Nat) : tree n = treeTo n (blks n) := rfl
theorem addRow_len (out : List (List Int)) (r : List Int) : (addRow out r).length ≤ out.length + 1 := by unfold addRow; split <;> simp
theorem fold_len : ∀ (l out : List (List Int)), (l.foldl addRow out).length ≤ out.length + l.length
  | [], out => by simp
  | r :: l, out => by
    rw [List.foldl_cons, List.length_cons]
    have h1 := fold_len l (addRow out r)
    have h2 := addRow_len out r
    omega
theorem treeTo_len (n : Nat) (l : List (Nat × Nat)) : (treeTo n l).length ≤ l.length := by
  have := fold_len (l.map (blkR n)) []
  unfold treeTo
  simpa using this
theorem cnt_le (n j : Nat) : cnt n (2 ^ j) ≤ n := by
  by_cases h : 0 < cnt n (2 ^ j)
  · have h1 := (cnt_lt (n := n) (k := cnt n (2 ^ j) - 1) (two_pos j)).1 (by omega)
    have h2 : cnt n (2 ^ j) - 1 ≤ (cnt n (2 ^ j) - 1) * 2 ^ j := Nat.le_mul_of_pos_right _ (two_pos j)
    omega
  · omega
theorem flatm_len {α β : Type} (f : α → List β) (K : Nat) : ∀ l : List α, (∀ x, x ∈ l → (f x).length ≤ K) → (l.flatMap f).length ≤ l.length * K
  | [], _ => by simp
  | x :: l, h => by
    have h1 := h x (by simp)
    have h2 := flatm_len f K l (fun y hy => h y (by simp [hy]))
    rw [List.flatMap_cons, List.length_append, List.length_cons, Nat.succ_mul]
    omega
theorem blks_len {n : Nat} (hn : 0 < n) (h : n ≤ 64) : (blks n).length ≤ 448 := by
  have h1 := (pow_lev hn h (Nat.le_refl (lev n))).2
  have h2 := flatm_len (lvl n) n (List.range (lev n)) (fun j _ => by rw [lvl_length]; exact cnt_le n j)
  unfold blks
  rw [List.length_range] at h2
  have h3 : lev n * n ≤ 7 * 64 := Nat.mul_le_mul h1 h
  omega
/-- A row as it is filled. -/
theorem blkRow_none (n a : Nat) : blkRow n a a = List.replicate n 0 := by
  unfold blkRow
  apply List.ext_getElem?
  intro i
  by_cases h : i < n
  · simp [h] <;> omega
  · simp [h]
theorem blkRow_set {n a i : Nat} (ha : a ≤ i) (hi : i < n) : (blkRow n a i).set i 1 = blkRow n a (i + 1) := by
  apply List.ext_getElem?
  intro k
  by_cases hk : k < n
  · by_cases e : i = k
    · subst e
      rw [List.getElem?_set_self (by rw [blkRow_length]; exact hi)]
      simp [blkRow, hk] <;> omega
    · rw [List.getElem?_set_ne e]
      simp only [blkRow, List.getElem?_map, List.getElem?_range hk, Option.map_some]
      congr 1
      split <;> split <;> first | rfl | omega
  · rw [List.getElem?_eq_none (by rw [List.length_set, blkRow_length]; omega), List.getElem?_eq_none (by rw [blkRow_length]; omega)]
theorem strat_length {kind : Int} {n : Nat} {r : List Int} (hr : r ∈ strat kind n) : r.length = n := by
  obtain ⟨a, b, _, _, rfl⟩ := strat_row hr
  exact blkRow_length _ _ _
theorem strat_bit {kind : Int} {n : Nat} {r : List Int} (hr : r ∈ strat kind n) (k : Nat) : r.getD k 0 = 0 ∨ r.getD k 0 = 1 := by
  obtain ⟨a, b, _, _, rfl⟩ := strat_row hr
  by_cases h : k < n
  · rw [blkRow_get h]; split <;> simp
  · left; simp [List.getD, blkRow, h]
end Go.Proofs.YtejlpdbiacmfcaaGreatDoor
end
section
set_option linter.unusedSimpArgs false
set_option linter.unusedVariables false
set_option maxHeartbeats 2000000
namespace Go.Proofs.YtejlpdbiacmfcaaGreatDoor
open Go Go.Proofs Go.RowKit Go.Lib

/-- A new list of ints. -/
def OwnIL (w : World) (B : Nat) (a : Option Addr) (n c : Nat) (l : List Int) : Prop := w.ownsRow B 3 1 (.slice a n c) n (ivs l)

theorem mrow_calls (n s t : Nat) (hn : n ≤ 1000) (ht : t ≤ n) (hs : s ≤ t) (w : World) :
    Calls Tryz.prog 40 #[.int .i64 (n : Nat), .int .i64 (s : Nat), .int .i64 (t : Nat)] w (Ret fun v w' => (∃ a c, v = .slice a n c ∧ OwnIL w' w.heap.size a n c (blkRow n s t)) ∧ Below w.heap.size w w') := by
  refine enter Tryz.func40 rfl Tryz.ntmps40 (Nat.le_of_ble_eq_true rfl) ?_
  refine dr U 600 rfl trivial ?_
  refine mkn U rfl rfl rfl rfl rfl rfl rfl n rfl rfl (by omega) (by omega) w.heap.size (Nat.le_refl _) ?_
  intro a w1 ho1 hg1
  have hB1 : Below w.heap.size w w1 := (Below.refl _ _).grown hg1 (Nat.le_refl _) (fun k e => by cases e)
  rw [ivs_zero, ← blkRow_none n s] at ho1
  refine dr U 600 rfl trivial ?_
  refine loopR (fun fr w' m => ∃ i : Nat, fr = [(0, .int .i64 (n : Nat)), (1, .int .i64 (s : Nat)), (2, .int .i64 (t : Nat)), (7, .slice a n n), (8, .int .i64 (i : Nat))] ∧ s ≤ i ∧ i ≤ t ∧ OwnIL w' w.heap.size a n n (blkRow n s i) ∧ Below w.heap.size w w' ∧ m = t - i)
    ⟨s, rfl, by omega, by omega, ho1, hB1, rfl⟩ ⟨rfl, rfl, rfl, rfl, rfl, trivial⟩ ?_
  rintro fr w2 m ⟨i, rfl, hsi, hit, ho, hB, rfl⟩
  refine dr U 600 rfl trivial ?_
  refine cS rfl rfl rfl rfl (fun hq => ?_) (fun hq => ?_)
  · have hlt : i < t := by omega
    refine dr U 600 rfl trivial ?_
    refine is U (v := (.int .i64 1)) rfl rfl rfl rfl rfl rfl rfl (fun _ => rfl) (fun _ => rfl) (fun _ => rfl) rfl rfl i rfl (by omega) ho ?_
    intro p w3 ho3 hg3 hs3
    have hB3 := hB.grown hg3 hB.size (fun g e => (own_block ho g e).1)
    rw [ivs_set, blkRow_set hsi (by omega)] at ho3
    refine dr U 600 rfl (by first | exact True.intro | (simp only [AllP, InR, List.nil_append, List.cons_append, and_true]; omega)) ?_
    exact rend _ _ ⟨i + 1, rfl, by omega, by omega, ho3, hB3, rfl⟩ (by omega) ⟨rfl, rfl, rfl, rfl, iv (by omega), trivial⟩
  · obtain rfl : i = t := by omega
    refine dr U 600 rfl trivial ?_
    exact ret Tryz.results40 rfl ⟨_, rfl, ⟨_, _, rfl, ho⟩, hB⟩

theorem wth1_calls (x B : Int) (hB : 0 ≤ B ∧ B ≤ 1000000000000) (b : Nat) (w : World) (hk : Bk w b 3 [.int .i64 B]) :
    Calls Tryz.prog 77 #[.int .i64 x, .pointer (some ⟨b, 0, none⟩)] w (Ret fun v w' => v = .bool (decide (¬ (-B ≤ x ∧ x ≤ B))) ∧ w = w') := by
  refine enter Tryz.func77 rfl Tryz.ntmps77 (Nat.le_of_ble_eq_true rfl) ?_
  refine dr U 600 rfl trivial ?_
  refine ld U rfl rfl rfl rfl ((hk).cell rfl) ?_
  refine dr U 600 rfl (by first | exact True.intro | (simp only [AllP, InR, List.nil_append, List.cons_append, and_true]; omega)) ?_
  refine cS rfl rfl rfl rfl (fun hq => ?_) (fun hq => ?_)
  · refine dr U 600 rfl trivial ?_
    exact ret Tryz.results77 rfl ⟨_, rfl, by rw [decide_eq_true (by omega)]; rfl, rfl⟩
  · refine dr U 600 rfl trivial ?_
    refine ld U rfl rfl rfl rfl ((hk).cell rfl) ?_
    refine cS rfl rfl rfl rfl (fun hq => ?_) (fun hq => ?_)
    · refine dr U 600 rfl trivial ?_
      exact ret Tryz.results77 rfl ⟨_, rfl, by rw [decide_eq_true (by omega)]; rfl, rfl⟩
    · refine dr U 600 rfl trivial ?_
      exact ret Tryz.results77 rfl ⟨_, rfl, by rw [decide_eq_false (by omega)]; rfl, rfl⟩
theorem wthI_calls (l : List Int) (B : Int) (hB : 0 ≤ B ∧ B ≤ 1000000000000) (hl : l.length ≤ 1099511627776) (a : Option Addr) (c b : Nat) (w : World) (hs : Sl w a (ivs l)) (hk : Bk w b 3 [.int .i64 B]) :
    Calls Tryz.prog 111 #[.slice a l.length c, .func (.func 77) ⟨[]⟩ ⟨[.pointer (some ⟨b, 0, none⟩)]⟩] w (Ret fun v w' => ((Wthn l B ∧ v = .int .i64 (-1)) ∨ (¬ Wthn l B ∧ ∃ i : Nat, v = .int .i64 (i : Nat))) ∧ w = w') := by
  refine enter Tryz.func111 rfl Tryz.ntmps111 (Nat.le_of_ble_eq_true rfl) ?_
  refine dr U 600 rfl trivial ?_
  refine loopR (fun fr w' m => ∃ i : Nat, fr = [(0, .slice a l.length c), (1, .func (.func 77) ⟨[]⟩ ⟨[.pointer (some ⟨b, 0, none⟩)]⟩), (7, .int .i64 (l.length : Nat)), (8, .int .i64 (i : Nat))] ∧ i ≤ l.length ∧ (∀ j, j < i → -B ≤ l.getD j 0 ∧ l.getD j 0 ≤ B) ∧ w = w' ∧ m = l.length - i)
    ⟨0, rfl, by omega, fun j hj => absurd hj (by omega), rfl, rfl⟩ ⟨rfl, rfl, rfl, rfl, trivial⟩ ?_
  rintro fr w1 m ⟨i, rfl, hi, hin, rfl, rfl⟩
  refine dr U 600 rfl trivial ?_
  refine cS rfl rfl rfl rfl (fun hq => ?_) (fun hq => ?_)
  · have hil : i < l.length := by omega
    refine dr U 600 rfl trivial ?_
    refine il U rfl rfl rfl rfl rfl rfl rfl (fun _ => rfl) rfl i rfl hil hs (ivs_get hil) ?_
    refine call (f := 77) rfl rfl cb77 (wth1_calls (l.getD i 0) B hB b w hk) ?_
    rintro v w2 ⟨rfl, rfl⟩
    refine ⟨_, rfl, ?_⟩
    by_cases h : -B ≤ l.getD i 0 ∧ l.getD i 0 ≤ B
    · rw [decide_eq_false (fun e => e h)]
      refine dr U 600 rfl (by first | exact True.intro | (simp only [AllP, InR, List.nil_append, List.cons_append, and_true]; omega)) ?_
      refine rend _ _ ⟨i + 1, rfl, by omega, fun j hj => ?_, rfl, rfl⟩ (by omega) ⟨rfl, rfl, rfl, iv (by omega), trivial⟩
      rcases Nat.lt_succ_iff_lt_or_eq.1 hj with h' | rfl
      · exact hin j h'
      · exact h
    · rw [decide_eq_true h]
      refine dr U 600 rfl trivial ?_
      exact ret Tryz.results111 rfl ⟨_, rfl, .inr ⟨fun hw => h (hw _ (by simp [List.getD, hil])), i, rfl⟩, rfl⟩
  · obtain rfl : i = l.length := by omega
    refine dr U 600 rfl trivial ?_
    refine ret Tryz.results111 rfl ⟨_, rfl, .inl ⟨fun x hx => ?_, rfl⟩, rfl⟩
    obtain ⟨j, hj, rfl⟩ := List.getElem_of_mem hx
    have := hin j hj
    simpa [List.getD, hj] using this
theorem wthC_calls (l : List Int) (B : Int) (hB : 0 ≤ B ∧ B ≤ 1000000000000) (hl : l.length ≤ 1099511627776) (a : Option Addr) (c b : Nat) (w : World) (hs : Sl w a (ivs l)) (hk : Bk w b 3 [.int .i64 B]) :
    Calls Tryz.prog 76 #[.slice a l.length c, .func (.func 77) ⟨[]⟩ ⟨[.pointer (some ⟨b, 0, none⟩)]⟩] w (Ret fun v w' => v = .bool (decide (¬ Wthn l B)) ∧ w = w') := by
  refine enter Tryz.func76 rfl Tryz.ntmps76 (Nat.le_of_ble_eq_true rfl) ?_
  refine dr U 600 rfl trivial ?_
  refine call (f := 111) rfl rfl cb111 (wthI_calls l B hB hl a c b w hs hk) ?_
  rintro v w1 ⟨h | h, rfl⟩
  · obtain ⟨h, rfl⟩ := h
    refine ⟨_, rfl, ?_⟩
    refine cF rfl rfl rfl (by omega) ?_
    refine dr U 600 rfl trivial ?_
    exact ret Tryz.results76 rfl ⟨_, rfl, by rw [decide_eq_false (fun e => e h)]; rfl, rfl⟩
  · obtain ⟨h, i, rfl⟩ := h
    refine ⟨_, rfl, ?_⟩
    refine cT rfl rfl rfl (by omega) ?_
    refine dr U 600 rfl trivial ?_
    exact ret Tryz.results76 rfl ⟨_, rfl, by rw [decide_eq_true h]; rfl, rfl⟩
theorem within_calls (l : List Int) (B : Int) (hB : 0 ≤ B ∧ B ≤ 1000000000000) (hl : l.length ≤ 1099511627776) (a : Option Addr) (c : Nat) (w : World) (hs : Sl w a (ivs l)) :
    Calls Tryz.prog 38 #[.slice a l.length c, .int .i64 B] w (Ret fun v w' => v = .bool (decide (Wthn l B)) ∧ Below w.heap.size w w') := by
  refine enter Tryz.func38 rfl Tryz.ntmps38 (Nat.le_of_ble_eq_true rfl) ?_
  refine dr U 600 rfl trivial ?_
  refine bx rfl rfl rfl rfl ?_
  intro b1 wa hb1 hsa hk1 hga
  have hB0 : Below w.heap.size w wa := (Below.refl _ _).grown hga (Nat.le_refl _) (fun k e => by cases e)
  refine dr U 600 rfl trivial ?_
  refine call (f := 76) rfl rfl cb76 (wthC_calls l B hB hl a c b1 wa (hs.stay hB0) hk1) ?_
  rintro v w1 ⟨rfl, rfl⟩
  refine ⟨_, rfl, ?_⟩
  by_cases hw : Wthn l B
  · rw [decide_eq_false (not_not_intro hw), decide_eq_true hw]
    refine dr U 600 rfl trivial ?_
    exact ret Tryz.results38 rfl ⟨_, rfl, rfl, hB0⟩
  · rw [decide_eq_true hw, decide_eq_false hw]
    refine dr U 600 rfl trivial ?_
    exact ret Tryz.results38 rfl ⟨_, rfl, rfl, hB0⟩
end Go.Proofs.YtejlpdbiacmfcaaGreatDoor
end
