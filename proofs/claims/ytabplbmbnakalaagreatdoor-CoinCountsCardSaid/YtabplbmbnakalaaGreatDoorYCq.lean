/-
  Walks of package coin: split, Late, possible, Law; lists of masses.
  Conditions: texts take fewer than 2^40 bytes; the library's table of powers of ten is laid.
-/
import Derived.Test.YtabplbmbnakalaaGreatDoorYCo
import Derived.Test.YtabplbmbnakalaaGreatDoorYBj
set_option linter.unusedSimpArgs false
set_option linter.unusedVariables false
set_option maxHeartbeats 1000000
namespace Go.Proofs.YtabplbmbnakalaaGreatDoor
open Go Go.Proofs Go.RowKit Go.Lib

/-- The error of a law of n bits. -/
def LErr (s : List UInt8) (n : Int) (e : Int) : Prop := (e ≠ 0 ∧ PErr s e) ∨ (PErr s 0 ∧ (n < 0 ∨ 256 < n) ∧ e = 2) ∨ (PErr s 0 ∧ 0 ≤ n ∧ n ≤ 256 ∧ e = 0)
theorem LErr.uniq {s : List UInt8} {n e f : Int} (h : LErr s n e) (h' : LErr s n f) : e = f := by
  rcases h with ⟨h1, h2⟩ | ⟨h1, h2, rfl⟩ | ⟨h1, h2, h3, rfl⟩ <;> rcases h' with ⟨g1, g2⟩ | ⟨g1, g2, rfl⟩ | ⟨g1, g2, g3, rfl⟩ <;> first
    | rfl
    | exact h2.uniq g2
    | exact absurd (h2.uniq g1) h1
    | exact absurd (g2.uniq h1) g1
    | (exfalso; omega)
theorem LErr.ok {s : List UInt8} {n : Int} (h : LErr s n 0) : PErr s 0 ∧ ∃ k : Nat, n = (k : Int) ∧ k ≤ 256 := by
  rcases h with ⟨h, _⟩ | ⟨_, _, h⟩ | ⟨h1, h2, h3, _⟩
  · exact absurd rfl h
  · cases h
  · exact ⟨h1, n.toNat, by omega, by omega⟩
/-- Whether a string of n bits is late. -/
def opn (N D n : Nat) : Nat := if N * 2 ^ n % D = 0 then 0 else 1
def kzero (N D n : Nat) : Nat := 2 ^ n - (N * 2 ^ n / D + opn N D n)
def kone (N D n : Nat) : Nat := N * 2 ^ n / D
theorem kone_le {N D n : Nat} (hD : 0 < D) (h : N ≤ D) : kone N D n + opn N D n ≤ 2 ^ n := by
  unfold kone opn
  have h1 : N * 2 ^ n ≤ 2 ^ n * D := by rw [Nat.mul_comm (2 ^ n)]; exact Nat.mul_le_mul_right _ h
  have hdm := Nat.div_add_mod (N * 2 ^ n) D
  generalize N * 2 ^ n / D = q at *
  generalize N * 2 ^ n % D = r at *
  generalize 2 ^ n = t at *
  rcases Nat.lt_or_ge t q with h2 | h2
  · exfalso
    have : (t + 1) * D ≤ q * D := Nat.mul_le_mul_right D h2
    rw [Nat.succ_mul, Nat.mul_comm q] at this
    omega
  · split
    · omega
    · rename_i hr
      rcases Nat.lt_or_ge q t with h3 | h3
      · omega
      · exfalso
        have : t * D ≤ q * D := Nat.mul_le_mul_right D h3
        rw [Nat.mul_comm q] at this
        omega
theorem opn_le (N D n : Nat) : opn N D n ≤ 1 := by unfold opn; split <;> omega
/-- A share of 2^n as a text. -/
def sh (k n : Nat) : List UInt8 := qtext (mkq false k (2 ^ n))
/-- What split answers. -/
def SplitR (s : List UInt8) (n : Int) (v : Value) : Prop :=
  (∃ e, e ≠ 0 ∧ LErr s n e ∧ v = .tuple ⟨[.string ⟨⟨[]⟩⟩, .string ⟨⟨[]⟩⟩, .string ⟨⟨[]⟩⟩, .int .i64 e]⟩) ∨
  (LErr s n 0 ∧ v = .tuple ⟨[.string ⟨⟨sh (kzero (qN s) (qD s) n.toNat) n.toNat⟩⟩, .string ⟨⟨sh (kone (qN s) (qD s) n.toNat) n.toNat⟩⟩, .string ⟨⟨sh (opn (qN s) (qD s) n.toNat) n.toNat⟩⟩, .int .i64 0]⟩)
theorem split_calls (s : List UInt8) (n : Int) (hs : s.length ≤ 1099511627776) (w : World) (ht : TabOk w) :
    Calls Tryz.prog 29 #[.string ⟨⟨s⟩⟩, .int .i64 n] w (Ret fun v w' => SplitR s n v ∧ Below w.heap.size w w') := by
  refine enter Tryz.func29 rfl Tryz.ntmps29 (Nat.le_of_ble_eq_true rfl) ?_
  refine dr U 600 rfl trivial ?_
  refine call (f := 25) rfl rfl cb25 (parts_calls s hs w) ?_
  rintro v w1 ⟨hr, hB1⟩
  rcases hr with ⟨e, h0, hpe, rfl⟩ | ⟨hp0, rfl⟩
  · refine ⟨_, rfl, ?_⟩
    refine dr U 600 rfl trivial ?_
    refine cT rfl rfl rfl (h0) ?_; refine dr U 600 rfl trivial ?_
    exact ret Tryz.results29 rfl ⟨_, rfl, .inl ⟨e, h0, .inl ⟨h0, hpe⟩, rfl⟩, hB1⟩
  · obtain ⟨hnum, hden, hD0, hle⟩ := hp0.nums
    refine ⟨_, rfl, ?_⟩
    refine dr U 600 rfl trivial ?_
    refine cF rfl rfl rfl ((fun h => h rfl)) ?_; refine dr U 600 rfl trivial ?_
    refine cS rfl rfl rfl rfl (fun hq1 => ?_) (fun hq1 => ?_)
    · refine dr U 600 rfl trivial ?_
      exact ret Tryz.results29 rfl ⟨_, rfl, .inl ⟨2, by decide, .inr (.inl ⟨hp0, .inl hq1, rfl⟩), rfl⟩, hB1⟩
    · refine dr U 600 rfl trivial ?_
      refine cS rfl rfl rfl rfl (fun hq2 => ?_) (fun hq2 => ?_)
      · refine dr U 600 rfl trivial ?_
        exact ret Tryz.results29 rfl ⟨_, rfl, .inl ⟨2, by decide, .inr (.inl ⟨hp0, .inr hq2, rfl⟩), rfl⟩, hB1⟩
      · obtain ⟨k, rfl⟩ : ∃ k : Nat, n = (k : Int) := ⟨n.toNat, by omega⟩
        have hk : k ≤ 256 := by omega
        have ht1 := ht.below hB1
        have h2d := nd_two k hk
        have hko := kone_le (n := k) hD0 hle
        have hkd1 : nDigits (kone (qN s) (qD s) k) ≤ 78 := Nat.le_trans (nD_mono (show kone (qN s) (qD s) k ≤ 2 ^ k by omega)) h2d
        have hkod : nDigits (kone (qN s) (qD s) k + opn (qN s) (qD s) k) ≤ 78 := Nat.le_trans (nD_mono hko) h2d
        have hkd0 : nDigits (kzero (qN s) (qD s) k) ≤ 78 := Nat.le_trans (nD_mono (show kzero (qN s) (qD s) k ≤ 2 ^ k from Nat.sub_le _ _)) h2d
        have hod : nDigits (opn (qN s) (qD s) k) ≤ 1 := by rw [nDigits_small (by have := opn_le (qN s) (qD s) k; omega)]; omega
        have hnm := nD_mul (qN s) (2 ^ k)
        refine dr U 600 rfl trivial ?_
        refine call (f := 59) rfl rfl cb59 (npow_calls two_num (by omega) (by omega) (by omega) w1 ht1) ?_
        rintro v w2 ⟨rfl, hB2'⟩
        refine ⟨_, rfl, ?_⟩
        have hB2 := bl_tr hB1 hB2' hB1.size
        have ht2 := ht1.below hB2'
        refine dr U 600 rfl trivial ?_
        rw [hnum.1]
        refine call (f := 56) rfl rfl cb56 (ctimes_calls (qN s) (2 ^ k) (by have := hnum.2; omega) w2 ht2) ?_
        rintro v w3 ⟨rfl, hB3'⟩
        refine ⟨_, rfl, ?_⟩
        have hB3 := bl_tr hB2 hB3' hB2.size
        have ht3 := ht2.below hB3'
        refine dr U 600 rfl trivial ?_
        refine call (f := 60) rfl rfl cb60 (ndiv_calls (⟨rfl, Nat.le_refl _⟩ : Num _ _ (qN s * 2 ^ k)) hden (by have := hnum.2; omega) (by omega) (Nat.ne_of_gt hD0) w3 ht3) ?_
        rintro v w5 ⟨rfl, hB5'⟩
        refine ⟨_, rfl, ?_⟩
        have hB5 := bl_tr hB3 hB5' hB3.size
        have ht5 := ht3.below hB5'
        rw [show qN s * 2 ^ k / qD s = kone (qN s) (qD s) k from rfl]
        refine dr U 600 rfl trivial ?_
        refine cS rfl rfl rfl rfl (fun hq => ?_) (fun hq => ?_)
        · have hop : opn (qN s) (qD s) k = 1 := by unfold opn; rw [if_neg (fun h => hq (dec_zero.2 h))]
          refine dr U 600 rfl trivial ?_
          rw [show (⟨#[49]⟩ : ByteArray) = ⟨⟨decDigits 1⟩⟩ from by rw [d_one]]
          refine call (f := 57) rfl rfl cb57 (cplus_calls (kone (qN s) (qD s) k) 1 (by omega) (by rw [nDigits_small (by omega)]; omega) w5 ht5) ?_
          rintro v w6 ⟨rfl, hB6'⟩
          refine ⟨_, rfl, ?_⟩
          have hB6 := bl_tr hB5 hB6' hB5.size
          have ht6 := ht5.below hB6'
          rw [show kone (qN s) (qD s) k + 1 = kone (qN s) (qD s) k + opn (qN s) (qD s) k from by rw [hop]]
          refine call (f := 61) rfl rfl cb61 (nsub_calls (⟨rfl, h2d⟩ : Num _ _ (2 ^ k)) (⟨rfl, hkod⟩ : Num _ _ (kone (qN s) (qD s) k + opn (qN s) (qD s) k)) (by omega) (by omega) hko w6 ht6) ?_
          rintro v w7 ⟨rfl, hB7'⟩
          refine ⟨_, rfl, ?_⟩
          have hB7 := bl_tr hB6 hB7' hB6.size
          have ht7 := ht6.below hB7'
          refine dr U 600 rfl trivial ?_
          rw [show 2 ^ k - (kone (qN s) (qD s) k + opn (qN s) (qD s) k) = kzero (qN s) (qD s) k from rfl]
          refine call (f := 62) rfl rfl cb62 (rmake_calls (decDigits (kzero (qN s) (qD s) k)) (decDigits (2 ^ k)) (by rw [decDigits_length]; omega) (by rw [decDigits_length]; omega) w7 ht7) ?_
          rintro v w8 ⟨hm, hB8'⟩
          obtain rfl := make_nat (by omega) (by omega) (Nat.ne_of_gt (Nat.pow_pos (by omega))) hm
          refine ⟨_, rfl, ?_⟩
          have hB8 := bl_tr hB7 hB8' hB7.size
          have ht8 := ht7.below hB8'
          refine dr U 600 rfl trivial ?_
          refine call (f := 62) rfl rfl cb62 (rmake_calls (decDigits (kone (qN s) (qD s) k)) (decDigits (2 ^ k)) (by rw [decDigits_length]; omega) (by rw [decDigits_length]; omega) w8 ht8) ?_
          rintro v w9 ⟨hm, hB9'⟩
          obtain rfl := make_nat (by omega) (by omega) (Nat.ne_of_gt (Nat.pow_pos (by omega))) hm
          refine ⟨_, rfl, ?_⟩
          have hB9 := bl_tr hB8 hB9' hB8.size
          have ht9 := ht8.below hB9'
          refine dr U 600 rfl trivial ?_
          rw [show decDigits 1 = decDigits (opn (qN s) (qD s) k) from by rw [hop]]
          refine call (f := 62) rfl rfl cb62 (rmake_calls (decDigits (opn (qN s) (qD s) k)) (decDigits (2 ^ k)) (by rw [decDigits_length]; omega) (by rw [decDigits_length]; omega) w9 ht9) ?_
          rintro v w10 ⟨hm, hB10'⟩
          obtain rfl := make_nat (by omega) (by omega) (Nat.ne_of_gt (Nat.pow_pos (by omega))) hm
          refine ⟨_, rfl, ?_⟩
          have hB10 := bl_tr hB9 hB10' hB9.size
          have ht10 := ht9.below hB10'
          refine dr U 600 rfl trivial ?_
          exact ret Tryz.results29 rfl ⟨_, rfl, .inr ⟨.inr (.inr ⟨hp0, by omega, by omega, rfl⟩), by rw [Int.toNat_natCast]; rfl⟩, hB10⟩
        · have hop : opn (qN s) (qD s) k = 0 := by unfold opn; rw [if_pos (dec_zero.1 (Classical.not_not.1 hq))]
          refine dr U 600 rfl trivial ?_
          rw [show (⟨#[48]⟩ : ByteArray) = ⟨⟨decDigits 0⟩⟩ from by rw [d_zero]]
          refine call (f := 57) rfl rfl cb57 (cplus_calls (kone (qN s) (qD s) k) 0 (by omega) (by rw [nDigits_small (by omega)]; omega) w5 ht5) ?_
          rintro v w6 ⟨rfl, hB6'⟩
          refine ⟨_, rfl, ?_⟩
          have hB6 := bl_tr hB5 hB6' hB5.size
          have ht6 := ht5.below hB6'
          rw [show kone (qN s) (qD s) k + 0 = kone (qN s) (qD s) k + opn (qN s) (qD s) k from by rw [hop]]
          refine call (f := 61) rfl rfl cb61 (nsub_calls (⟨rfl, h2d⟩ : Num _ _ (2 ^ k)) (⟨rfl, hkod⟩ : Num _ _ (kone (qN s) (qD s) k + opn (qN s) (qD s) k)) (by omega) (by omega) hko w6 ht6) ?_
          rintro v w7 ⟨rfl, hB7'⟩
          refine ⟨_, rfl, ?_⟩
          have hB7 := bl_tr hB6 hB7' hB6.size
          have ht7 := ht6.below hB7'
          refine dr U 600 rfl trivial ?_
          rw [show 2 ^ k - (kone (qN s) (qD s) k + opn (qN s) (qD s) k) = kzero (qN s) (qD s) k from rfl]
          refine call (f := 62) rfl rfl cb62 (rmake_calls (decDigits (kzero (qN s) (qD s) k)) (decDigits (2 ^ k)) (by rw [decDigits_length]; omega) (by rw [decDigits_length]; omega) w7 ht7) ?_
          rintro v w8 ⟨hm, hB8'⟩
          obtain rfl := make_nat (by omega) (by omega) (Nat.ne_of_gt (Nat.pow_pos (by omega))) hm
          refine ⟨_, rfl, ?_⟩
          have hB8 := bl_tr hB7 hB8' hB7.size
          have ht8 := ht7.below hB8'
          refine dr U 600 rfl trivial ?_
          refine call (f := 62) rfl rfl cb62 (rmake_calls (decDigits (kone (qN s) (qD s) k)) (decDigits (2 ^ k)) (by rw [decDigits_length]; omega) (by rw [decDigits_length]; omega) w8 ht8) ?_
          rintro v w9 ⟨hm, hB9'⟩
          obtain rfl := make_nat (by omega) (by omega) (Nat.ne_of_gt (Nat.pow_pos (by omega))) hm
          refine ⟨_, rfl, ?_⟩
          have hB9 := bl_tr hB8 hB9' hB8.size
          have ht9 := ht8.below hB9'
          refine dr U 600 rfl trivial ?_
          rw [show decDigits 0 = decDigits (opn (qN s) (qD s) k) from by rw [hop]]
          refine call (f := 62) rfl rfl cb62 (rmake_calls (decDigits (opn (qN s) (qD s) k)) (decDigits (2 ^ k)) (by rw [decDigits_length]; omega) (by rw [decDigits_length]; omega) w9 ht9) ?_
          rintro v w10 ⟨hm, hB10'⟩
          obtain rfl := make_nat (by omega) (by omega) (Nat.ne_of_gt (Nat.pow_pos (by omega))) hm
          refine ⟨_, rfl, ?_⟩
          have hB10 := bl_tr hB9 hB10' hB9.size
          have ht10 := ht9.below hB10'
          refine dr U 600 rfl trivial ?_
          exact ret Tryz.results29 rfl ⟨_, rfl, .inr ⟨.inr (.inr ⟨hp0, by omega, by omega, rfl⟩), by rw [Int.toNat_natCast]; rfl⟩, hB10⟩

/-- What Late answers. -/
def LateR (s : List UInt8) (n : Int) (v : Value) : Prop :=
  (∃ e, e ≠ 0 ∧ LErr s n e ∧ v = .tuple ⟨[.string ⟨⟨[]⟩⟩, .int .i64 e]⟩) ∨ (LErr s n 0 ∧ v = .tuple ⟨[.string ⟨⟨sh (opn (qN s) (qD s) n.toNat) n.toNat⟩⟩, .int .i64 0]⟩)
theorem LateR.uniq {s : List UInt8} {n : Int} {v v' : Value} (h : LateR s n v) (h' : LateR s n v') : v = v' := by
  rcases h with ⟨e, h1, h2, rfl⟩ | ⟨h1, rfl⟩ <;> rcases h' with ⟨f, g1, g2, rfl⟩ | ⟨g1, rfl⟩
  · rw [h2.uniq g2]
  · exact absurd (h2.uniq g1) h1
  · exact absurd (g2.uniq h1) g1
  · rfl
theorem LateR.te {s : List UInt8} {n : Int} {v : Value} (h : LateR s n v) : ∃ x e, v = .tuple ⟨[.string ⟨⟨x⟩⟩, .int .i64 e]⟩ := by
  rcases h with ⟨e, _, _, rfl⟩ | ⟨_, rfl⟩ <;> exact ⟨_, _, rfl⟩
theorem late_calls (s : List UInt8) (n : Int) (hs : s.length ≤ 1099511627776) (w : World) (ht : TabOk w) :
    Calls Tryz.prog 10 #[.string ⟨⟨s⟩⟩, .int .i64 n] w (Ret fun v w' => LateR s n v ∧ Below w.heap.size w w') := by
  refine enter Tryz.func10 rfl Tryz.ntmps10 (Nat.le_of_ble_eq_true rfl) ?_
  refine dr U 600 rfl trivial ?_
  refine call (f := 29) rfl rfl cb29 (split_calls s n hs w ht) ?_
  rintro v w1 ⟨hr, hB1⟩
  rcases hr with ⟨e, h0, hle, rfl⟩ | ⟨hl, rfl⟩
  · refine ⟨_, rfl, ?_⟩
    refine dr U 600 rfl trivial ?_
    exact ret Tryz.results10 rfl ⟨_, rfl, .inl ⟨e, h0, hle, rfl⟩, hB1⟩
  · refine ⟨_, rfl, ?_⟩
    refine dr U 600 rfl trivial ?_
    exact ret Tryz.results10 rfl ⟨_, rfl, .inr ⟨hl, rfl⟩, hB1⟩

/-- The cells of masses. -/
def mcells : List (List UInt8 × List UInt8) → List Value
  | [] => []
  | m :: r => .string ⟨⟨m.1⟩⟩ :: .string ⟨⟨m.2⟩⟩ :: mcells r
theorem mcells_length : ∀ ms, (mcells ms).length = ms.length * 2
  | [] => rfl
  | m :: r => by rw [mcells, List.length_cons, List.length_cons, mcells_length r, List.length_cons]; omega
theorem mcells_append : ∀ a b, mcells (a ++ b) = mcells a ++ mcells b
  | [], b => rfl
  | m :: r, b => by rw [List.cons_append, mcells, mcells, mcells_append r b]; rfl
theorem mcells_at : ∀ (ms : List (List UInt8 × List UInt8)) (j : Nat) (hj : j < ms.length) (i : Nat) (v : Value), [Value.string ⟨⟨ms[j].1⟩⟩, Value.string ⟨⟨ms[j].2⟩⟩][i]? = some v → (mcells ms)[j * 2 + i]? = some v
  | m :: r, 0, _, 0, v, h => by simpa [mcells] using h
  | m :: r, 0, _, 1, v, h => by simpa [mcells] using h
  | m :: r, 0, _, i + 2, v, h => by simp at h
  | m :: r, j + 1, hj, i, v, h => by
    rw [mcells, show (j + 1) * 2 + i = (j * 2 + i) + 2 by omega]
    exact mcells_at r j (by simpa using hj) i v (by simpa using h)
def fl (ms : List (List UInt8 × List UInt8)) : List (List UInt8 × List UInt8) := ms.filter fun m => m.2 != [48]
theorem fl_take {ms : List (List UInt8 × List UInt8)} {i : Nat} (h : i < ms.length) : fl (ms.take (i + 1)) = fl (ms.take i) ++ (if ms[i].2 = [48] then [] else [ms[i]]) := by
  unfold fl
  rw [List.take_succ_eq_append_getElem h, List.filter_append]
  congr 1
  by_cases h0 : ms[i].2 = [48]
  · rw [if_pos h0]; simp [h0]
  · rw [if_neg h0]; simp [h0]
theorem ag_mass : AggOk Tryz.prog 40 2 := ⟨⟨_, Tryz.underlying40⟩, inf40.sz⟩
theorem own_sl' {w : World} {base e s : Nat} {a : Option Addr} {m c : Nat} {cs : List Value} (hs : 0 < s) (h : w.ownsRow base e s (.slice a m c) m cs) : Sl w a cs := by
  intro j v hv
  rcases h.2 with ⟨h1, h2⟩ | ⟨g, cap, cur, h1, _, hg, _⟩
  · have h3 := h.1
    rw [h2, Nat.zero_mul] at h3
    rw [List.eq_nil_of_length_eq_zero h3] at hv; simp at hv
  · simp at h1; obtain ⟨rfl, rfl⟩ := h1
    have := h.cells (g := g) rfl j v hv
    rw [add_plain] at this
    exact ⟨g, 0, rfl, this⟩

theorem possible_calls (ms : List (List UInt8 × List UInt8)) (a : Option Addr) (c : Nat) (w : World) (hs : Sl w a (mcells ms)) (hl : ms.length ≤ 1000000) :
    Calls Tryz.prog 30 #[.slice a ms.length c] w
      (Ret fun v w' => (∃ a' c', v = .slice a' (fl ms).length c' ∧ Sl w' a' (mcells (fl ms))) ∧ Below w.heap.size w w') := by
  refine enter Tryz.func30 rfl Tryz.ntmps30 (Nat.le_of_ble_eq_true rfl) ?_
  refine dr U 600 rfl trivial ?_
  refine loopR (fun f w' m => ∃ (i : Nat) (a2 : Option Addr) (c2 : Nat), f = [(3, .slice a2 (fl (ms.take i)).length c2), (6, .slice a ms.length c), (7, .int .i64 (ms.length : Nat)), (8, .int .i64 (i : Nat))] ∧ i ≤ ms.length ∧
      w'.ownsRow w.heap.size 40 2 (.slice a2 (fl (ms.take i)).length c2) (fl (ms.take i)).length (mcells (fl (ms.take i))) ∧ Below w.heap.size w w' ∧ m = ms.length - i)
    ⟨0, none, 0, rfl, by omega, ⟨rfl, .inl ⟨rfl, rfl⟩⟩, Below.refl _ _, rfl⟩ ⟨rfl, rfl, rfl, rfl, trivial⟩ ?_
  rintro f w1 m ⟨i, a2, c2, rfl, hi, ho, hB, rfl⟩
  refine dr U 600 rfl trivial ?_
  refine cS rfl rfl rfl rfl (fun hq => ?_) (fun hq => ?_)
  · have hil : i < ms.length := by omega
    have hft := fl_take hil
    have hfl : (fl (ms.take i)).length ≤ i := Nat.le_trans (List.length_filter_le _ _) (by rw [List.length_take]; omega)
    refine dr U 600 rfl trivial ?_
    refine ig U rfl rfl rfl rfl ag_mass rfl rfl (fun _ => rfl) rfl i rfl hil (hs.stay hB) (mcells_at ms i hil) rfl (by decide) ?_
    refine al U rfl rfl rfl rfl ?_
    intro b5 w2 hb5 hs2 hk5 hg2
    have hB2 := hB.grown hg2 hB.size (fun k e => by cases e)
    have hbs := hB.size
    have ho2 := own_keep ho hg2 (by intro g e h; cases h)
    have hb5a : ∀ g, ab a2 = some g → g < b5 := fun g e => by have := (own_block ho g e).2; omega
    refine dr U 600 rfl trivial ?_
    refine st U rfl rfl rfl rfl rfl rfl rfl rfl rfl rfl (hk5) ?_
    intro w3 hk5 hg3 hs3
    have hB3 := hB2.grown hg3 hB2.size (fun k e => by cases e; omega)
    have ho3 := own_keep ho2 hg3 (by intro g e h; cases h; have := hb5a _ e; omega)
    refine dr U 600 rfl trivial ?_
    refine ld U rfl rfl rfl rfl ((hk5).cell rfl) ?_
    refine cS rfl rfl rfl rfl (fun hq => ?_) (fun hq => ?_)
    · rw [if_neg hq] at hft
      refine dr U 600 rfl trivial ?_
      refine lg rfl ag_mass rfl rfl hk5 rfl ?_
      refine aps U rfl rfl rfl rfl rfl rfl rfl rfl (fun _ => rfl) rfl (fun _ => rfl) rfl rfl rfl ho3 hB3.size (by omega) rfl ?_
      intro a4 c4 w4 ho4 hg4
      have hB4 := hB3.grown hg4 hB3.size (fun g e => (own_block ho3 g e).1)
      refine dr U 600 rfl (by first | exact True.intro | (simp only [AllP, InR, List.nil_append, List.cons_append, and_true]; omega)) ?_
      have hlen : (fl (ms.take (i + 1))).length = (fl (ms.take i)).length + 1 := by rw [hft]; simp
      have hcs : mcells (fl (ms.take (i + 1))) = mcells (fl (ms.take i)) ++ [.string ⟨⟨ms[i].1⟩⟩, .string ⟨⟨ms[i].2⟩⟩] := by rw [hft, mcells_append]; rfl
      refine rend _ _ ⟨i + 1, a4, c4, rfl, by omega, by rw [hlen, hcs]; exact ho4, hB4, rfl⟩ (by omega) ⟨by rw [hlen]; rfl, rfl, rfl, iv (by omega), trivial⟩
    · rw [if_pos (Classical.not_not.1 hq), List.append_nil] at hft
      refine dr U 600 rfl (by first | exact True.intro | (simp only [AllP, InR, List.nil_append, List.cons_append, and_true]; omega)) ?_
      refine rend _ _ ⟨i + 1, a2, c2, rfl, by omega, by rw [hft]; exact ho3, hB3, rfl⟩ (by omega) ⟨by rw [hft]; rfl, rfl, rfl, iv (by omega), trivial⟩
  · obtain rfl : i = ms.length := by omega
    rw [List.take_length] at ho
    simp only [List.take_length]
    refine dr U 600 rfl trivial ?_
    exact ret Tryz.results30 rfl ⟨_, rfl, ⟨a2, c2, rfl, own_sl' (by decide) ho⟩, hB⟩

/-- The law as a list. -/
def lawl (N D n : Nat) : List (List UInt8 × List UInt8) := [([48], sh (kzero N D n) n), ([49], sh (kone N D n) n), ([108, 97, 116, 101], sh (opn N D n) n)]
/-- What Law answers. -/
def LawR (s : List UInt8) (n : Int) (v : Value) (w : World) : Prop :=
  (∃ e, e ≠ 0 ∧ LErr s n e ∧ v = .tuple ⟨[.slice none 0 0, .int .i64 e]⟩) ∨
  (LErr s n 0 ∧ ∃ a c, v = .tuple ⟨[.slice a (fl (lawl (qN s) (qD s) n.toNat)).length c, .int .i64 0]⟩ ∧ Sl w a (mcells (fl (lawl (qN s) (qD s) n.toNat))))
theorem LawR.list {s : List UInt8} {n : Int} {v : Value} {w : World} (h : LawR s n v w) : ∃ a c ms e, v = .tuple ⟨[.slice a (List.length ms) c, .int .i64 e]⟩ ∧ Sl w a (mcells ms) ∧ ms.length ≤ 3 ∧ LErr s n e ∧
    ∀ v' w', LawR s n v' w' → ∃ a' c', v' = .tuple ⟨[.slice a' (List.length ms) c', .int .i64 e]⟩ ∧ Sl w' a' (mcells ms) := by
  rcases h with ⟨e, h1, h2, rfl⟩ | ⟨h1, a, c, rfl, h2⟩
  · refine ⟨none, 0, [], e, rfl, Sl.nil _ _, Nat.zero_le _, h2, fun v' w' h => ?_⟩
    rcases h with ⟨f, g1, g2, rfl⟩ | ⟨g1, _⟩
    · rw [h2.uniq g2]; exact ⟨none, 0, rfl, Sl.nil _ _⟩
    · exact absurd (h2.uniq g1) h1
  · refine ⟨a, c, _, 0, rfl, h2, List.length_filter_le _ _, h1, fun v' w' h => ?_⟩
    rcases h with ⟨f, g1, g2, rfl⟩ | ⟨g1, a', c', rfl, g2⟩
    · exact absurd (g2.uniq h1) g1
    · exact ⟨a', c', rfl, g2⟩
theorem law_calls (s : List UInt8) (n : Int) (hs : s.length ≤ 1099511627776) (w : World) (ht : TabOk w) :
    Calls Tryz.prog 11 #[.string ⟨⟨s⟩⟩, .int .i64 n] w (Ret fun v w' => LawR s n v w' ∧ Below w.heap.size w w') := by
  refine enter Tryz.func11 rfl Tryz.ntmps11 (Nat.le_of_ble_eq_true rfl) ?_
  refine dr U 600 rfl trivial ?_
  refine call (f := 29) rfl rfl cb29 (split_calls s n hs w ht) ?_
  rintro v w1 ⟨hr, hB1⟩
  rcases hr with ⟨e, h0, hle, rfl⟩ | ⟨hl, rfl⟩
  · refine ⟨_, rfl, ?_⟩
    refine dr U 600 rfl trivial ?_
    refine cT rfl rfl rfl (h0) ?_; refine dr U 600 rfl trivial ?_
    exact ret Tryz.results11 rfl ⟨_, rfl, .inl ⟨e, h0, hle, rfl⟩, hB1⟩
  · refine ⟨_, rfl, ?_⟩
    refine dr U 600 rfl trivial ?_
    refine cF rfl rfl rfl ((fun h => h rfl)) ?_; refine dr U 600 rfl trivial ?_
    refine bsS U [[.string ⟨⟨[48]⟩⟩, .string ⟨⟨sh (kzero (qN s) (qD s) n.toNat) n.toNat⟩⟩], [.string ⟨⟨[49]⟩⟩, .string ⟨⟨sh (kone (qN s) (qD s) n.toNat) n.toNat⟩⟩], [.string ⟨⟨[108, 97, 116, 101]⟩⟩, .string ⟨⟨sh (opn (qN s) (qD s) n.toNat) n.toNat⟩⟩]] rfl rfl rfl rfl rfl rfl (by decide) (by decide) (by intro cs h; simp at h; rcases h with rfl | rfl | rfl <;> rfl) ?_
    intro w2 hk2 hs2 hg2
    have hB2 := hB1.grown hg2 hB1.size (fun k e => by cases e)
    refine call (f := 30) rfl rfl cb30 (possible_calls (lawl (qN s) (qD s) n.toNat) (some ⟨w1.heap.size, 0, none⟩) 3 w2 (hk2.sl 0) (by show 3 ≤ 1000000; decide)) ?_
    rintro v w3 ⟨⟨a3, c3, rfl, hs3⟩, hB3⟩
    refine ⟨_, rfl, ?_⟩
    refine dr U 600 rfl trivial ?_
    exact ret Tryz.results11 rfl ⟨_, rfl, .inr ⟨hl, a3, c3, rfl, hs3⟩, bl_tr hB2 hB3 hB2.size⟩
end Go.Proofs.YtabplbmbnakalaaGreatDoor
