/-
  Walks of the laws NatPowers and NatCalls: they return true.
  Conditions: texts are no longer than an int can tell; the library's table of powers of ten is laid, and its error of range.

  Walk of the law NatInts: it returns true.
  Conditions: the library's table of powers of ten is laid, and its error of range.

  Walk of the law NatNames: it returns true.
  Conditions: the library's table of powers of ten is laid, and its error of range.
-/
import Derived.Test.YtnohojjjfconfaaGreatDoorYRng
import Derived.Test.YtnohojjjfconfaaGreatDoorYNatE
import Derived.Test.YtnohojjjfconfaaGreatDoorYSum
import Derived.Test.YtnohojjjfconfaaGreatDoorYPick
section
set_option linter.unusedSimpArgs false
set_option linter.unusedVariables false
set_option maxHeartbeats 2000000
namespace Go.Proofs.YtnohojjjfconfaaGreatDoor
open Go Go.Proofs Go.RowKit Go.Lib

theorem light_calls (xs : List (List UInt8)) (b : Nat) (w : World) (hs : Sl w (some ⟨b, 0, none⟩) (xs.map fun x => .string ⟨⟨x⟩⟩)) (hx : ∀ x ∈ xs, x.length ≤ 9223372036854775806) (hl : xs.length ≤ 1000) :
    Calls Tryz.prog 8 #[.slice (some ⟨b, 0, none⟩) xs.length xs.length] w (Ret fun v w' => (∃ bb, v = .bool bb ∧ (bb = true → ∀ x ∈ xs, x.length ≤ 4100)) ∧ w = w') := by
  refine enter Tryz.func8 rfl Tryz.ntmps8 (Nat.le_of_ble_eq_true rfl) ?_
  refine dr U 600 rfl trivial ?_
  refine loopR (fun l' w' m => ∃ i : Nat, l' = [(0, .slice (some ⟨b, 0, none⟩) xs.length xs.length), (3, .int .i64 (i : Nat))] ∧ i ≤ xs.length ∧ (∀ x ∈ xs.take i, x.length ≤ 4100) ∧ w = w' ∧ m = xs.length - i) ⟨0, rfl, by omega, by simp, rfl, rfl⟩ ⟨rfl, rfl, trivial⟩ ?_
  rintro l' w1 m ⟨i, rfl, hi, hd, rfl, rfl⟩
  refine dr U 600 rfl trivial ?_
  refine cS rfl rfl rfl rfl (fun hq => ?_) (fun hq => ?_)
  · have hi' : i < xs.length := by omega
    have htk : xs.take (i + 1) = xs.take i ++ [xs[i]] := by rw [List.take_succ_eq_append_getElem hi']
    have hget : (xs.map fun x => Value.string ⟨⟨x⟩⟩)[i]? = some (.string ⟨⟨xs[i]⟩⟩) := by simp [hi']
    have hxl := hx _ (List.getElem_mem hi')
    generalize hxx : xs[i] = x at *
    refine dr U 600 rfl trivial ?_
    refine il U rfl rfl rfl rfl rfl rfl rfl (fun _ => rfl) rfl i (by omega) (by omega) hs hget ?_
    refine dr U 600 rfl trivial ?_
    refine cS rfl rfl rfl rfl (fun hq => ?_) (fun hq => ?_)
    · refine dr U 600 rfl trivial ?_
      exact ret Tryz.results8 rfl ⟨_, rfl, ⟨false, rfl, fun h => (by cases h)⟩, rfl⟩
    · refine dr U 600 rfl (by first | exact True.intro | (simp only [AllP, InR, List.nil_append, List.cons_append, and_true]; omega)) ?_
      refine rend _ _ ⟨i + 1, rfl, by omega, fun c hc2 => ?_, rfl, rfl⟩ (by omega) ⟨rfl, iv (by omega), trivial⟩
      rw [htk] at hc2
      rcases List.mem_append.1 hc2 with hc2 | hc2
      · exact hd c hc2
      · rw [List.mem_singleton.1 hc2]; omega
  · obtain rfl : i = xs.length := by omega
    rw [List.take_length] at hd
    refine dr U 600 rfl trivial ?_
    exact ret Tryz.results8 rfl ⟨_, rfl, ⟨true, rfl, fun _ => hd⟩, rfl⟩

/-! Results are what they are. -/
theorem chk_uniq {x : List UInt8} {e e' : Int} (h : Chk x e) (h' : Chk x e') : e = e' := by
  rcases h with ⟨h1, h2, rfl⟩ | ⟨h1, h2, rfl⟩ | ⟨h1, rfl⟩ <;> rcases h' with ⟨h3, h4, rfl⟩ | ⟨h3, h4, rfl⟩ | ⟨h3, rfl⟩ <;> first | rfl | (exfalso; omega) | (exact absurd h1 h3) | (exact absurd h3 h1)
theorem chk2_uniq {x y : List UInt8} {e e' : Int} (h : Chk2 x y e) (h' : Chk2 x y e') : e = e' := by
  obtain ⟨a, b, h1, h2, rfl⟩ := h
  obtain ⟨c, d, h3, h4, rfl⟩ := h'
  rw [chk_uniq h1 h3, chk_uniq h2 h4]
def Tup2 (v : Value) : Prop := ∃ (s : List UInt8) (e : Int), v = .tuple ⟨[.string ⟨⟨s⟩⟩, .int .i64 e]⟩
def Tup3 (v : Value) : Prop := ∃ (s t : List UInt8) (e : Int), v = .tuple ⟨[.string ⟨⟨s⟩⟩, .string ⟨⟨t⟩⟩, .int .i64 e]⟩
def TupI (v : Value) : Prop := ∃ (s e : Int), v = .tuple ⟨[.int .i64 s, .int .i64 e]⟩
theorem Res.t2 {n : Nat} {v : Value} (h : Res n v) : Tup2 v := by
  rcases h with ⟨_, rfl⟩ | ⟨_, rfl⟩ <;> exact ⟨_, _, rfl⟩
theorem Res.uniq {n : Nat} {v v' : Value} (h : Res n v) (h' : Res n v') : v = v' := by
  rcases h with ⟨h1, rfl⟩ | ⟨h1, rfl⟩ <;> rcases h' with ⟨h2, rfl⟩ | ⟨h2, rfl⟩ <;> first | rfl | (exfalso; omega)
theorem Out.t2 {x y : List UInt8} {n : Nat} {v : Value} (h : Out x y n v) : Tup2 v := by
  rcases h with ⟨e, _, _, rfl⟩ | ⟨_, h⟩
  · exact ⟨_, _, rfl⟩
  · exact h.t2
theorem Out.uniq {x y : List UInt8} {n : Nat} {v v' : Value} (h : Out x y n v) (h' : Out x y n v') : v = v' := by
  rcases h with ⟨e, h0, h1, rfl⟩ | ⟨h1, h2⟩ <;> rcases h' with ⟨e', h0', h3, rfl⟩ | ⟨h3, h4⟩
  · rw [chk2_uniq h1 h3]
  · exact absurd (chk2_uniq h1 h3) h0
  · exact absurd (chk2_uniq h3 h1) h0'
  · exact h2.uniq h4
theorem OutS.t2 {x y : List UInt8} {v : Value} (h : OutS x y v) : Tup2 v := by
  rcases h with ⟨e, _, _, rfl⟩ | ⟨_, ⟨_, rfl⟩ | ⟨_, h⟩⟩
  · exact ⟨_, _, rfl⟩
  · exact ⟨_, _, rfl⟩
  · exact h.t2
theorem OutS.uniq {x y : List UInt8} {v v' : Value} (h : OutS x y v) (h' : OutS x y v') : v = v' := by
  rcases h with ⟨e, h0, h1, rfl⟩ | ⟨h1, h2⟩ <;> rcases h' with ⟨e', h0', h3, rfl⟩ | ⟨h3, h4⟩
  · rw [chk2_uniq h1 h3]
  · exact absurd (chk2_uniq h1 h3) h0
  · exact absurd (chk2_uniq h3 h1) h0'
  · rcases h2 with ⟨h5, rfl⟩ | ⟨h5, h6⟩ <;> rcases h4 with ⟨h7, rfl⟩ | ⟨h7, h8⟩
    · rfl
    · omega
    · omega
    · exact h6.uniq h8
theorem OutD.t3 {x y : List UInt8} {v : Value} (h : OutD x y v) : Tup3 v := by
  rcases h with ⟨e, _, _, rfl⟩ | ⟨_, _, rfl⟩ | ⟨_, _, rfl⟩ <;> exact ⟨_, _, _, rfl⟩
theorem OutD.uniq {x y : List UInt8} {v v' : Value} (h : OutD x y v) (h' : OutD x y v') : v = v' := by
  rcases h with ⟨e, h0, h1, rfl⟩ | ⟨h1, h2, rfl⟩ | ⟨h1, h2, rfl⟩ <;> rcases h' with ⟨e', h0', h3, rfl⟩ | ⟨h3, h4, rfl⟩ | ⟨h3, h4, rfl⟩ <;> first
    | rfl
    | (rw [chk2_uniq h1 h3]; done)
    | exact absurd (chk2_uniq h1 h3) h0
    | exact absurd (chk2_uniq h3 h1) h0'
    | exact absurd h2 h4
    | exact absurd h4 h2
theorem OutP.t2 {x : List UInt8} {n : Int} {v : Value} (h : OutP x n v) : Tup2 v := by
  rcases h with ⟨e, _, _, rfl⟩ | ⟨_, _, rfl⟩ | ⟨_, _, h⟩
  · exact ⟨_, _, rfl⟩
  · exact ⟨_, _, rfl⟩
  · exact h.t2
theorem OutP.uniq {x : List UInt8} {n : Int} {v v' : Value} (h : OutP x n v) (h' : OutP x n v') : v = v' := by
  rcases h with ⟨e, h0, h1, rfl⟩ | ⟨h1, h2, rfl⟩ | ⟨h1, h2, h5⟩ <;> rcases h' with ⟨e', h0', h3, rfl⟩ | ⟨h3, h4, rfl⟩ | ⟨h3, h4, h6⟩ <;> first
    | rfl
    | (rw [chk_uniq h1 h3]; done)
    | exact absurd (chk_uniq h1 h3) h0
    | exact absurd (chk_uniq h3 h1) h0'
    | (exfalso; omega)
    | exact h5.uniq h6
theorem OutF.t2 {n : Int} {v : Value} (h : OutF n v) : Tup2 v := by
  rcases h with ⟨_, rfl⟩ | ⟨_, rfl⟩ <;> exact ⟨_, _, rfl⟩
theorem OutF.uniq {n : Int} {v v' : Value} (h : OutF n v) (h' : OutF n v') : v = v' := by
  rcases h with ⟨h1, rfl⟩ | ⟨h1, rfl⟩ <;> rcases h' with ⟨h2, rfl⟩ | ⟨h2, rfl⟩ <;> first | rfl | (exfalso; omega)
theorem OutT.t {x : List UInt8} {v : Value} (h : OutT x v) : TupI v := by
  rcases h with ⟨e, _, _, rfl⟩ | ⟨_, _, rfl⟩ | ⟨_, _, rfl⟩ <;> exact ⟨_, _, rfl⟩
theorem OutT.uniq {x : List UInt8} {v v' : Value} (h : OutT x v) (h' : OutT x v') : v = v' := by
  rcases h with ⟨e, h0, h1, rfl⟩ | ⟨h1, h2, rfl⟩ | ⟨h1, h2, rfl⟩ <;> rcases h' with ⟨e', h0', h3, rfl⟩ | ⟨h3, h4, rfl⟩ | ⟨h3, h4, rfl⟩ <;> first
    | rfl
    | (rw [chk_uniq h1 h3]; done)
    | exact absurd (chk_uniq h1 h3) h0
    | exact absurd (chk_uniq h3 h1) h0'
    | (exfalso; omega)
theorem OutB.t {x : List UInt8} {v : Value} (h : OutB x v) : TupI v := by
  rcases h with ⟨e, _, _, rfl⟩ | ⟨_, rfl⟩ <;> exact ⟨_, _, rfl⟩
theorem OutB.uniq {x : List UInt8} {v v' : Value} (h : OutB x v) (h' : OutB x v') : v = v' := by
  rcases h with ⟨e, h0, h1, rfl⟩ | ⟨h1, rfl⟩ <;> rcases h' with ⟨e', h0', h3, rfl⟩ | ⟨h3, rfl⟩ <;> first
    | rfl
    | (rw [chk_uniq h1 h3]; done)
    | exact absurd (chk_uniq h1 h3) h0
    | exact absurd (chk_uniq h3 h1) h0'


theorem natPowers_calls (x : List UInt8) (n m : Int) (hx : x.length ≤ 9223372036854775806) (hn : -9223372036854775808 ≤ n ∧ n ≤ 9223372036854775807) (hm : -9223372036854775808 ≤ m ∧ m ≤ 9223372036854775807) (w0 : World) (ht0 : TabOk w0) :
    Calls Tryz.prog 3 #[.string ⟨⟨x⟩⟩, .int .i64 n, .int .i64 m] w0 (Ret fun v w' => v = .bool true ∧ Below w0.heap.size w0 w') := by
  have hW0 := Below.refl w0.heap.size w0
  refine enter Tryz.func3 rfl Tryz.ntmps3 (Nat.le_of_ble_eq_true rfl) ?_
  refine dr U 600 rfl trivial ?_
  refine call (f := 7) rfl rfl cb7 (lives_calls w0 ht0) ?_; rintro v w1 ⟨rfl, hB1⟩; refine ⟨_, rfl, ?_⟩; have ht1 := ht0.below hB1; have hW1 := bl_tr hW0 hB1 hW0.size; refine dr U 600 rfl trivial ?_
  refine bs1 U (v := .string ⟨⟨x⟩⟩) rfl rfl rfl rfl rfl rfl rfl ?_
  intro w2 hk hs2 hg2
  have hW2 := hW1.grown hg2 hW1.size (fun k e => by cases e)
  have ht2 := ht0.below hW2
  refine call (f := 8) rfl rfl cb8 (light_calls [x] w1.heap.size w2 (hk.sl 0) (by simp; exact hx) (by simp)) ?_
  rintro v w3 ⟨⟨bb, rfl, hbb⟩, rfl⟩
  refine ⟨_, rfl, ?_⟩
  cases bb with
  | false =>
    refine dr U 600 rfl trivial ?_
    exact ret Tryz.results3 rfl ⟨_, rfl, rfl, hW2⟩
  | true =>
    have hlx := hbb rfl x (by simp)
    refine dr U 600 rfl trivial ?_
    refine call (f := 9) rfl rfl cb9 (natPow_calls x n (by omega) hn.2 w2 ht2) ?_
    rintro v w4 ⟨hO1, hB4⟩
    have ht4 := ht2.below hB4
    have hW4 := bl_tr hW2 hB4 hW2.size
    obtain ⟨s1, e1, rfl⟩ := hO1.t2
    refine ⟨_, rfl, ?_⟩
    refine dr U 600 rfl trivial ?_
    refine call (f := 10) rfl rfl cb10 (refPow_calls x n (by omega) hn.2 w4) ?_
    rintro v w5 ⟨hO1', hB5⟩
    have ht5 := ht4.below hB5
    have hW5 := bl_tr hW4 hB5 hW4.size
    obtain rfl := hO1.uniq hO1'
    refine ⟨_, rfl, ?_⟩
    refine dr U 600 rfl trivial ?_
    refine call (f := 11) rfl rfl cb11 (natFromInt_calls m hm.2 w5 ht5) ?_
    rintro v w6 ⟨hO3, hB6⟩
    have hW6 := bl_tr hW5 hB6 hW5.size
    obtain ⟨s3, e3, rfl⟩ := hO3.t2
    refine ⟨_, rfl, ?_⟩
    refine dr U 600 rfl trivial ?_
    refine call (f := 12) rfl rfl cb12 (refFromInt_calls m hm.2 w6) ?_
    rintro v w7 ⟨hO4, rfl⟩
    obtain rfl := hO3.uniq hO4
    refine ⟨_, rfl, ?_⟩
    refine dr U 600 rfl trivial ?_
    refine cT rfl rfl rfl (rfl) ?_; refine dr U 600 rfl trivial ?_
    refine cT rfl rfl rfl (rfl) ?_; refine dr U 600 rfl trivial ?_
    refine cT rfl rfl rfl (rfl) ?_; refine dr U 600 rfl trivial ?_
    refine cT rfl rfl rfl (rfl) ?_; refine dr U 600 rfl trivial ?_
    exact ret Tryz.results3 rfl ⟨_, rfl, rfl, hW6⟩

theorem natCalls_calls (x y : List UInt8) (hx : x.length ≤ 9223372036854775806) (hy : y.length ≤ 9223372036854775806) (w0 : World) (ht0 : TabOk w0) (he0 : ErrOk w0) :
    Calls Tryz.prog 6 #[.string ⟨⟨x⟩⟩, .string ⟨⟨y⟩⟩] w0 (Ret fun v w' => v = .bool true ∧ Below w0.heap.size w0 w') := by
  have hW0 := Below.refl w0.heap.size w0
  refine enter Tryz.func6 rfl Tryz.ntmps6 (Nat.le_of_ble_eq_true rfl) ?_
  refine dr U 600 rfl trivial ?_
  refine call (f := 7) rfl rfl cb7 (lives_calls w0 ht0) ?_; rintro v w1 ⟨rfl, hB1⟩; refine ⟨_, rfl, ?_⟩; have ht1 := ht0.below hB1; have hW1 := bl_tr hW0 hB1 hW0.size; refine dr U 600 rfl trivial ?_
  refine bss2 U rfl rfl rfl rfl rfl rfl ?_
  intro w2 hk hs2 hg2
  have hW2 := hW1.grown hg2 hW1.size (fun k e => by cases e)
  have ht2 := ht0.below hW2
  refine call (f := 8) rfl rfl cb8 (light_calls [x, y] w1.heap.size w2 (hk.sl 0) (by simp; exact ⟨hx, hy⟩) (by simp)) ?_
  rintro v w3 ⟨⟨bb, rfl, hbb⟩, rfl⟩
  refine ⟨_, rfl, ?_⟩
  cases bb with
  | false =>
    refine dr U 600 rfl trivial ?_
    exact ret Tryz.results6 rfl ⟨_, rfl, rfl, hW2⟩
  | true =>
    have hlx := hbb rfl x (by simp)
    have hly := hbb rfl y (by simp)
    refine dr U 600 rfl trivial ?_
    refine call (f := 21) rfl rfl cb21 (natAdd_calls x y (by omega) (by omega) w2 ht2) ?_
    rintro v w4 ⟨hO1, hB4⟩
    have ht4 := ht2.below hB4
    have hW4 := bl_tr hW2 hB4 hW2.size
    obtain ⟨s1, e1, rfl⟩ := hO1.t2
    refine ⟨_, rfl, ?_⟩
    refine dr U 600 rfl trivial ?_
    refine call (f := 26) rfl rfl cb26 (refAdd_calls x y (by omega) (by omega) w4) ?_
    rintro v w5 ⟨hO1', hB5⟩
    have ht5 := ht4.below hB5
    have hW5 := bl_tr hW4 hB5 hW4.size
    obtain rfl := hO1.uniq hO1'
    refine ⟨_, rfl, ?_⟩
    refine dr U 600 rfl trivial ?_
    refine call (f := 22) rfl rfl cb22 (natSub_calls x y (by omega) (by omega) w5 ht5) ?_
    rintro v w6 ⟨hO2, hB6⟩
    have ht6 := ht5.below hB6
    have hW6 := bl_tr hW5 hB6 hW5.size
    obtain ⟨s2, e2, rfl⟩ := hO2.t2
    refine ⟨_, rfl, ?_⟩
    refine dr U 600 rfl trivial ?_
    refine call (f := 27) rfl rfl cb27 (refSub_calls x y (by omega) (by omega) w6) ?_
    rintro v w7 ⟨hO2', hB7⟩
    have ht7 := ht6.below hB7
    have hW7 := bl_tr hW6 hB7 hW6.size
    obtain rfl := hO2.uniq hO2'
    refine ⟨_, rfl, ?_⟩
    refine dr U 600 rfl trivial ?_
    refine call (f := 24) rfl rfl cb24 (natMul_calls x y (by omega) (by omega) w7 ht7) ?_
    rintro v w8 ⟨hO3, hB8⟩
    have ht8 := ht7.below hB8
    have hW8 := bl_tr hW7 hB8 hW7.size
    obtain ⟨s3, e3, rfl⟩ := hO3.t2
    refine ⟨_, rfl, ?_⟩
    refine dr U 600 rfl trivial ?_
    refine call (f := 28) rfl rfl cb28 (refMul_calls x y (by omega) (by omega) w8) ?_
    rintro v w9 ⟨hO3', hB9⟩
    have ht9 := ht8.below hB9
    have hW9 := bl_tr hW8 hB9 hW8.size
    obtain rfl := hO3.uniq hO3'
    refine ⟨_, rfl, ?_⟩
    refine dr U 600 rfl trivial ?_
    refine call (f := 19) rfl rfl cb19 (natDivMod_calls x y (by omega) (by omega) w9 ht9) ?_
    rintro v w10 ⟨hO4, hB10⟩
    have ht10 := ht9.below hB10
    have hW10 := bl_tr hW9 hB10 hW9.size
    obtain ⟨s4, t4, e4, rfl⟩ := hO4.t3
    refine ⟨_, rfl, ?_⟩
    refine dr U 600 rfl trivial ?_
    refine call (f := 29) rfl rfl cb29 (refDivMod_calls x y (by omega) (by omega) w10) ?_
    rintro v w11 ⟨hO4', hB11⟩
    have ht11 := ht10.below hB11
    have hW11 := bl_tr hW10 hB11 hW10.size
    obtain rfl := hO4.uniq hO4'
    refine ⟨_, rfl, ?_⟩
    refine dr U 600 rfl trivial ?_
    refine call (f := 23) rfl rfl cb23 (natGcd_calls x y (by omega) (by omega) w11 ht11) ?_
    rintro v w12 ⟨hO5, hB12⟩
    have ht12 := ht11.below hB12
    have hW12 := bl_tr hW11 hB12 hW11.size
    obtain ⟨s5, e5, rfl⟩ := hO5.t2
    refine ⟨_, rfl, ?_⟩
    refine dr U 600 rfl trivial ?_
    refine call (f := 30) rfl rfl cb30 (refGcd_calls x y (by omega) (by omega) w12) ?_
    rintro v w13 ⟨hO5', hB13⟩
    have ht13 := ht12.below hB13
    have hW13 := bl_tr hW12 hB13 hW12.size
    obtain rfl := hO5.uniq hO5'
    refine ⟨_, rfl, ?_⟩
    refine dr U 600 rfl trivial ?_
    refine cF rfl rfl rfl (fun h => h rfl) ?_; refine dr U 600 rfl trivial ?_
    refine cF rfl rfl rfl (fun h => h rfl) ?_; refine dr U 600 rfl trivial ?_
    refine cF rfl rfl rfl (fun h => h rfl) ?_; refine dr U 600 rfl trivial ?_
    refine cF rfl rfl rfl (fun h => h rfl) ?_; refine dr U 600 rfl trivial ?_
    refine cF rfl rfl rfl (fun h => h rfl) ?_; refine dr U 600 rfl trivial ?_
    refine cF rfl rfl rfl (fun h => h rfl) ?_; refine dr U 600 rfl trivial ?_
    refine cF rfl rfl rfl (fun h => h rfl) ?_; refine dr U 600 rfl trivial ?_
    refine cF rfl rfl rfl (fun h => h rfl) ?_; refine dr U 600 rfl trivial ?_
    refine cF rfl rfl rfl (fun h => h rfl) ?_; refine dr U 600 rfl trivial ?_
    refine cF rfl rfl rfl (fun h => h rfl) ?_; refine dr U 600 rfl trivial ?_
    refine cF rfl rfl rfl (fun h => h rfl) ?_; refine dr U 600 rfl trivial ?_
    refine call (f := 13) rfl rfl cb13 (natToInt_calls x (by omega) w13 (he0.below hW13)) ?_
    rintro v w14 ⟨hO6, hB14⟩
    have hW14 := bl_tr hW13 hB14 hW13.size
    obtain ⟨s6, e6, rfl⟩ := hO6.t
    refine ⟨_, rfl, ?_⟩
    refine dr U 600 rfl trivial ?_
    refine call (f := 31) rfl rfl cb31 (refToInt_calls x (by omega) w14) ?_
    rintro v w15 ⟨hO6', hB15⟩
    have hW15 := bl_tr hW14 hB15 hW14.size
    obtain rfl := hO6.uniq hO6'
    refine ⟨_, rfl, ?_⟩
    refine dr U 600 rfl trivial ?_
    refine call (f := 14) rfl rfl cb14 (natBits_calls x (by omega) w15) ?_
    rintro v w16 ⟨hO7, hB16⟩
    have hW16 := bl_tr hW15 hB16 hW15.size
    obtain ⟨s7, e7, rfl⟩ := hO7.t
    refine ⟨_, rfl, ?_⟩
    refine dr U 600 rfl trivial ?_
    refine call (f := 32) rfl rfl cb32 (refBits_calls x (by omega) w16) ?_
    rintro v w17 ⟨hO7', hB17⟩
    have hW17 := bl_tr hW16 hB17 hW16.size
    obtain rfl := hO7.uniq hO7'
    refine ⟨_, rfl, ?_⟩
    refine dr U 600 rfl trivial ?_
    refine cT rfl rfl rfl (rfl) ?_; refine dr U 600 rfl trivial ?_
    refine cT rfl rfl rfl (rfl) ?_; refine dr U 600 rfl trivial ?_
    refine cT rfl rfl rfl (rfl) ?_; refine dr U 600 rfl trivial ?_
    refine cT rfl rfl rfl (rfl) ?_; refine dr U 600 rfl trivial ?_
    refine call (f := 25) rfl rfl cb25 (check_calls x (by omega) w17) ?_
    rintro v w18 ⟨⟨e8, rfl, hc8⟩, hB18⟩
    have hW18 := bl_tr hW17 hB18 hW17.size
    refine ⟨_, rfl, ?_⟩
    refine dr U 600 rfl trivial ?_
    refine call (f := 33) rfl rfl cb33 (refCheck_calls x (by omega) w18) ?_
    rintro v w19 ⟨⟨e9, rfl, hc9⟩, rfl⟩
    obtain rfl := chk_uniq hc8 hc9
    refine ⟨_, rfl, ?_⟩
    refine dr U 600 rfl trivial ?_
    refine cT rfl rfl rfl (rfl) ?_; refine dr U 600 rfl trivial ?_
    refine call (f := 18) rfl rfl cb18 (natCmp_calls x y (by omega) (by omega) w18) ?_
    rintro v w20 ⟨⟨e10, hc10, rfl⟩, hB20⟩
    have hW20 := bl_tr hW18 hB20 hW18.size
    refine ⟨_, rfl, ?_⟩
    refine dr U 600 rfl trivial ?_
    refine call (f := 34) rfl rfl cb34 (refCmp_calls x y (by omega) (by omega) w20) ?_
    rintro v w21 ⟨⟨e11, hc11, rfl⟩, hB21⟩
    have hW21 := bl_tr hW20 hB21 hW20.size
    obtain rfl := chk2_uniq hc10 hc11
    refine ⟨_, rfl, ?_⟩
    refine dr U 600 rfl trivial ?_
    refine cT rfl rfl rfl (rfl) ?_; refine dr U 600 rfl trivial ?_
    exact ret Tryz.results6 rfl ⟨_, rfl, rfl, hW21⟩
end Go.Proofs.YtnohojjjfconfaaGreatDoor
end
section
set_option linter.unusedSimpArgs false
set_option linter.unusedVariables false
set_option maxHeartbeats 2000000
namespace Go.Proofs.YtnohojjjfconfaaGreatDoor
open Go Go.Proofs Go.RowKit Go.Lib

section
variable {P : Program} (U : Tys P) {ro : Option Nat} {n : Nat} {ds : List Deferred} {Q : PT} {l l' : Fr} {w w' : World} {arr : Array Oper} {o : Oper} {r : List Oper} {k : List It}
/-- A test whose answer is carried on. -/
theorem cD {p : Prop} {lp : Bool → Fr} (e : dec l o.op = some p) (hg : gd arr l o.guard = some true) (hl : ∀ b, put1 n l o.dst (.bool b) = some (lp b))
    (t : ∀ b : Bool, (b = true ↔ p) → T P ro n ds Q (lp b) w (.ops arr r) k) : T P ro n ds Q l w (.ops arr (o :: r)) k :=
  (Classical.em p).elim (fun h => cT e hg (hl true) h (t true ⟨fun _ => h, fun _ => rfl⟩)) (fun h => cF e hg (hl false) h (t false ⟨fun h' => (by cases h'), fun h' => absurd h' h⟩))
/-- Two answers that agree are compared. -/
theorem neqB {d : Nat} {t t2 ty : TypeId} {x y : Operand} {ps : String} {af : Array Edge} {g : Option (Nat × Bool)} {a b : Bool} (hx : ev l x = some (.bool a)) (hy : ev l y = some (.bool b)) (hab : a = b) (ht : U.tb.u t = some .bool) (hg : gd arr l g = some true) (hd : Nat.blt d n = true)
    (t' : T P ro n ds Q ((d, .bool false) :: l) w (.ops arr r) k) : T P ro n ds Q l w (.ops arr (⟨some d, .binOp .neq t x y t2, ty, ps, af, g⟩ :: r)) k := by
  subst hab
  exact op1 (v := .bool false) (by intro c h; cases h) hg (put1_some hd) (fun act hf => by
    have h1 := run_equal_bool (P := P) w t a a (U.hu _ _ ht)
    simp [execOp, hf.ev hx, hf.ev hy, eqGuard, binOp, h1]) t'
end

theorem nfromint_calls (n : Nat) (hn : n ≤ 9223372036854775807) (w : World) (ht : TabOk w) :
    Calls Tryz.prog 11 #[.int .i64 (n : Nat)] w (Ret fun v w' => v = .tuple ⟨[.string ⟨⟨decDigits n⟩⟩, .int .i64 0]⟩ ∧ Below w.heap.size w w') := by
  refine (natFromInt_calls n (by omega) w ht).mono ?_
  rintro e w' ⟨v, rfl, h, hB⟩
  refine ⟨v, rfl, ?_, hB⟩
  rcases h with ⟨h, _⟩ | ⟨_, h⟩
  · omega
  · exact h
theorem num_chk {k : Nat} {x : List UInt8} {n : Nat} (h : Num k x n) (hk : k ≤ 4000) : Chk x 0 := by
  have := h.form hk; exact .inl ⟨this.1, this.2.1, rfl⟩
theorem ntoint_calls {x : List UInt8} {m k : Nat} (hx : Num k x m) (hk : k ≤ 4000) (hm : m ≤ 9223372036854775807) (w : World) (he : ErrOk w) :
    Calls Tryz.prog 13 #[.string ⟨⟨x⟩⟩] w (Ret fun v w' => v = .tuple ⟨[.int .i64 (m : Nat), .int .i64 0]⟩ ∧ Below w.heap.size w w') := by
  obtain ⟨h1, h2, h3⟩ := hx.form hk
  refine (natToInt_calls x (by omega) w he).mono ?_
  rintro e w' ⟨v, rfl, h, hB⟩
  refine ⟨v, rfl, ?_, hB⟩
  rw [← h3] at hm ⊢
  exact h.uniq (.inr (.inr ⟨num_chk hx hk, hm, rfl⟩))
theorem nbits_calls {x : List UInt8} {m k : Nat} (hx : Num k x m) (hk : k ≤ 4000) (w : World) :
    Calls Tryz.prog 14 #[.string ⟨⟨x⟩⟩] w (Ret fun v w' => v = .tuple ⟨[.int .i64 (blen m : Nat), .int .i64 0]⟩ ∧ Below w.heap.size w w') := by
  obtain ⟨h1, h2, h3⟩ := hx.form hk
  refine (natBits_calls x (by omega) w).mono ?_
  rintro e w' ⟨v, rfl, h, hB⟩
  refine ⟨v, rfl, ?_, hB⟩
  rw [← h3]
  exact h.uniq (.inr ⟨num_chk hx hk, rfl⟩)
theorem num19 {n : Nat} (h : n ≤ 9223372036854775807) : Num 19 (decDigits n) n := Num.dec (nD_le 19 n (by omega) (by omega))
theorem cmpN_pos {p q : Nat} : 0 < cmpN p q ↔ q < p := by
  unfold cmpN
  split
  · omega
  · split <;> omega

theorem natInts_calls (m n : Int) (hm : -9223372036854775808 ≤ m ∧ m ≤ 9223372036854775807) (hn : -9223372036854775808 ≤ n ∧ n ≤ 9223372036854775807) (w0 : World) (ht0 : TabOk w0) (he0 : ErrOk w0) :
    Calls Tryz.prog 4 #[.int .i64 m, .int .i64 n] w0 (Ret fun v w' => v = .bool true ∧ Below w0.heap.size w0 w') := by
  have hW0 := Below.refl w0.heap.size w0
  refine enter Tryz.func4 rfl Tryz.ntmps4 (Nat.le_of_ble_eq_true rfl) ?_
  refine dr U 600 rfl trivial ?_
  refine call (f := 7) rfl rfl cb7 (lives_calls w0 ht0) ?_; rintro v w1 ⟨rfl, hB1⟩; refine ⟨_, rfl, ?_⟩; have ht1 := ht0.below hB1; have hW1 := bl_tr hW0 hB1 hW0.size; refine dr U 600 rfl trivial ?_
  by_cases hneg : m < 0
  · refine call (f := 11) rfl rfl cb11 (natFromInt_calls m hm.2 w1 ht1) ?_
    rintro v w2 ⟨hO, hB2⟩
    obtain rfl := hO.uniq (.inl ⟨hneg, rfl⟩)
    refine ⟨_, rfl, ?_⟩
    refine dr U 600 rfl trivial ?_
    refine cT rfl rfl rfl (hneg) ?_; refine dr U 600 rfl trivial ?_
    refine cT rfl rfl rfl (rfl) ?_; refine dr U 600 rfl trivial ?_
    refine cT rfl rfl rfl (rfl) ?_; refine dr U 600 rfl trivial ?_
    exact ret Tryz.results4 rfl ⟨_, rfl, rfl, bl_tr hW1 hB2 hW1.size⟩
  · obtain ⟨m, rfl⟩ : ∃ k : Nat, m = k := ⟨m.toNat, by omega⟩
    have hm63 : m ≤ 9223372036854775807 := by omega
    have hbl := blen_le 63 m (by omega)
    refine call (f := 11) rfl rfl cb11 (nfromint_calls m hm63 w1 ht1) ?_; rintro v w2 ⟨rfl, hB2⟩; refine ⟨_, rfl, ?_⟩; have ht2 := ht1.below hB2; have hW2 := bl_tr hW1 hB2 hW1.size; refine dr U 600 rfl trivial ?_
    refine cF rfl rfl rfl (by omega) ?_; refine dr U 600 rfl trivial ?_
    refine call (f := 13) rfl rfl cb13 (ntoint_calls (num19 hm63) (by omega) hm63 w2 (he0.below hW2)) ?_
    rintro v w3 ⟨rfl, hB3⟩
    refine ⟨_, rfl, ?_⟩
    have ht3 := ht2.below hB3
    have hW3 := bl_tr hW2 hB3 hW2.size
    refine dr U 600 rfl trivial ?_
    refine loopR (fun l w' j => ∃ i : Nat, l = [(0, .int .i64 (m : Nat)), (1, .int .i64 n), (5, .string ⟨⟨decDigits m⟩⟩), (6, .int .i64 0), (7, .int .i64 (m : Nat)), (8, .int .i64 0), (9, .int .i64 (i : Nat)), (10, .int .i64 (j : Nat))] ∧ i + blen j = blen m ∧ j ≤ m ∧ w' = w3) (m0 := m) ⟨0, rfl, by omega, Nat.le_refl _, rfl⟩ ⟨rfl, rfl, rfl, rfl, rfl, rfl, rfl, rfl, trivial⟩ ?_
    rintro l w4 j ⟨i, rfl, hi, hjm, rfl⟩
    refine dr U 600 rfl trivial ?_
    refine cS rfl rfl rfl rfl (fun hq => ?_) (fun hq => ?_)
    · have hbp := blen_pos (n := j) (by omega)
      refine dr U 600 rfl (by first | exact True.intro | (simp only [AllP, InR, List.nil_append, List.cons_append, and_true]; omega)) ?_
      exact rend _ (j / 2) ⟨i + 1, rfl, by omega, by omega, rfl⟩ (by omega) ⟨rfl, rfl, rfl, rfl, rfl, rfl, iv (by omega), iv (by omega), trivial⟩
    · obtain rfl : j = 0 := by omega
      rw [blen_zero] at hi
      obtain rfl : i = blen m := by omega
      refine dr U 600 rfl trivial ?_
      refine call (f := 14) rfl rfl cb14 (nbits_calls (num19 hm63) (by omega) w4) ?_
      rintro v w5 ⟨rfl, hB5⟩
      refine ⟨_, rfl, ?_⟩
      have ht5 := ht3.below hB5
      have hW5 := bl_tr hW3 hB5 hW3.size
      refine dr U 600 rfl trivial ?_
      refine cF rfl rfl rfl (fun h => h rfl) ?_; refine dr U 600 rfl trivial ?_
      refine cF rfl rfl rfl (fun h => h rfl) ?_; refine dr U 600 rfl trivial ?_
      refine cF rfl rfl rfl (fun h => h rfl) ?_; refine dr U 600 rfl trivial ?_
      refine cF rfl rfl rfl (fun h => h rfl) ?_; refine dr U 600 rfl trivial ?_
      refine cF rfl rfl rfl (fun h => h rfl) ?_
      refine dr U 600 rfl (by first | exact True.intro | (simp only [AllP, InR, List.nil_append, List.cons_append, and_true]; omega)) ?_
      refine call (f := 15) rfl rfl cb15 (pick_calls n 1073741824 (by omega) (by omega) w5) ?_
      rintro v w6 ⟨⟨q, rfl, hq⟩, rfl⟩
      refine ⟨_, rfl, ?_⟩
      obtain ⟨p, hp, hpl⟩ : ∃ p : Nat, ((m : Int) % 1073741824) = (p : Int) ∧ p < 1073741824 := ⟨m % 1073741824, by omega, by omega⟩
      rw [hp]
      have hpq : p * q ≤ 1152921504606846976 := Nat.le_trans (Nat.mul_le_mul (Nat.le_of_lt hpl) (Nat.le_of_lt hq)) (by decide)
      have hpqI : (p : Int) * (q : Int) = ((p * q : Nat) : Int) := (Int.natCast_mul p q).symm
      have hp19 := num19 (n := p) (by omega)
      have hq19 := num19 (n := q) (by omega)
      refine dr U 600 rfl trivial ?_
      refine call (f := 11) rfl rfl cb11 (nfromint_calls p (by omega) w5 ht5) ?_; rintro v w7 ⟨rfl, hB7⟩; refine ⟨_, rfl, ?_⟩; have ht7 := ht5.below hB7; have hW7 := bl_tr hW5 hB7 hW5.size; refine dr U 600 rfl trivial ?_
      refine call (f := 11) rfl rfl cb11 (nfromint_calls q (by omega) w7 ht7) ?_; rintro v w8 ⟨rfl, hB8⟩; refine ⟨_, rfl, ?_⟩; have ht8 := ht7.below hB8; have hW8 := bl_tr hW7 hB8 hW7.size; refine dr U 600 rfl trivial ?_
      refine call (f := 16) rfl rfl cb16 (sum_calls hp19 hq19 (by omega) (by omega) w8 ht8) ?_; rintro v w9 ⟨rfl, hB9⟩; refine ⟨_, rfl, ?_⟩; have ht9 := ht8.below hB9; have hW9 := bl_tr hW8 hB9 hW8.size; refine dr U 600 rfl trivial ?_
      refine call (f := 13) rfl rfl cb13 (ntoint_calls (num19 (n := p + q) (by omega)) (by omega) (by omega) w9 (he0.below hW9)) ?_
      rintro v w10 ⟨rfl, hB10⟩
      refine ⟨_, rfl, ?_⟩
      have ht10 := ht9.below hB10
      have hW10 := bl_tr hW9 hB10 hW9.size
      refine dr U 600 rfl trivial ?_
      refine call (f := 17) rfl rfl cb17 (product_calls hp19 hq19 (by omega) w10 ht10) ?_; rintro v w11 ⟨rfl, hB11⟩; refine ⟨_, rfl, ?_⟩; have ht11 := ht10.below hB11; have hW11 := bl_tr hW10 hB11 hW10.size; refine dr U 600 rfl trivial ?_
      refine call (f := 13) rfl rfl cb13 (ntoint_calls (num19 (n := p * q) (by omega)) (by omega) (by omega) w11 (he0.below hW11)) ?_
      rintro v w12 ⟨rfl, hB12⟩
      refine ⟨_, rfl, ?_⟩
      have ht12 := ht11.below hB12
      have hW12 := bl_tr hW11 hB12 hW11.size
      refine dr U 600 rfl trivial ?_
      refine cD rfl rfl (fun _ => rfl) (fun less hless => ?_)
      refine dr U 600 rfl trivial ?_
      refine cD rfl rfl (fun _ => rfl) (fun more hmore => ?_)
      refine dr U 600 rfl (by first | exact True.intro | (simp only [AllP, InR, List.nil_append, List.cons_append, and_true]; omega)) ?_
      refine cF rfl rfl rfl (fun h => h (by omega)) ?_
      refine dr U 600 rfl ?_ ?_
      · simp only [AllP, InR, List.nil_append, List.cons_append, and_true, hpqI]
        omega
      refine cF rfl rfl rfl (fun h => h hpqI.symm) ?_; refine dr U 600 rfl trivial ?_
      refine call (f := 18) rfl rfl cb18 (ncmp_calls hp19 hq19 (by omega) (by omega) w12) ?_; rintro v w13 ⟨rfl, hB13⟩; refine ⟨_, rfl, ?_⟩; have ht13 := ht12.below hB13; have hW13 := bl_tr hW12 hB13 hW12.size; refine dr U 600 rfl trivial ?_
      refine cD rfl rfl (fun _ => rfl) (fun b1 hb1 => ?_)
      refine dr U 600 rfl trivial ?_
      refine neqB U rfl rfl (Bool.eq_iff_iff.2 (hb1.trans (cmpN_neg.trans (Iff.trans (by omega) hless.symm)))) rfl rfl rfl ?_
      refine dr U 600 rfl trivial ?_
      refine call (f := 18) rfl rfl cb18 (ncmp_calls hp19 hq19 (by omega) (by omega) w13) ?_; rintro v w14 ⟨rfl, hB14⟩; refine ⟨_, rfl, ?_⟩; have ht14 := ht13.below hB14; have hW14 := bl_tr hW13 hB14 hW13.size; refine dr U 600 rfl trivial ?_
      refine cD rfl rfl (fun _ => rfl) (fun b2 hb2 => ?_)
      refine dr U 600 rfl trivial ?_
      refine neqB U rfl rfl (Bool.eq_iff_iff.2 (hb2.trans (cmpN_pos.trans (Iff.trans (by omega) hmore.symm)))) rfl rfl rfl ?_
      refine dr U 600 rfl trivial ?_
      refine cS rfl rfl rfl rfl (fun hq => ?_) (fun hq => ?_)
      · refine dr U 600 rfl trivial ?_
        exact ret Tryz.results4 rfl ⟨_, rfl, rfl, hW14⟩
      · have hq0 : q ≠ 0 := by omega
        have hd19 := num19 (n := p / q) (Nat.le_trans (Nat.div_le_self _ _) (by omega))
        have hr19 := num19 (n := p % q) (Nat.le_trans (Nat.mod_le _ _) (by omega))
        refine dr U 600 rfl trivial ?_
        refine call (f := 19) rfl rfl cb19 (ndiv_calls hp19 hq19 (by omega) (by omega) hq0 w14 ht14) ?_; rintro v w15 ⟨rfl, hB15⟩; refine ⟨_, rfl, ?_⟩; have ht15 := ht14.below hB15; have hW15 := bl_tr hW14 hB15 hW14.size; refine dr U 600 rfl trivial ?_
        refine call (f := 13) rfl rfl cb13 (ntoint_calls hd19 (by omega) (Nat.le_trans (Nat.div_le_self _ _) (by omega)) w15 (he0.below hW15)) ?_
        rintro v w16 ⟨rfl, hB16⟩
        refine ⟨_, rfl, ?_⟩
        have hW16 := bl_tr hW15 hB16 hW15.size
        refine dr U 600 rfl trivial ?_
        refine call (f := 13) rfl rfl cb13 (ntoint_calls hr19 (by omega) (Nat.le_trans (Nat.mod_le _ _) (by omega)) w16 (he0.below hW16)) ?_
        rintro v w17 ⟨rfl, hB17⟩
        refine ⟨_, rfl, ?_⟩
        have hW17 := bl_tr hW16 hB17 hW16.size
        have hdI : (p : Int) / (q : Int) = ((p / q : Nat) : Int) := (Int.natCast_ediv p q).symm
        have hdl := Nat.div_le_self p q
        generalize p / q = dq at *
        refine dr U 600 rfl trivial ?_
        refine cT rfl rfl rfl rfl ?_
        refine dr U 600 rfl ?_ ?_
        · simp only [AllP, InR, List.nil_append, List.cons_append, and_true, hdI]
          omega
        refine cT rfl rfl rfl hdI.symm ?_
        refine dr U 600 rfl (by first | exact True.intro | (simp only [AllP, InR, List.nil_append, List.cons_append, and_true]; omega)) ?_
        refine cT rfl rfl rfl (Int.natCast_emod p q) ?_
        refine dr U 600 rfl trivial ?_
        exact ret Tryz.results4 rfl ⟨_, rfl, rfl, hW17⟩
end Go.Proofs.YtnohojjjfconfaaGreatDoor
end
section
set_option linter.unusedSimpArgs false
set_option linter.unusedVariables false
set_option maxHeartbeats 2000000
set_option maxRecDepth 10000
namespace Go.Proofs.YtnohojjjfconfaaGreatDoor
open Go Go.Proofs Go.RowKit Go.Lib

section
variable {P : Program} (U : Tys P) {ro : Option Nat} {n : Nat} {ds : List Deferred} {Q : PT} {l l' : Fr} {w w' : World} {arr : Array Oper} {r : List Oper} {k : List It}
/-- A string is appended to bytes that the call owns. -/
theorem aps {d : Nat} {t t2 e ty : TypeId} {x y : Operand} {ps : String} {af : Array Edge} {g : Option (Nat × Bool)} {a : Option Addr} {m c base : Nat} {bs s : List UInt8}
    (hx : ev l x = some (.slice a m c)) (hy : ev l y = some (.string ⟨⟨s⟩⟩)) (ht : U.tb.u t = some (.slice e)) (h2 : U.tb.u t2 = some .string) (hi : U.tb.inf e = some (1, 1, .int .u8 0)) (hg : gd arr l g = some true) (hd : Nat.blt d n = true)
    (hm : bs.length = m) (hlen : m + s.length ≤ 140737488355328) (ho : w.ownsRow base e 1 (.slice a m c) m (byteCells bs)) (hb : base ≤ w.heap.size)
    (t' : ∀ a' c' w1, w1.ownsRow base e 1 (.slice a' (m + s.length) c') (m + s.length) (byteCells (bs ++ s)) → w.grownBy w1 (ab a) → T P ro n ds Q ((d, .slice a' (m + s.length) c') :: l) w1 (.ops arr r) k) :
    T P ro n ds Q l w (.ops arr (⟨some d, .call ⟨.builtin .append, #[x, y], #[t, t2]⟩, ty, ps, af, g⟩ :: r)) k := by
  subst hm
  obtain ⟨i, hi0, hz1, hz2, hz3⟩ := U.hi _ _ _ _ hi
  obtain ⟨v', w1, hrun, ho1, hg1, _⟩ := run_append_own_string (P := P) (w := w) base t t2 ty e i (U.hu _ _ ht) (U.hu _ _ h2) hi0 hz3 hz1 hz2 (.slice a bs.length c) bs.length (byteCells bs) ho ⟨⟨s⟩⟩
    (by unfold maxLen; show bs.length + s.length ≤ _; omega) (by show bs.length + s.length ≤ _; omega) hb
  have hss : (ByteArray.mk ⟨s⟩).size = s.length := rfl
  have hcells : byteCells bs ++ strCells ⟨⟨s⟩⟩ = byteCells (bs ++ s) := by simp [byteCells, strCells]
  rw [hss, hcells] at ho1
  rw [ownBlock_ab] at hg1
  obtain ⟨a2, m2, c2, rfl⟩ : ∃ a' m' c', v' = .slice a' m' c' := by
    rcases ho1.2 with ⟨h, _⟩ | ⟨g, cap, cur, h, _⟩
    · exact ⟨_, _, _, h⟩
    · exact ⟨_, _, _, h⟩
  have hm2 : m2 = bs.length + s.length := by
    rcases ho1.2 with ⟨h, h'⟩ | ⟨g, cap, cur, h, _⟩
    · simp at h; omega
    · simp at h; omega
  subst hm2
  refine op1 (w' := w1) (v := .slice a2 (bs.length + s.length) c2) (by intro c h; cases h) hg (put1_some hd) (fun act hf => ?_) (t' _ _ _ ho1 hg1)
  simp only [execOp, resolve, invoke, builtin]
  simp [hf.ev hx, hf.ev hy, hrun]
end

/-- A text repeated. -/
def reps (s : List UInt8) : Nat → List UInt8
  | 0 => []
  | i + 1 => reps s i ++ s
theorem reps_length (s : List UInt8) : ∀ i, (reps s i).length = i * s.length
  | 0 => by simp [reps]
  | i + 1 => by rw [reps, List.length_append, reps_length s i, Nat.add_mul, Nat.one_mul]
theorem times_str (s : List UInt8) (n : Nat) (hs : 0 < s.length) (hn : 0 < n) (hl : n * s.length ≤ 1000000000) (w : World) :
    Calls Tryz.prog 51 #[.string ⟨⟨s⟩⟩, .int .i64 (n : Nat)] w (Ret fun v w' => v = .string ⟨⟨reps s n⟩⟩ ∧ Below w.heap.size w w') := by
  have hmI : (max 0 (n : Int)) * (s.length : Int) = ((n * s.length : Nat) : Int) := by
    rw [show max 0 (n : Int) = (n : Int) by omega]; exact (Int.natCast_mul n s.length).symm
  have hle : ∀ i, i ≤ n → i * s.length ≤ 1000000000 := fun i hi => Nat.le_trans (Nat.mul_le_mul_right _ hi) hl
  have hnn : n ≤ 1000000000 := Nat.le_trans (Nat.le_mul_of_pos_right _ hs) hl
  have hsn : s.length ≤ 1000000000 := Nat.le_trans (Nat.le_mul_of_pos_left _ hn) hl
  refine enter Tryz.func51 rfl Tryz.ntmps51 (Nat.le_of_ble_eq_true rfl) ?_
  refine dr U 600 rfl ?_ ?_
  · simp only [AllP, InR, List.nil_append, List.cons_append, and_true, hmI]
    omega
  refine mk0 U rfl rfl rfl rfl rfl rfl (n * s.length) rfl hmI (by omega) (by omega) w.heap.size (Nat.le_refl _) ?_
  intro a0 w0 ho0 hg0
  refine dr U 600 rfl trivial ?_
  refine loopR (fun l w' m => ∃ (i : Nat) (a : Option Addr) (c : Nat), l = [(0, .string ⟨⟨s⟩⟩), (1, .int .i64 (n : Nat)), (5, .slice a (reps s i).length c), (6, .int .i64 (i : Nat))] ∧ i ≤ n ∧ w'.ownsRow w.heap.size 5 1 (.slice a (reps s i).length c) (reps s i).length (byteCells (reps s i)) ∧ Below w.heap.size w w' ∧ m = n - i)
    ⟨0, a0, n * s.length, rfl, by omega, ho0, (Below.refl _ _).grown hg0 (Nat.le_refl _) (fun k e => by cases e), rfl⟩ ⟨rfl, rfl, rfl, rfl, trivial⟩ ?_
  rintro l w1 m ⟨i, a, c, rfl, hi, ho, hB, rfl⟩
  have hil := reps_length s i
  have hle1 := hle i hi
  refine dr U 600 rfl trivial ?_
  refine cS rfl rfl rfl rfl (fun hq => ?_) (fun hq => ?_)
  · refine dr U 600 rfl (by first | exact True.intro | (simp only [AllP, InR, List.nil_append, List.cons_append, and_true]; omega)) ?_
    refine aps U (bs := reps s i) rfl rfl rfl rfl rfl rfl rfl rfl (by omega) ho hB.size ?_
    intro a1 c1 w2 ho2 hg2
    refine dr U 600 rfl (by first | exact True.intro | (simp only [AllP, InR, List.nil_append, List.cons_append, and_true]; omega)) ?_
    have hl2 : (reps s (i + 1)).length = (reps s i).length + s.length := by rw [reps, List.length_append]
    refine rend _ _ ⟨i + 1, a1, c1, rfl, by omega, by rw [hl2]; exact ho2, hB.grown hg2 hB.size (fun g hg => (own_block ho g hg).1), rfl⟩ (by omega) ⟨rfl, rfl, by rw [hl2]; rfl, iv (by omega), trivial⟩
  · obtain rfl : i = n := by omega
    refine dr U 600 rfl trivial ?_
    refine bstrS U rfl rfl rfl rfl rfl rfl rfl (fun e => ?_) (own_sl ho) ?_
    · rw [e] at hil
      have := Nat.mul_pos hn hs
      simp at hil
      omega
    refine dr U 600 rfl trivial ?_
    exact ret Tryz.results51 rfl ⟨_, rfl, rfl, hB⟩
theorem reps_one (c : UInt8) : ∀ k, reps [c] k = List.replicate k c
  | 0 => rfl
  | k + 1 => by rw [reps, reps_one c k, List.replicate_succ']
theorem dval_nines : ∀ k, dval (List.replicate k 57) + 1 = 10 ^ k
  | 0 => rfl
  | k + 1 => by
    have h := dval_nines k
    rw [List.replicate_succ', dval_snoc, Nat.pow_succ, ← h]
    show dval (List.replicate k 57) * 10 + (57 - 48) + 1 = _
    omega
theorem nines_calls (n : Nat) (hn : 0 < n) (hl : n ≤ 1000000) (w : World) :
    Calls Tryz.prog 20 #[.int .i64 (n : Nat)] w (Ret fun v w' => v = .string ⟨⟨List.replicate n 57⟩⟩ ∧ Below w.heap.size w w') := by
  refine enter Tryz.func20 rfl Tryz.ntmps20 (Nat.le_of_ble_eq_true rfl) ?_
  refine dr U 600 rfl trivial ?_
  refine call (f := 51) rfl rfl cb51 (times_str [57] n (by decide) hn (by simp; omega) w) ?_
  rintro v w1 ⟨rfl, hB⟩
  refine ⟨_, rfl, ?_⟩
  rw [reps_one]
  refine dr U 600 rfl trivial ?_
  exact ret Tryz.results20 rfl ⟨_, rfl, rfl, hB⟩
theorem nines_form (k : Nat) (hk : 0 < k) : Form (List.replicate k 57) := by
  refine ⟨fun e => by have := congrArg List.length e; simp at this; omega, .inr (fun e => ?_), fun c hc => ?_⟩
  · obtain ⟨j, rfl⟩ : ∃ j, k = j + 1 := ⟨k - 1, by omega⟩
    rw [List.replicate_succ] at e
    exact absurd (Option.some.inj e) (by decide)
  · rw [List.mem_replicate] at hc
    rw [hc.2]; exact ⟨by decide, by decide⟩
theorem nines_num (k : Nat) (hk : 0 < k) : Num k (List.replicate k 57) (dval (List.replicate k 57)) := by
  have h := nines_form k hk
  have h1 := dec_of h.2.2 h.1 h.2.1
  exact ⟨h1, by rw [← decDigits_length, ← h1]; simp⟩
theorem nines_over (k : Nat) (hk : 4000 < k) : Chk (List.replicate k 57) 5 := .inr (.inl ⟨nines_form k (by omega), by rw [List.length_replicate]; exact hk, rfl⟩)
theorem nD_ten (k : Nat) : nDigits (10 ^ k) = k + 1 := by
  have := nD_pad k 1 0 (by omega) (Nat.pow_pos (by omega))
  have h1 : nDigits 1 = 1 := nDigits_small (by omega)
  rw [Nat.one_mul, Nat.add_zero, h1] at this
  omega
theorem nD_two (n d : Nat) (h : 4 * d ≤ n) : d < nDigits (2 ^ n) := by
  rcases Nat.lt_or_ge d (nDigits (2 ^ n)) with h1 | h1
  · exact h1
  · exfalso
    have h2 := Nat.lt_of_lt_of_le (lt_pow_nDigits (2 ^ n)) (Nat.pow_le_pow_right (n := 10) (by omega) h1)
    have h3 : 10 ^ d ≤ 16 ^ d := Nat.pow_le_pow_left (by omega) d
    have h4 : (16 : Nat) ^ d = 2 ^ (4 * d) := by rw [Nat.pow_mul]
    have h5 : 2 ^ (4 * d) ≤ 2 ^ n := Nat.pow_le_pow_right (by omega) h
    omega

theorem num_ok2 {j k : Nat} {x y : List UInt8} {m n : Nat} (hx : Num j x m) (hy : Num k y n) (hj : j ≤ 4000) (hk : k ≤ 4000) : Chk2 x y 0 :=
  ⟨0, 0, num_chk hx hj, num_chk hy hk, by simp⟩

/-- A power of ten, its exponent open. -/
theorem npow10_calls (k : Nat) (hk : (k : Int) ≤ 9223372036854775807) (hd : k + 1 ≤ 4000) (w : World) (ht : TabOk w) :
    Calls Tryz.prog 9 #[.string ⟨⟨[49, 48]⟩⟩, .int .i64 (k : Nat)] w (Ret fun v w' => (∃ s : List UInt8, s.length = k + 1 ∧ v = .tuple ⟨[.string ⟨⟨s⟩⟩, .int .i64 0]⟩) ∧ Below w.heap.size w w') := by
  have hten : dval [49, 48] = 10 := by decide
  have h1 := nD_ten k
  have hl : Num 2 [49, 48] 10 := hten ▸ lit_num (l := [49, 48]) (by decide)
  refine (npow_calls hl (by omega) hk (by omega) w ht).mono ?_
  rintro e w' ⟨v, rfl, rfl, hB⟩
  exact ⟨_, rfl, ⟨_, by rw [decDigits_length]; exact h1, rfl⟩, hB⟩
theorem npow10_over (k : Nat) (hk : (k : Int) ≤ 9223372036854775807) (hd : 4000 < k + 1) (w : World) (ht : TabOk w) :
    Calls Tryz.prog 9 #[.string ⟨⟨[49, 48]⟩⟩, .int .i64 (k : Nat)] w (Ret fun v w' => v = .tuple ⟨[.string ⟨⟨[]⟩⟩, .int .i64 5]⟩ ∧ Below w.heap.size w w') := by
  have hten : dval [49, 48] = 10 := by decide
  have h1 := nD_ten k
  have hl : Num 2 [49, 48] 10 := hten ▸ lit_num (l := [49, 48]) (by decide)
  refine (natPow_calls [49, 48] k (by decide) hk w ht).mono ?_
  rintro e w' ⟨v, rfl, h, hB⟩
  refine ⟨v, rfl, h.uniq (.inr (.inr ⟨num_chk hl (by omega), by omega, .inr ⟨?_, rfl⟩⟩)), hB⟩
  rw [Int.toNat_natCast, hten]; omega
theorem npow2_over (k : Nat) (hk : (k : Int) ≤ 9223372036854775807) (hd : 16000 ≤ k) (w : World) (ht : TabOk w) :
    Calls Tryz.prog 9 #[.string ⟨⟨[50]⟩⟩, .int .i64 (k : Nat)] w (Ret fun v w' => v = .tuple ⟨[.string ⟨⟨[]⟩⟩, .int .i64 5]⟩ ∧ Below w.heap.size w w') := by
  have hten : dval [50] = 2 := by decide
  have h1 := nD_two k 4000 (by omega)
  have hl : Num 1 [50] 2 := hten ▸ lit_num (l := [50]) (by decide)
  refine (natPow_calls [50] k (by decide) hk w ht).mono ?_
  rintro e w' ⟨v, rfl, h, hB⟩
  refine ⟨v, rfl, h.uniq (.inr (.inr ⟨num_chk hl (by omega), by omega, .inr ⟨?_, rfl⟩⟩)), hB⟩
  rw [Int.toNat_natCast, hten]; exact h1
theorem npow01_calls (b k : Nat) (hb : b ≤ 1) (hk : (k : Int) ≤ 9223372036854775807) (hk0 : 0 < k) (w : World) (ht : TabOk w) :
    Calls Tryz.prog 9 #[.string ⟨⟨decDigits b⟩⟩, .int .i64 (k : Nat)] w (Ret fun v w' => v = .tuple ⟨[.string ⟨⟨decDigits b⟩⟩, .int .i64 0]⟩ ∧ Below w.heap.size w w') := by
  have hp : b ^ k = b := by
    rcases (show b = 0 ∨ b = 1 by omega) with h | h
    · rw [h, Nat.zero_pow hk0]
    · rw [h, Nat.one_pow]
  have hd : nDigits b = 1 := nDigits_small (by omega)
  have := npow_calls (k := k) (Num.dec (k := 1) (n := b) (by omega)) (by omega) hk (by rw [hp]; omega) w ht
  rwa [hp] at this
theorem npowneg_calls (x : List UInt8) (j m : Nat) (hx : Num j x m) (hj : j ≤ 4000) (w : World) (ht : TabOk w) :
    Calls Tryz.prog 9 #[.string ⟨⟨x⟩⟩, .int .i64 (-1)] w (Ret fun v w' => v = .tuple ⟨[.string ⟨⟨[]⟩⟩, .int .i64 2]⟩ ∧ Below w.heap.size w w') := by
  refine (natPow_calls x (-1) (by have := hx.form hj; omega) (by omega) w ht).mono ?_
  rintro e w' ⟨v, rfl, h, hB⟩
  exact ⟨v, rfl, h.uniq (.inr (.inl ⟨num_chk hx hj, by omega, rfl⟩)), hB⟩
theorem nsub_range {x y : List UInt8} {m n j k : Nat} (hx : Num j x m) (hy : Num k y n) (hj : j ≤ 4000) (hk : k ≤ 4000) (hlt : m < n) (w : World) (ht : TabOk w) :
    Calls Tryz.prog 22 #[.string ⟨⟨x⟩⟩, .string ⟨⟨y⟩⟩] w (Ret fun v w' => v = .tuple ⟨[.string ⟨⟨[]⟩⟩, .int .i64 2]⟩ ∧ Below w.heap.size w w') := by
  have h1 := hx.form hj
  have h2 := hy.form hk
  refine (natSub_calls x y (by omega) (by omega) w ht).mono ?_
  rintro e w' ⟨v, rfl, h, hB⟩
  exact ⟨v, rfl, h.uniq (.inr ⟨num_ok2 hx hy hj hk, .inl ⟨by rw [h1.2.2, h2.2.2]; exact hlt, rfl⟩⟩), hB⟩
theorem nadd_over {x y : List UInt8} {m n j k : Nat} (hx : Num j x m) (hy : Num k y n) (hj : j ≤ 4000) (hk : k ≤ 4000) (ho : 4000 < nDigits (m + n)) (w : World) (ht : TabOk w) :
    Calls Tryz.prog 21 #[.string ⟨⟨x⟩⟩, .string ⟨⟨y⟩⟩] w (Ret fun v w' => v = .tuple ⟨[.string ⟨⟨[]⟩⟩, .int .i64 5]⟩ ∧ Below w.heap.size w w') := by
  have h1 := hx.form hj
  have h2 := hy.form hk
  refine (natAdd_calls x y (by omega) (by omega) w ht).mono ?_
  rintro e w' ⟨v, rfl, h, hB⟩
  exact ⟨v, rfl, h.uniq (.inr ⟨num_ok2 hx hy hj hk, .inr ⟨by rw [h1.2.2, h2.2.2]; exact ho, rfl⟩⟩), hB⟩
theorem nmul_fit {x y : List UInt8} {m n j k : Nat} (hx : Num j x m) (hy : Num k y n) (hj : j ≤ 4000) (hk : k ≤ 4000) (ho : nDigits (m * n) ≤ 4000) (w : World) (ht : TabOk w) :
    Calls Tryz.prog 24 #[.string ⟨⟨x⟩⟩, .string ⟨⟨y⟩⟩] w (Ret fun v w' => v = .tuple ⟨[.string ⟨⟨decDigits (m * n)⟩⟩, .int .i64 0]⟩ ∧ Below w.heap.size w w') := by
  have h1 := hx.form hj
  have h2 := hy.form hk
  refine (natMul_calls x y (by omega) (by omega) w ht).mono ?_
  rintro e w' ⟨v, rfl, h, hB⟩
  refine ⟨v, rfl, ?_, hB⟩
  have := h.uniq (.inr ⟨num_ok2 hx hy hj hk, .inl ⟨by rw [h1.2.2, h2.2.2]; exact ho, rfl⟩⟩)
  rwa [h1.2.2, h2.2.2] at this
theorem ndiv_zero {x y : List UInt8} {m j k : Nat} (hx : Num j x m) (hy : Num k y 0) (hj : j ≤ 4000) (hk : k ≤ 4000) (w : World) (ht : TabOk w) :
    Calls Tryz.prog 19 #[.string ⟨⟨x⟩⟩, .string ⟨⟨y⟩⟩] w (Ret fun v w' => v = .tuple ⟨[.string ⟨⟨[]⟩⟩, .string ⟨⟨[]⟩⟩, .int .i64 6]⟩ ∧ Below w.heap.size w w') := by
  have h1 := hx.form hj
  have h2 := hy.form hk
  refine (natDivMod_calls x y (by omega) (by omega) w ht).mono ?_
  rintro e w' ⟨v, rfl, h, hB⟩
  exact ⟨v, rfl, h.uniq (.inr (.inl ⟨num_ok2 hx hy hj hk, h2.2.2, rfl⟩)), hB⟩
theorem ntoint_range {x : List UInt8} {m k : Nat} (hx : Num k x m) (hk : k ≤ 4000) (hm : 9223372036854775807 < m) (w : World) (he : ErrOk w) :
    Calls Tryz.prog 13 #[.string ⟨⟨x⟩⟩] w (Ret fun v w' => v = .tuple ⟨[.int .i64 0, .int .i64 2]⟩ ∧ Below w.heap.size w w') := by
  have h1 := hx.form hk
  refine (natToInt_calls x (by omega) w he).mono ?_
  rintro e w' ⟨v, rfl, h, hB⟩
  exact ⟨v, rfl, h.uniq (.inr (.inl ⟨num_chk hx hk, by rw [h1.2.2]; exact hm, rfl⟩)), hB⟩
theorem ncheck_is {x : List UInt8} {e : Int} (hx : x.length ≤ 1099511627776) (h : Chk x e) (w : World) :
    Calls Tryz.prog 25 #[.string ⟨⟨x⟩⟩] w (Ret fun v w' => v = .int .i64 e ∧ Below w.heap.size w w') := by
  refine (check_calls x hx w).mono ?_
  rintro e' w' ⟨v, rfl, ⟨e2, rfl, hc⟩, hB⟩
  exact ⟨_, rfl, by rw [chk_uniq hc h], hB⟩
theorem not_form_lead {r : List UInt8} (hr : r ≠ []) : Chk (48 :: r) 3 := .inr (.inr ⟨fun h => by
  rcases h.2.1 with h | h
  · exact hr (List.cons.inj h).2
  · exact h rfl, rfl⟩)
theorem not_form_digit {c : UInt8} {r : List UInt8} (hc : c.toNat < 48 ∨ 57 < c.toNat) : Chk (c :: r) 3 := .inr (.inr ⟨fun h => by
  have := h.2.2 c (by simp)
  unfold isD at this; omega, rfl⟩)
theorem ncmp_bad {x y : List UInt8} {e : Int} (hx : x.length ≤ 1099511627776) (hy : y.length ≤ 1099511627776) (h : Chk2 x y e) (he : e ≠ 0) (w : World) :
    Calls Tryz.prog 18 #[.string ⟨⟨x⟩⟩, .string ⟨⟨y⟩⟩] w (Ret fun v w' => v = .int .i64 0 ∧ Below w.heap.size w w') := by
  refine (natCmp_calls x y hx hy w).mono ?_
  rintro e' w' ⟨v, rfl, ⟨e2, hc, rfl⟩, hB⟩
  exact ⟨_, rfl, by rw [chk2_uniq hc h, if_pos he], hB⟩

theorem blen8 : blen 8 = 4 := by
  rw [blen_pos (by omega), blen_pos (by omega), blen_pos (by omega), blen_pos (by omega)]
  show blen 0 + 1 + 1 + 1 + 1 = 4
  rw [blen_zero]

theorem natNames_calls (w0 : World) (ht0 : TabOk w0) (he0 : ErrOk w0) :
    Calls Tryz.prog 5 #[] w0 (Ret fun v w' => v = .bool true ∧ Below w0.heap.size w0 w') := by
  have hW0 := Below.refl w0.heap.size w0
  have hbig := nines_num 4000 (by omega)
  have hbigd := dval_nines 4000
  have hbD : nDigits (dval (List.replicate 4000 57) + 1) = 4000 + 1 := by rw [hbigd]; exact nD_ten 4000
  have hover := nines_over 4001 (by omega)
  have hov2 : (List.replicate 4001 (57 : UInt8)).length ≤ 1099511627776 := by rw [List.length_replicate]; omega
  have hn1 := nines_calls 4000 (by omega) (by omega)
  have hn2 := nines_calls 4001 (by omega) (by omega)
  clear hbigd
  generalize List.replicate 4000 (57 : UInt8) = big at *
  generalize List.replicate 4001 (57 : UInt8) = big1 at *
  generalize dval big = N at *
  refine enter Tryz.func5 rfl Tryz.ntmps5 (Nat.le_of_ble_eq_true rfl) ?_
  refine dr U 600 rfl trivial ?_
  refine call (f := 7) rfl rfl cb7 (lives_calls w0 ht0) ?_; rintro v w1 ⟨rfl, hB1⟩; refine ⟨_, rfl, ?_⟩; have ht1 := ht0.below hB1; have hW1 := bl_tr hW0 hB1 hW0.size; refine dr U 600 rfl trivial ?_
  refine call (f := 20) rfl rfl cb20 (hn1 w1) ?_; rintro v w2 ⟨rfl, hB2⟩; refine ⟨_, rfl, ?_⟩; have ht2 := ht1.below hB2; have hW2 := bl_tr hW1 hB2 hW1.size; refine dr U 600 rfl trivial ?_
  refine call (f := 21) rfl rfl cb21 (nadd_calls (x := [57, 57, 57, 57, 57, 57, 57, 57, 57]) (y := [49]) (lit_num (by decide)) (lit_num (by decide)) (by decide) (by decide) w2 ht2) ?_; rintro v w3 ⟨rfl, hB3⟩; refine ⟨_, rfl, ?_⟩; have ht3 := ht2.below hB3; have hW3 := bl_tr hW2 hB3 hW2.size
  rw [lit_eq (l := [49, 48, 48, 48, 48, 48, 48, 48, 48, 48]) (by decide) (by decide)]
  refine dr U 600 rfl trivial ?_
  refine call (f := 22) rfl rfl cb22 (nsub_calls (x := [49, 48, 48, 48, 48, 48, 48, 48, 48, 48]) (y := [49]) (lit_num (by decide)) (lit_num (by decide)) (by decide) (by decide) (by decide) w3 ht3) ?_; rintro v w4 ⟨rfl, hB4⟩; refine ⟨_, rfl, ?_⟩; have ht4 := ht3.below hB4; have hW4 := bl_tr hW3 hB4 hW3.size
  rw [lit_eq (l := [57, 57, 57, 57, 57, 57, 57, 57, 57]) (by decide) (by decide)]
  refine dr U 600 rfl trivial ?_
  refine call (f := 22) rfl rfl cb22 (nsub_range (x := [49]) (y := [50]) (lit_num (by decide)) (lit_num (by decide)) (by decide) (by decide) (by decide) w4 ht4) ?_; rintro v w5 ⟨rfl, hB5⟩; refine ⟨_, rfl, ?_⟩; have ht5 := ht4.below hB5; have hW5 := bl_tr hW4 hB5 hW4.size; refine dr U 600 rfl trivial ?_
  refine call (f := 21) rfl rfl cb21 (nadd_over hbig num_one (by omega) (by omega) (by omega) w5 ht5) ?_; rintro v w6 ⟨rfl, hB6⟩; refine ⟨_, rfl, ?_⟩; have ht6 := ht5.below hB6; have hW6 := bl_tr hW5 hB6 hW5.size; refine dr U 600 rfl trivial ?_
  refine call (f := 22) rfl rfl cb22 (nsub_calls hbig hbig (by omega) (by omega) (Nat.le_refl _) w6 ht6) ?_; rintro v w7 ⟨rfl, hB7⟩; refine ⟨_, rfl, ?_⟩; have ht7 := ht6.below hB7; have hW7 := bl_tr hW6 hB7 hW6.size
  rw [Nat.sub_self, lit_eq (l := [48]) (by decide) (by decide)]
  refine dr U 600 rfl trivial ?_
  refine call (f := 23) rfl rfl cb23 (ngcd_calls (x := [52, 54, 50]) (y := [49, 48, 55, 49]) (lit_num (by decide)) (lit_num (by decide)) (by decide) (by decide) w7 ht7) ?_; rintro v w8 ⟨rfl, hB8⟩; refine ⟨_, rfl, ?_⟩; have ht8 := ht7.below hB8; have hW8 := bl_tr hW7 hB8 hW7.size
  rw [lit_eq (l := [50, 49]) (by decide) (by decide)]
  refine dr U 600 rfl trivial ?_
  refine call (f := 23) rfl rfl cb23 (ngcd_calls (x := [48]) (y := [53]) (lit_num (by decide)) (lit_num (by decide)) (by decide) (by decide) w8 ht8) ?_; rintro v w9 ⟨rfl, hB9⟩; refine ⟨_, rfl, ?_⟩; have ht9 := ht8.below hB9; have hW9 := bl_tr hW8 hB9 hW8.size
  rw [lit_eq (l := [53]) (by decide) (by decide)]
  refine dr U 600 rfl trivial ?_
  refine call (f := 23) rfl rfl cb23 (ngcd_calls (x := [48]) (y := [48]) (lit_num (by decide)) (lit_num (by decide)) (by decide) (by decide) w9 ht9) ?_; rintro v w10 ⟨rfl, hB10⟩; refine ⟨_, rfl, ?_⟩; have ht10 := ht9.below hB10; have hW10 := bl_tr hW9 hB10 hW9.size
  rw [lit_eq (l := [48]) (by decide) (by decide)]
  refine dr U 600 rfl trivial ?_
  refine call (f := 9) rfl rfl cb9 (npow_calls (x := [48]) (k := 0) (lit_num (by decide)) (by decide) (by decide) (by rw [Nat.pow_zero, nDigits_small (by omega)]; omega) w10 ht10) ?_; rintro v w11 ⟨rfl, hB11⟩; refine ⟨_, rfl, ?_⟩; have ht11 := ht10.below hB11; have hW11 := bl_tr hW10 hB11 hW10.size
  rw [Nat.pow_zero, lit_eq (l := [49]) (by decide) (by decide)]
  refine dr U 600 rfl trivial ?_
  refine call (f := 9) rfl rfl cb9 (npow10_over 4000 (by omega) (by omega) w11 ht11) ?_; rintro v w12 ⟨rfl, hB12⟩; refine ⟨_, rfl, ?_⟩; have ht12 := ht11.below hB12; have hW12 := bl_tr hW11 hB12 hW11.size; refine dr U 600 rfl trivial ?_
  refine call (f := 9) rfl rfl cb9 (npow10_calls 3999 (by omega) (by omega) w12 ht12) ?_
  rintro v w13 ⟨⟨p10, hp10, rfl⟩, hB13⟩
  refine ⟨_, rfl, ?_⟩
  have ht13 := ht12.below hB13
  have hW13 := bl_tr hW12 hB13 hW12.size
  refine dr U 600 rfl trivial ?_
  refine call (f := 9) rfl rfl cb9 (npowneg_calls [49, 48] 2 _ (lit_num (by decide)) (by omega) w13 ht13) ?_; rintro v w14 ⟨rfl, hB14⟩; refine ⟨_, rfl, ?_⟩; have ht14 := ht13.below hB14; have hW14 := bl_tr hW13 hB14 hW13.size; refine dr U 600 rfl trivial ?_
  refine call (f := 13) rfl rfl cb13 (ntoint_calls (x := [57, 50, 50, 51, 51, 55, 50, 48, 51, 54, 56, 53, 52, 55, 55, 53, 56, 48, 55]) (m := 9223372036854775807) (k := 19) (lit_num (by decide)) (by decide) (by decide) w14 (he0.below hW14)) ?_
  rintro v w15 ⟨rfl, hB15⟩
  refine ⟨_, rfl, ?_⟩
  have ht15 := ht14.below hB15
  have hW15 := bl_tr hW14 hB15 hW14.size
  refine dr U 600 rfl trivial ?_
  refine call (f := 13) rfl rfl cb13 (ntoint_range (x := [57, 50, 50, 51, 51, 55, 50, 48, 51, 54, 56, 53, 52, 55, 55, 53, 56, 48, 56]) (m := 9223372036854775808) (k := 19) (lit_num (by decide)) (by decide) (by decide) w15 (he0.below hW15)) ?_
  rintro v w16 ⟨rfl, hB16⟩
  refine ⟨_, rfl, ?_⟩
  have ht16 := ht15.below hB16
  have hW16 := bl_tr hW15 hB16 hW15.size
  refine dr U 600 rfl trivial ?_
  refine call (f := 14) rfl rfl cb14 (nbits_calls (x := [56]) (m := 8) (k := 1) (lit_num (by decide)) (by decide) w16) ?_
  rintro v w17 ⟨rfl, hB17⟩
  refine ⟨_, rfl, ?_⟩
  have ht17 := ht16.below hB17
  have hW17 := bl_tr hW16 hB17 hW16.size
  rw [blen8]
  refine dr U 600 rfl trivial ?_
  refine call (f := 19) rfl rfl cb19 (ndiv_zero (x := [53]) (y := [48]) (lit_num (by decide)) num_zero (by decide) (by decide) w17 ht17) ?_; rintro v w18 ⟨rfl, hB18⟩; refine ⟨_, rfl, ?_⟩; have ht18 := ht17.below hB18; have hW18 := bl_tr hW17 hB18 hW17.size; refine dr U 600 rfl trivial ?_
  refine call (f := 24) rfl rfl cb24 (nmul_fit hbig num_one (by omega) (by omega) (by rw [Nat.mul_one]; exact hbig.2) w18 ht18) ?_; rintro v w19 ⟨rfl, hB19⟩; refine ⟨_, rfl, ?_⟩; have ht19 := ht18.below hB19; have hW19 := bl_tr hW18 hB19 hW18.size
  rw [Nat.mul_one, ← hbig.1]
  refine dr U 600 rfl trivial ?_
  refine cF rfl rfl rfl (fun h => h rfl) ?_; refine dr U 600 rfl trivial ?_
  refine cF rfl rfl rfl (fun h => h rfl) ?_; refine dr U 600 rfl trivial ?_
  refine cF rfl rfl rfl (fun h => h rfl) ?_; refine dr U 600 rfl trivial ?_
  refine cF rfl rfl rfl (fun h => h rfl) ?_; refine dr U 600 rfl trivial ?_
  refine cF rfl rfl rfl (fun h => h rfl) ?_; refine dr U 600 rfl trivial ?_
  refine cF rfl rfl rfl (fun h => h rfl) ?_; refine dr U 600 rfl trivial ?_
  refine cF rfl rfl rfl (fun h => h rfl) ?_; refine dr U 600 rfl trivial ?_
  refine cF rfl rfl rfl (fun h => h rfl) ?_; refine dr U 600 rfl trivial ?_
  refine cF rfl rfl rfl (fun h => h rfl) ?_; refine dr U 600 rfl trivial ?_
  refine cF rfl rfl rfl (fun h => h rfl) ?_; refine dr U 600 rfl trivial ?_
  refine cF rfl rfl rfl (fun h => h rfl) ?_; refine dr U 600 rfl trivial ?_
  refine cF rfl rfl rfl (fun h => h rfl) ?_; refine dr U 600 rfl trivial ?_
  refine cF rfl rfl rfl (fun h => h rfl) ?_; refine dr U 600 rfl trivial ?_
  refine cF rfl rfl rfl (fun h => h rfl) ?_; refine dr U 600 rfl trivial ?_
  refine cF rfl rfl rfl (fun h => h rfl) ?_; refine dr U 600 rfl trivial ?_
  refine cF rfl rfl rfl (fun h => h (by omega)) ?_; refine dr U 600 rfl trivial ?_
  refine cF rfl rfl rfl (fun h => h rfl) ?_; refine dr U 600 rfl trivial ?_
  refine cF rfl rfl rfl (fun h => h rfl) ?_; refine dr U 600 rfl trivial ?_
  have hone := npow01_calls 1 9223372036854775807 (by omega) (by omega) (by omega) w19 ht19
  rw [← num_one.1] at hone
  refine call (f := 9) rfl rfl cb9 hone ?_
  rintro v w20 ⟨rfl, hB20⟩
  refine ⟨_, rfl, ?_⟩
  have ht20 := ht19.below hB20
  have hW20 := bl_tr hW19 hB20 hW19.size
  refine dr U 600 rfl trivial ?_
  have hzero := npow01_calls 0 9223372036854775807 (by omega) (by omega) (by omega) w20 ht20
  rw [← num_zero.1] at hzero
  refine call (f := 9) rfl rfl cb9 hzero ?_
  rintro v w21 ⟨rfl, hB21⟩
  refine ⟨_, rfl, ?_⟩
  have ht21 := ht20.below hB21
  have hW21 := bl_tr hW20 hB21 hW20.size
  refine dr U 600 rfl trivial ?_
  refine call (f := 9) rfl rfl cb9 (npow2_over 9223372036854775807 (by omega) (by omega) w21 ht21) ?_; rintro v w22 ⟨rfl, hB22⟩; refine ⟨_, rfl, ?_⟩; have ht22 := ht21.below hB22; have hW22 := bl_tr hW21 hB22 hW21.size; refine dr U 600 rfl trivial ?_
  refine cT rfl rfl rfl (rfl) ?_; refine dr U 600 rfl trivial ?_
  refine cT rfl rfl rfl (rfl) ?_; refine dr U 600 rfl trivial ?_
  refine cT rfl rfl rfl (rfl) ?_; refine dr U 600 rfl trivial ?_
  refine cT rfl rfl rfl (rfl) ?_; refine dr U 600 rfl trivial ?_
  refine cT rfl rfl rfl (rfl) ?_; refine dr U 600 rfl trivial ?_
  refine cT rfl rfl rfl (rfl) ?_; refine dr U 600 rfl trivial ?_
  refine cT rfl rfl rfl (rfl) ?_; refine dr U 600 rfl trivial ?_
  refine cT rfl rfl rfl (rfl) ?_; refine dr U 600 rfl trivial ?_
  refine cT rfl rfl rfl (rfl) ?_; refine dr U 600 rfl trivial ?_
  refine cT rfl rfl rfl (rfl) ?_; refine dr U 600 rfl trivial ?_
  refine cT rfl rfl rfl (rfl) ?_; refine dr U 600 rfl trivial ?_
  refine call (f := 25) rfl rfl cb25 (ncheck_is (by decide) (not_form_lead (by decide)) w22) ?_; rintro v w23 ⟨rfl, hB23⟩; refine ⟨_, rfl, ?_⟩; have ht23 := ht22.below hB23; have hW23 := bl_tr hW22 hB23 hW22.size; refine dr U 600 rfl trivial ?_
  refine cT rfl rfl rfl (rfl) ?_; refine dr U 600 rfl trivial ?_
  refine call (f := 25) rfl rfl cb25 (ncheck_is (x := []) (by decide) (.inr (.inr ⟨fun h => h.1 rfl, rfl⟩)) w23) ?_; rintro v w24 ⟨rfl, hB24⟩; refine ⟨_, rfl, ?_⟩; have ht24 := ht23.below hB24; have hW24 := bl_tr hW23 hB24 hW23.size; refine dr U 600 rfl trivial ?_
  refine cT rfl rfl rfl (rfl) ?_; refine dr U 600 rfl trivial ?_
  refine call (f := 25) rfl rfl cb25 (ncheck_is (by decide) (num_chk num_zero (by omega)) w24) ?_; rintro v w25 ⟨rfl, hB25⟩; refine ⟨_, rfl, ?_⟩; have ht25 := ht24.below hB25; have hW25 := bl_tr hW24 hB25 hW24.size; refine dr U 600 rfl trivial ?_
  refine cT rfl rfl rfl (rfl) ?_; refine dr U 600 rfl trivial ?_
  refine call (f := 25) rfl rfl cb25 (ncheck_is (by decide) (not_form_digit (.inl (by decide))) w25) ?_; rintro v w26 ⟨rfl, hB26⟩; refine ⟨_, rfl, ?_⟩; have ht26 := ht25.below hB26; have hW26 := bl_tr hW25 hB26 hW25.size; refine dr U 600 rfl trivial ?_
  refine cT rfl rfl rfl (rfl) ?_; refine dr U 600 rfl trivial ?_
  refine call (f := 20) rfl rfl cb20 (hn2 w26) ?_; rintro v w27 ⟨rfl, hB27⟩; refine ⟨_, rfl, ?_⟩; have ht27 := ht26.below hB27; have hW27 := bl_tr hW26 hB27 hW26.size; refine dr U 600 rfl trivial ?_
  refine call (f := 25) rfl rfl cb25 (ncheck_is hov2 hover w27) ?_; rintro v w28 ⟨rfl, hB28⟩; refine ⟨_, rfl, ?_⟩; have ht28 := ht27.below hB28; have hW28 := bl_tr hW27 hB28 hW27.size; refine dr U 600 rfl trivial ?_
  refine cT rfl rfl rfl (rfl) ?_; refine dr U 600 rfl trivial ?_
  refine call (f := 18) rfl rfl cb18 (ncmp_bad (e := 3) (by decide) (by decide) ⟨3, 0, not_form_digit (.inr (by decide)), num_chk num_one (by omega), by simp⟩ (by decide) w28) ?_; rintro v w29 ⟨rfl, hB29⟩; refine ⟨_, rfl, ?_⟩; have ht29 := ht28.below hB29; have hW29 := bl_tr hW28 hB29 hW28.size; refine dr U 600 rfl trivial ?_
  refine cT rfl rfl rfl (rfl) ?_; refine dr U 600 rfl trivial ?_
  exact ret Tryz.results5 rfl ⟨_, rfl, rfl, hW29⟩
end Go.Proofs.YtnohojjjfconfaaGreatDoor
end
