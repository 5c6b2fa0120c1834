/-
  Walks of the law package's helpers: sum, product, valid.
  Conditions: texts are no longer than an int can tell; the library's table of powers of ten is laid.
-/
import Derived.Test.YtnohojjjfconfaaDoorLives
set_option linter.unusedSimpArgs false
set_option linter.unusedVariables false
set_option maxHeartbeats 1000000
namespace Go.Proofs.YtnohojjjfconfaaDoor
open Go Go.Proofs Go.RowKit Go.Lib

section
variable {P : Program} (U : Tys P) {ro : Option Nat} {n : Nat} {ds : List Deferred} {Q : PT} {l l' : Fr} {w w' : World} {arr : Array Oper} {r : List Oper} {k : List It}
/-- A slice of two written-out strings. -/
theorem bss2 {d1 : Nat} {t e ty : TypeId} {x y : Operand} {ps : String} {af : Array Edge} {g1 : Option (Nat × Bool)} {a b z0 : ByteArray} {by_ : Nat}
    (hx : ev l x = some (.string a)) (hy : ev l y = some (.string b)) (ht : U.tb.u t = some (.slice e)) (hi : U.tb.inf e = some (1, by_, .string z0)) (hg1 : gd arr l g1 = some true) (hd1 : Nat.blt d1 n = true)
    (t' : ∀ w1, Bk w1 w.heap.size e [.string a, .string b] → w1.heap.size = w.heap.size + 1 → w.grownBy w1 none → T P ro n ds Q ((d1, .slice (some ⟨w.heap.size, 0, none⟩) 2 2) :: l) w1 (.ops arr r) k) :
    T P ro n ds Q l w (.ops arr (⟨some d1, .buildSlice t 2 #[(0, x), (1, y)], ty, ps, af, g1⟩ :: r)) k := by
  obtain ⟨i, hi0, hz1, hz2, hz3⟩ := U.hi _ _ _ _ hi
  have hpt := U.hu _ _ ht
  refine op1 (w' := w.alloc (.cells #[.string a, .string b] e)) (v := .slice (some ⟨w.heap.size, 0, none⟩) 2 2) (by intro c h; cases h) hg1 (put1_some hd1) (fun act hf => ?_) (t' _ (heap_alloc_new w _) (by simp) (World.grownBy_alloc w _ none))
  simp only [execOp, Instr.buildSlice]
  simp [hf.ev hx, hf.ev hy, run_under hpt, sizeOf, typeInfo, program, Sem.run, hi0, hz1, zeroValue, hz3, Instr.fill, newRow, newObj, Value.cells]
  congr 2
  apply Array.toList_inj.1
  simp [List.range_succ]
/-- A slice of three written-out strings. -/
theorem bss3 {d1 : Nat} {t e ty : TypeId} {x y u : Operand} {ps : String} {af : Array Edge} {g1 : Option (Nat × Bool)} {a b c z0 : ByteArray} {by_ : Nat}
    (hx : ev l x = some (.string a)) (hy : ev l y = some (.string b)) (hu : ev l u = some (.string c)) (ht : U.tb.u t = some (.slice e)) (hi : U.tb.inf e = some (1, by_, .string z0)) (hg1 : gd arr l g1 = some true) (hd1 : Nat.blt d1 n = true)
    (t' : ∀ w1, Bk w1 w.heap.size e [.string a, .string b, .string c] → w1.heap.size = w.heap.size + 1 → w.grownBy w1 none → T P ro n ds Q ((d1, .slice (some ⟨w.heap.size, 0, none⟩) 3 3) :: l) w1 (.ops arr r) k) :
    T P ro n ds Q l w (.ops arr (⟨some d1, .buildSlice t 3 #[(0, x), (1, y), (2, u)], ty, ps, af, g1⟩ :: r)) k := by
  obtain ⟨i, hi0, hz1, hz2, hz3⟩ := U.hi _ _ _ _ hi
  have hpt := U.hu _ _ ht
  refine op1 (w' := w.alloc (.cells #[.string a, .string b, .string c] e)) (v := .slice (some ⟨w.heap.size, 0, none⟩) 3 3) (by intro c h; cases h) hg1 (put1_some hd1) (fun act hf => ?_) (t' _ (heap_alloc_new w _) (by simp) (World.grownBy_alloc w _ none))
  simp only [execOp, Instr.buildSlice]
  simp [hf.ev hx, hf.ev hy, hf.ev hu, run_under hpt, sizeOf, typeInfo, program, Sem.run, hi0, hz1, zeroValue, hz3, Instr.fill, newRow, newObj, Value.cells]
  congr 2
  apply Array.toList_inj.1
  simp [List.range_succ]
end

theorem sum_calls {x y : List UInt8} {m n j k : Nat} (hx : Num j x m) (hy : Num k y n) (hj : j ≤ 3999) (hk : k ≤ 3999) (w : World) (ht : TabOk w) :
    Calls Tryd.prog 14 #[.string ⟨⟨x⟩⟩, .string ⟨⟨y⟩⟩] w (Ret fun v w' => v = .string ⟨⟨decDigits (m + n)⟩⟩ ∧ Below w.heap.size w w') := by
  refine enter Tryd.func14 rfl Tryd.ntmps14 (Nat.le_of_ble_eq_true rfl) ?_
  refine dr U 600 rfl trivial ?_
  refine call (f := 17) rfl rfl cb17 (nadd_calls hx hy hj hk w ht) ?_
  rintro v w1 ⟨rfl, hB⟩
  refine ⟨_, rfl, ?_⟩
  refine dr U 600 rfl trivial ?_
  exact ret Tryd.results14 rfl ⟨_, rfl, rfl, hB⟩
theorem product_calls {x y : List UInt8} {m n j k : Nat} (hx : Num j x m) (hy : Num k y n) (hjk : j + k ≤ 4000) (w : World) (ht : TabOk w) :
    Calls Tryd.prog 11 #[.string ⟨⟨x⟩⟩, .string ⟨⟨y⟩⟩] w (Ret fun v w' => v = .string ⟨⟨decDigits (m * n)⟩⟩ ∧ Below w.heap.size w w') := by
  refine enter Tryd.func11 rfl Tryd.ntmps11 (Nat.le_of_ble_eq_true rfl) ?_
  refine dr U 600 rfl trivial ?_
  refine call (f := 18) rfl rfl cb18 (nmul_calls hx hy hjk w ht) ?_
  rintro v w1 ⟨rfl, hB⟩
  refine ⟨_, rfl, ?_⟩
  refine dr U 600 rfl trivial ?_
  exact ret Tryd.results11 rfl ⟨_, rfl, rfl, hB⟩

/-- A text that valid lets by. -/
def Ok1 (k : Nat) (x : List UInt8) : Prop := Chk x 0 ∧ x.length ≤ k
theorem Ok1.num {k : Nat} {x : List UInt8} (h : Ok1 k x) : Num k x (dval x) := by
  have h1 := chk_ok h.1
  have h2 := dec_of h1.1.2.2 h1.1.1 h1.1.2.1
  exact ⟨h2, by rw [← decDigits_length, ← h2]; exact h.2⟩
theorem chk_one {x : List UInt8} {e : Int} (h : Chk x 0) (h' : Chk x e) : e = 0 := by
  have := chk_ok h
  exact chk_zero this.1 this.2 h'

theorem valid_calls (k : Nat) (xs : List (List UInt8)) (b : Nat) (w : World) (hs : Sl w (some ⟨b, 0, none⟩) (xs.map fun x => .string ⟨⟨x⟩⟩)) (hx : ∀ x ∈ xs, x.length ≤ 9223372036854775806) (hl : xs.length ≤ 1000) (hk : k ≤ 1000000) :
    Calls Tryd.prog 8 #[.int .i64 (k : Nat), .slice (some ⟨b, 0, none⟩) xs.length xs.length] w (Ret fun v w' => (∃ bb, v = .bool bb ∧ (bb = true ↔ ∀ x ∈ xs, Ok1 k x)) ∧ w = w') := by
  refine enter Tryd.func8 rfl Tryd.ntmps8 (Nat.le_of_ble_eq_true rfl) ?_
  refine dr U 600 rfl trivial ?_
  refine loopR (fun l' w' m => ∃ i : Nat, l' = [(0, .int .i64 (k : Nat)), (1, .slice (some ⟨b, 0, none⟩) xs.length xs.length), (5, .int .i64 (i : Nat))] ∧ i ≤ xs.length ∧ (∀ x ∈ xs.take i, Ok1 k x) ∧ w = w' ∧ m = xs.length - i) ⟨0, rfl, by omega, by simp, rfl, rfl⟩ ⟨rfl, rfl, rfl, trivial⟩ ?_
  rintro l' w1 m ⟨i, rfl, hi, hd, rfl, rfl⟩
  refine dr U 600 rfl trivial ?_
  refine cS rfl rfl rfl rfl (fun hq => ?_) (fun hq => ?_)
  · have hi' : i < xs.length := by omega
    have hmem : xs[i] ∈ xs := List.getElem_mem hi'
    have htk : xs.take (i + 1) = xs.take i ++ [xs[i]] := by rw [List.take_succ_eq_append_getElem hi']
    have hget : (xs.map fun x => Value.string ⟨⟨x⟩⟩)[i]? = some (.string ⟨⟨xs[i]⟩⟩) := by simp [hi']
    have hxl := hx _ hmem
    generalize hxx : xs[i] = x at *
    refine dr U 600 rfl trivial ?_
    refine il U rfl rfl rfl rfl rfl rfl rfl (fun _ => rfl) rfl i (by omega) (by omega) hs hget ?_
    refine call (f := 20) rfl rfl cb20 (refCheck_calls x hxl w) ?_
    rintro v w2 ⟨⟨e, rfl, hc⟩, rfl⟩
    refine ⟨_, rfl, ?_⟩
    refine cS rfl rfl rfl rfl (fun hq => ?_) (fun hq => ?_)
    · refine dr U 600 rfl trivial ?_
      refine ret Tryd.results8 rfl ⟨_, rfl, ⟨false, rfl, ⟨fun h => (by cases h), fun h => ?_⟩⟩, rfl⟩
      exact absurd (chk_one (h x hmem).1 hc) hq
    · obtain rfl := Classical.not_not.1 hq
      refine dr U 600 rfl trivial ?_
      refine il U rfl rfl rfl rfl rfl rfl rfl (fun _ => rfl) rfl i (by omega) (by omega) hs hget ?_
      refine dr U 600 rfl trivial ?_
      refine cS rfl rfl rfl rfl (fun hq => ?_) (fun hq => ?_)
      · refine dr U 600 rfl trivial ?_
        refine ret Tryd.results8 rfl ⟨_, rfl, ⟨false, rfl, ⟨fun h => (by cases h), fun h => ?_⟩⟩, rfl⟩
        have := (h x hmem).2
        omega
      · refine dr U 600 rfl (by first | exact True.intro | (simp only [AllP, InR, List.nil_append, List.cons_append, and_true]; omega)) ?_
        refine rend _ _ ⟨i + 1, rfl, by omega, fun c hc2 => ?_, rfl, rfl⟩ (by omega) ⟨rfl, rfl, iv (by omega), trivial⟩
        rw [htk] at hc2
        rcases List.mem_append.1 hc2 with hc2 | hc2
        · exact hd c hc2
        · rw [List.mem_singleton.1 hc2]; exact ⟨hc, by omega⟩
  · obtain rfl : i = xs.length := by omega
    rw [List.take_length] at hd
    refine dr U 600 rfl trivial ?_
    exact ret Tryd.results8 rfl ⟨_, rfl, ⟨true, rfl, ⟨fun _ => hd, fun _ => rfl⟩⟩, rfl⟩
end Go.Proofs.YtnohojjjfconfaaDoor
