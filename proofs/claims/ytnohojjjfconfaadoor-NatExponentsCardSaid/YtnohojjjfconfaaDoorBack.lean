/-
  Walks of slices.Backward and its iterator, and of cmp.Compare.
  No conditions but the ones each theorem names.
-/
import Derived.Test.YtnohojjjfconfaaDoorLmC
import Derived.Test.YtnohojjjfconfaaDoorSto
set_option linter.unusedSimpArgs false
set_option linter.unusedVariables false
namespace Go.Proofs.YtnohojjjfconfaaDoor
open Go Go.Proofs Go.RowKit

theorem l2 {k : IntKind} {x y : Int} {v : Value} (h : x = y) : [Value.int k x, v] = [Value.int k y, v] := by rw [h]

theorem back_calls (a : Option Addr) (m c : Nat) (w : World) : Calls Tryd.prog 47 #[.slice a m c] w
    (Ret fun v w' => v = .func (.func 57) ⟨[]⟩ ⟨[.pointer (some ⟨w.heap.size, 0, none⟩)]⟩ ∧ w'.heap.size = w.heap.size + 1 ∧ Bk w' w.heap.size 40 [.slice a m c] ∧ w.grownBy w' none) := by
  refine enter Tryd.func47 rfl Tryd.ntmps47 (Nat.le_of_ble_eq_true rfl) ?_
  refine dr U 600 rfl trivial ?_
  refine bx rfl rfl rfl rfl ?_
  rintro b w1 rfl hs hb hg
  refine dr U 600 rfl trivial ?_
  refine ret Tryd.results47 rfl ⟨_, rfl, rfl, hs, hb, hg⟩

/-- The iterator: it goes through the slice from its end. -/
theorem back_seq (a : Option Addr) (m c b : Nat) (okv : Nat → Value → Prop) (G : World → Prop) (hm : m ≤ 1099511627776)
    (hG : ∀ w, G w → Bk w b 40 [.slice a m c] ∧ ∃ vs, Sl w a vs ∧ vs.length = m ∧ ∀ i v, vs[i]? = some v → okv i v) :
    SeqN Tryd.prog 57 [.pointer (some ⟨b, 0, none⟩)] m (fun k vs => ∃ v, vs = [.int .i64 ((m - 1 - k : Nat) : Int), v] ∧ okv (m - 1 - k) v) G := by
  intro L J Jx W hY h0 hg0
  refine enter Tryd.func57 rfl Tryd.ntmps57 (Nat.le_of_ble_eq_true rfl) ?_
  refine dr U 600 rfl trivial ?_
  refine ld U rfl rfl rfl rfl ((hG _ hg0).1.cell rfl) ?_
  refine dr U 600 rfl (by first | exact True.intro | (simp only [AllP, InR, List.nil_append, List.cons_append, and_true]; omega)) ?_
  refine loopR (fun l w' j => ∃ k, l = [(0, .func (.yield L) ⟨[]⟩ ⟨[]⟩), (1, .pointer (some ⟨b, 0, none⟩)), (3, .int .i64 ((j : Int) - 1))] ∧ k + j = m ∧ J k w' ∧ G w') (m0 := m) ⟨0, rfl, by omega, h0, hg0⟩ ⟨rfl, rfl, rfl, trivial⟩ ?_
  rintro l w' j ⟨k, rfl, hk, hJ, hg⟩
  refine dr U 600 rfl trivial ?_
  refine cS rfl rfl rfl rfl (fun hq => ?_) (fun hq => ?_)
  · obtain ⟨j, rfl⟩ : ∃ i, j = i + 1 := ⟨j - 1, by omega⟩
    obtain ⟨hb, vs, hsl, hlen, hok⟩ := hG _ hg
    have hj : j < vs.length := by omega
    refine dr U 600 rfl trivial ?_
    refine ld U rfl rfl rfl rfl (hb.cell rfl) ?_
    refine dr U 600 rfl trivial ?_
    refine il U rfl rfl rfl rfl rfl rfl rfl (fun _ => rfl) rfl j (by omega) (by omega) hsl (List.getElem?_eq_getElem hj) ?_
    refine dr U 600 rfl trivial ?_
    refine yld rfl rfl (hY k w' _ (by omega) hJ hg ⟨vs[j], l2 (by omega), ?_⟩) ?_
    · exact hok _ _ (by rw [show m - 1 - k = j by omega]; exact List.getElem?_eq_getElem hj)
    rintro bb w1 ⟨h1, h2⟩
    refine ⟨_, rfl, ?_⟩
    cases bb with
    | true =>
      obtain ⟨hJ1, hg1⟩ := h1 rfl
      refine dr U 600 rfl (by first | exact True.intro | (simp only [AllP, InR, List.nil_append, List.cons_append, and_true]; omega)) ?_
      exact rend _ j ⟨k + 1, rfl, by omega, hJ1, hg1⟩ (by omega) ⟨rfl, rfl, iv (by omega), trivial⟩
    | false =>
      refine dr U 600 rfl trivial ?_
      exact ret Tryd.results57 rfl ⟨_, rfl, .inr (h2 rfl)⟩
  · obtain rfl : j = 0 := by omega
    obtain rfl : k = m := by omega
    refine dr U 600 rfl trivial ?_
    exact retN Tryd.results57 rfl ⟨_, rfl, .inl hJ⟩
end Go.Proofs.YtnohojjjfconfaaDoor
