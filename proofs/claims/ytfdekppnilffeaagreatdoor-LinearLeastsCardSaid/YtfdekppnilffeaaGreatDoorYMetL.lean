/-
  What the rows of this seat share where an argument is a list of texts or a list of lists of texts: what it reads as, and how great it may be.
  No conditions: each theorem names its own premises.
-/
import Derived.Test.YtfdekppnilffeaaGreatDoorYMetB
import Derived.Test.YtfdekppnilffeaaGreatDoorYHd
import Derived.SizedLaws
namespace Go.Proofs.YtfdekppnilffeaaGreatDoor
open Go Go.Proofs Go.RowKit Go.Lib Go.WideShapes Go.ChangeAt
open Go.ChangeShapes hiding strs

theorem cells_num : Tryz.prog.cellsOf 34 = 1 := by kernel_rfl
theorem cells_nums : Tryz.prog.cellsOf 23 = 1 := by kernel_rfl
theorem bytes_num : Tryz.prog.bytesOf 34 = 16 := by kernel_rfl
theorem bytes_nums : Tryz.prog.bytesOf 23 = 24 := by kernel_rfl

section
variable {H : Type} {enc : TypeId × Value → H}

set_option maxRecDepth 100000 in
/-- A list of texts, wherever it stands. -/
theorem nums_at {W : World} {fuel : Nat} {cs : List Value} {x : DataW H × List MemPlace} (hf : DataW.trod enc Tryz.prog W 0 (fun _ => true) true fuel 23 cs = some x) :
    ∃ (ls : List Tx) (a : Option Addr) (c : Nat), cs = [.slice a ls.length c] ∧ Sl W a (YtfdekppnilffeaaGreatDoor.strs ls) ∧ ((∀ n ∈ x.1.weights Tryz.prog 23, n ≤ reachBytes) → ls.length ≤ 8796093022208) := by
  rcases Go.ChangeShapes.open_strings Tryz.underlying23 Tryz.underlying34 cells_num hf with ⟨hcs, hx⟩ | ⟨a, len, cap, ss, hcs, _, hl, hm, hz, hx, hcell, hsz⟩
  · exact ⟨[], none, 0, hcs, Sl.nil _ _, fun _ => by simp⟩
  · simp only [if_true] at hz
    have hlen : ((ss.take len).map fun s => s.data.toList).length = len := by simp; omega
    refine ⟨(ss.take len).map fun s => s.data.toList, some a, cap, by rw [hlen]; exact hcs, fun j v hv => ?_, fun hw => ?_⟩
    · have hj : j < len := by
        have := (List.getElem?_eq_some_iff.1 hv).1
        simp [YtfdekppnilffeaaGreatDoor.strs] at this
        omega
      obtain ⟨ab, ao, spot⟩ := a
      have hspot : spot = none := by simpa [Addr.add] using World.cell?_spot (hcell 0 (by omega))
      subst hspot
      refine ⟨ab, ao, rfl, ?_⟩
      have hcj := hcell j (by omega)
      rw [add_plain] at hcj
      rw [hcj]
      have hjz : j < ss.length := by omega
      simp [YtfdekppnilffeaaGreatDoor.strs, hj, hjz] at hv
      rw [← hv]
      simp [List.getD, List.getElem?_eq_getElem hjz]
    · subst hx
      have h1 := hw (((Go.ChangeShapes.strs (ss.take len) : List (DataW H)).length + (Go.ChangeShapes.strs (ss.drop len) : List (DataW H)).length) * Tryz.prog.bytesOf 34) (by
        simp [DataW.weights, Tryz.underlying23])
      rw [bytes_num] at h1
      have h2 : (Go.ChangeShapes.strs (ss.take len) : List (DataW H)).length = len := by simp [Go.ChangeShapes.strs]; omega
      rw [h2] at h1
      rw [hlen]
      unfold reachBytes at h1
      omega
theorem nums_in {W : World} {v : Value} {d : DataW H} {p : List MemPlace} (hval : ∃ a len cap, v = .slice a len cap) (h : DataW.Trod enc Tryz.prog W 0 (fun _ => true) true 23 v d p) :
    ∃ (ls : List Tx) (a : Option Addr) (c : Nat), v = .slice a ls.length c ∧ Lit W v ls ∧ ((∀ n ∈ d.weights Tryz.prog 23, n ≤ reachBytes) → ls.length ≤ 8796093022208) := by
  obtain ⟨a1, len, cap, rfl⟩ := hval
  obtain ⟨fuel, hf⟩ := h
  obtain ⟨ls, a, c, e, hs, hw⟩ := nums_at hf
  have e' : Value.slice a1 len cap = .slice a ls.length c := List.head_eq_of_cons_eq e
  exact ⟨ls, a, c, e', ⟨a, c, e', hs⟩, hw⟩
theorem mem_weightsAll {e : TypeId} {d : DataW H} : ∀ {ds : List (DataW H)}, d ∈ ds → ∀ n ∈ d.weights Tryz.prog e, n ∈ DataW.weightsAll Tryz.prog e ds
  | d' :: ds, h, n, hn => by
    rw [DataW.weightsAll, List.mem_append]
    rcases List.mem_cons.1 h with rfl | h
    · exact .inl hn
    · exact .inr (mem_weightsAll h n hn)
/-- A list of lists of texts. -/
theorem mats_in {W : World} {v : Value} {d : DataW H} {p : List MemPlace} (hval : ∃ a len cap, v = .slice a len cap) (h : DataW.Trod enc Tryz.prog W 0 (fun _ => true) true 22 v d p) :
    ∃ (xss : List (List Tx)) (a : Option Addr) (c : Nat), v = .slice a xss.length c ∧ SM W a xss ∧ ((∀ n ∈ d.weights Tryz.prog 22, n ≤ reachBytes) → FitM xss 1) := by
  obtain ⟨a1, len, cap, rfl⟩ := hval
  obtain ⟨fuel, hf⟩ := h
  have hf : DataW.trod enc Tryz.prog W 0 (fun _ => true) true fuel 22 [.slice a1 len cap] = some (d, p) := hf
  rcases DataW.trod_slice Tryz.underlying22 hf with ⟨hcs, hx⟩ | ⟨a, len', cap', elems, rest, n, _, hcs, hx, hb, hl, hm, hlen, hel, hsp, hns⟩
  · simp at hcs
    obtain ⟨rfl, rfl, rfl⟩ := hcs
    exact ⟨[], none, 0, rfl, SM.nil W, fun _ => ⟨by simp, fun i hi => absurd hi (by simp)⟩⟩
  · simp at hcs
    obtain ⟨rfl, rfl, rfl⟩ := hcs
    rw [cells_nums] at hel
    have each : ∀ i, ∃ q : List Tx × Option Addr × Nat, i < len → W.cell? (a.add i) = some (.slice q.2.1 q.1.length q.2.2) ∧ Sl W q.2.1 (YtfdekppnilffeaaGreatDoor.strs q.1) ∧ ((∀ m ∈ d.weights Tryz.prog 22, m ≤ reachBytes) → q.1.length ≤ 8796093022208) := by
      intro i
      by_cases hi : i < len
      · have h1 := hel i hi
        have hi' : i < elems.length := by omega
        rw [List.getElem?_eq_getElem hi', Option.bind_eq_some_iff, Nat.mul_one] at h1
        obtain ⟨cs', hcs', hy⟩ := h1
        obtain ⟨ls, b, c, rfl, hs, hw⟩ := nums_at hy
        refine ⟨(ls, b, c), fun _ => ⟨cell_of_cells?_one hcs', hs, fun hall => hw fun m hm => hall m ?_⟩⟩
        have hd : d = .slice (elems.map (·.1)) (rest.map (·.1)) := congrArg Prod.fst hx
        rw [hd]
        simp only [DataW.weights, Tryz.underlying22, List.mem_cons, List.mem_append]
        exact .inr (.inl (mem_weightsAll (List.mem_map.2 ⟨elems[i], List.getElem_mem hi', rfl⟩) m hm))
      · exact ⟨([], none, 0), fun h => absurd h hi⟩
    obtain ⟨f, hf'⟩ := Classical.axiomOfChoice each
    have hL : ((List.range len).map fun i => (f i).1).length = len := by simp
    have hrow : ∀ i, i < len → rw' ((List.range len).map fun i => (f i).1) i = (f i).1 := fun i hi => by simp [rw', List.getD, hi]
    refine ⟨(List.range len).map fun i => (f i).1, some a, cap, by rw [hL], ⟨fun i => (f i).2.1, fun i => (f i).2.2, fun j v hv => ?_, fun i hi => ?_⟩, fun hw => ⟨?_, fun i hi => ?_⟩⟩
    · have hj : j < len := by
        have := (List.getElem?_eq_some_iff.1 hv).1
        rw [srws_length, hL] at this
        exact this
      obtain ⟨h1, h2, _⟩ := hf' j hj
      obtain ⟨h0, _, _⟩ := hf' 0 (by omega)
      obtain ⟨ab, ao, spot⟩ := a
      have hspot : spot = none := by simpa [Addr.add] using World.cell?_spot h0
      subst hspot
      refine ⟨ab, ao, rfl, ?_⟩
      rw [add_plain] at h1
      rw [h1]
      rw [srws_get (by rw [hL]; exact hj), hrow j hj] at hv
      exact hv
    · rw [hL] at hi
      rw [hrow i hi]; exact (hf' i hi).2.1
    · have hd : d = .slice (elems.map (·.1)) (rest.map (·.1)) := congrArg Prod.fst hx
      have h1 := hw (((elems.map (·.1)).length + (rest.map (·.1)).length) * Tryz.prog.bytesOf 23) (by
        rw [hd]
        simp only [DataW.weights, Tryz.underlying22, List.mem_cons, List.mem_append]
        exact .inl trivial)
      rw [bytes_nums, List.length_map, hlen] at h1
      rw [hL]
      unfold reachBytes at h1
      omega
    · rw [hL] at hi
      rw [hrow i hi]; exact (hf' i hi).2.2 hw
/-- What is asked of the sizes of an argument. -/
theorem sized_at {ts : List TypeId} {ds : List (DataW H)} (h : (DataW.weightsEach Tryz.prog ts ds).all (· ≤ reachBytes) = true) {j : Nat} {t : TypeId} {d : DataW H} (ht : ts[j]? = some t) (hd : ds[j]? = some d) : ∀ n ∈ d.weights Tryz.prog t, n ≤ reachBytes := fun n hn => by
  have := List.all_eq_true.1 h n (DataW.weights_mem_each ht hd n hn)
  simpa using this
end
end Go.Proofs.YtfdekppnilffeaaGreatDoor
