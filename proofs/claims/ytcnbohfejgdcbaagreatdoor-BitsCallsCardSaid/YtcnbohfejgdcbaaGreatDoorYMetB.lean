/-
  What the rows of this seat share where an argument is a slice of bytes or of strings: what it reads as; a law that returns true and leaves older memory alone meets its row.
  No conditions: each theorem names its own premises.
-/
import Derived.Test.YtcnbohfejgdcbaaGreatDoorYTab
import Derived.Test.YtcnbohfejgdcbaaGreatDoorYMet
import Derived.Test.YtcnbohfejgdcbaaGreatDoorYBl
import Derived.SliceStrings
namespace Go.Proofs.YtcnbohfejgdcbaaGreatDoor
open Go Go.Proofs Go.RowKit Go.Lib Go.WideShapes Go.ChangeAt
open Go.ChangeShapes hiding strs

theorem laidOut : laidOutB Tryz.prog = true := by kernel_rfl
theorem cells_u8 : Tryz.prog.cellsOf 5 = 1 := by kernel_rfl
theorem cells_bits : Tryz.prog.cellsOf 30 = 1 := by kernel_rfl

section
variable {H : Type} {enc : TypeId × Value → H}

set_option maxRecDepth 100000 in
theorem bytes_in {W : World} {base : Nat} {v : Value} {d : DataW H} {p : List MemPlace} (hval : Value.okWide Tryz.prog W .any base 40 v) (h : DataW.Trod enc Tryz.prog W 0 (fun _ => true) true 40 v d p) :
    ∃ (bs : List UInt8) (a : Option Addr) (c : Nat), v = .slice a bs.length c ∧ Sl W a (byteCells bs) ∧ bs.length ≤ c ∧ c ≤ 9223372036854775807 := by
  obtain ⟨a1, len, cap, rfl⟩ := okWide_slice Tryz.underlying40 hval
  obtain ⟨fuel, hf⟩ := h
  rcases Go.ChangeShapes.open_ints Tryz.underlying40 Tryz.underlying5 cells_u8 hf with ⟨hcs, hx⟩ | ⟨a, len', cap', zs, hcs, _, hl, hm, hz, hx, hcell, hwz⟩
  · simp [Value.cells] at hcs
    obtain ⟨rfl, rfl, rfl⟩ := hcs
    exact ⟨[], none, 0, rfl, Sl.nil _ _, Nat.le_refl _, Nat.zero_le _⟩
  · simp [Value.cells] at hcs
    obtain ⟨rfl, rfl, rfl⟩ := hcs
    simp only [if_true] at hz
    have hlen : ((zs.take len).map fun n => UInt8.ofNat n.toNat).length = len := by simp; omega
    refine ⟨(zs.take len).map fun n => UInt8.ofNat n.toNat, some a, cap, by rw [hlen], fun j v hv => ?_, by rw [hlen]; exact hl, by unfold maxLen at hm; omega⟩
    have hj : j < len := by
      have := (List.getElem?_eq_some_iff.1 hv).1
      rwa [byteCells_length, hlen] at this
    obtain ⟨ab, ao, spot⟩ := a
    have hspot : spot = none := by simpa [Addr.add] using World.cell?_spot (hcell 0 (by omega))
    subst hspot
    refine ⟨ab, ao, rfl, ?_⟩
    have hcj := hcell j (by omega)
    rw [add_plain] at hcj
    rw [hcj]
    have hb := Go.range_u8 hwz j
    have hjz : j < zs.length := by omega
    simp [byteCells, hj, hjz] at hv hb
    rw [← hv]
    simp only [List.getD, List.getElem?_eq_getElem hjz, Option.getD_some]
    congr 2
    omega

set_option maxRecDepth 100000 in
theorem strings_in {W : World} {base : Nat} {v : Value} {d : DataW H} {p : List MemPlace} (hval : Value.okWide Tryz.prog W .any base 23 v) (h : DataW.Trod enc Tryz.prog W 0 (fun _ => true) true 23 v d p) :
    ∃ (ls : List (List UInt8)) (a : Option Addr) (c : Nat), v = .slice a ls.length c ∧ Sl W a (strs ls) ∧ ls.length ≤ c ∧ c ≤ 9223372036854775807 ∧ ∀ s ∈ ls, s.length ≤ 9223372036854775807 := by
  obtain ⟨a1, len, cap, rfl⟩ := okWide_slice Tryz.underlying23 hval
  obtain ⟨fuel, hf⟩ := h
  rcases Go.ChangeShapes.open_strings Tryz.underlying23 Tryz.underlying30 cells_bits hf with ⟨hcs, hx⟩ | ⟨a, len', cap', ss, hcs, _, hl, hm, hz, hx, hcell, hsz⟩
  · simp [Value.cells] at hcs
    obtain ⟨rfl, rfl, rfl⟩ := hcs
    exact ⟨[], none, 0, rfl, Sl.nil _ _, Nat.le_refl _, Nat.zero_le _, fun s h => by cases h⟩
  · simp [Value.cells] at hcs
    obtain ⟨rfl, rfl, rfl⟩ := hcs
    simp only [if_true] at hz
    have hlen : ((ss.take len).map fun s => s.data.toList).length = len := by simp; omega
    refine ⟨(ss.take len).map fun s => s.data.toList, some a, cap, by rw [hlen], fun j v hv => ?_, by rw [hlen]; exact hl, by unfold maxLen at hm; omega, fun s hs => ?_⟩
    · have hj : j < len := by
        have := (List.getElem?_eq_some_iff.1 hv).1
        simp [YtcnbohfejgdcbaaGreatDoor.strs] at this
        omega
      obtain ⟨ab, ao, spot⟩ := a
      have hspot : spot = none := by simpa [Addr.add] using World.cell?_spot (hcell 0 (by omega))
      subst hspot
      refine ⟨ab, ao, rfl, ?_⟩
      have hcj := hcell j (by omega)
      rw [add_plain] at hcj
      rw [hcj]
      have hjz : j < ss.length := by omega
      simp [YtcnbohfejgdcbaaGreatDoor.strs, hj, hjz] at hv
      rw [← hv]
      simp [List.getD, List.getElem?_eq_getElem hjz]
    · obtain ⟨t, ht, rfl⟩ := List.mem_map.1 hs
      have := hsz t (List.mem_of_mem_take ht)
      unfold maxLen at this
      have e : t.data.toList.length = t.size := rfl
      omega

/-- The post of a law that returns true. -/
theorem post_mem {P : Program} {f : Func} {s : ChangeSpec} {W W' : World} {args : Array Value} {ds : List (DataW H)} {before pa : List MemPlace} {t : TypeId} (hs : s.vars = [])
    (hW : DataW.Whole enc P f.params.toList s.vars false W args.toList ds [] before) (hr : f.resultTypes = #[t]) (ht : P.underlying t = some .bool)
    (hres : (s.fn H (ds ++ [])).results = [.lit (.bool true)]) (hargs : DataW.TrodAll enc P W' 0 (fun b => decide (b < W.heap.size)) true f.params.toList args.toList (s.fn H (ds ++ [])).args pa)
    (hvars : (s.fn H (ds ++ [])).vars = []) (hB : Below W.heap.size W W') : s.post enc P f false true false false W args (.bool true) W' := by
  have hR : ∀ (b : Nat) (sp : Nat → Bool) (hd : Bool), DataW.TrodAll enc P W' b sp hd f.resultTypes.toList ((Value.bool true).resultList f.resultTypes.size) (s.fn H (ds ++ [])).results [] := by
    intro b sp hd
    rw [hr, hres]
    exact trodAll_mk1 (shut_bool ht _)
  have hV : ∀ sp : Nat → Bool, DataW.TrodVars enc P W' sp s.vars (s.fn H (ds ++ [])).vars [] := by
    intro sp
    rw [hs, hvars]; rfl
  exact ⟨ds, [], before, [], pa, [], hW, hR _ _ _, hargs, hV _, hB.frame _, fun h => by cases h⟩
end
end Go.Proofs.YtcnbohfejgdcbaaGreatDoor
