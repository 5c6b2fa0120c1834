/-
  What the rows of this seat share where an argument is a slice of bytes or of strings: what it reads as; a law that returns true and leaves older memory alone meets its row.
  No conditions: each theorem names its own premises.
-/
import Derived.Test.YtfdekppnilffeaaGreatDoorYTab
import Derived.Test.YtfdekppnilffeaaGreatDoorYMet
import Derived.Test.YtfdekppnilffeaaGreatDoorYBl
import Derived.SliceStrings
namespace Go.Proofs.YtfdekppnilffeaaGreatDoor
open Go Go.Proofs Go.RowKit Go.Lib Go.WideShapes Go.ChangeAt
open Go.ChangeShapes hiding strs

theorem laidOut : laidOutB Tryz.prog = true := by kernel_rfl
section
variable {H : Type} {enc : TypeId × Value → H}

set_option maxRecDepth 100000 in
/-- The post of a law that returns true. -/
theorem post_mem {P : Program} {f : Func} {s : ChangeSpec} {W W' : World} {args : Array Value} {ds : List (DataW H)} {before pa : List MemPlace} {t : TypeId} (hs : s.vars = [])
    (hW : DataW.Whole enc P f.params.toList s.vars false W args.toList ds [] before) (hr : f.resultTypes = #[t]) (ht : P.underlying t = some .bool)
    (hres : (s.fn H (ds ++ [])).results = [.lit (.bool true)]) (hargs : DataW.TrodAll enc P W' 0 (fun b => decide (b < W.heap.size)) true f.params.toList args.toList (s.fn H (ds ++ [])).args pa)
    (hvars : (s.fn H (ds ++ [])).vars = []) (hB : Below W.heap.size W W') : s.post enc P f false true false false W args (.bool true) W' := by
  have hR : ∀ (b : Nat) (sp : Nat → Bool) (hd : Bool), DataW.TrodAll enc P W' b sp hd f.resultTypes.toList ((Value.bool true).resultList f.resultTypes.size) (s.fn H (ds ++ [])).results [] := by
    intro b sp hd
    rw [hr, hres]
    exact trodAll_mk1 (shut_bool ht _)
  have hV : ∀ sp : Nat → Bool, DataW.TrodVars enc P W' sp s.vars (s.fn H (ds ++ [])).vars [] := by
    intro sp
    rw [hs, hvars]; rfl
  exact ⟨ds, [], before, [], pa, [], hW, hR _ _ _, hargs, hV _, hB.frame _, fun h => by cases h⟩
end
end Go.Proofs.YtfdekppnilffeaaGreatDoor
