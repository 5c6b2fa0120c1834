/-
  What the rows of this seat share: the listed table of powers of ten is laid, and a law that returns true and leaves older memory alone meets its row.
  No conditions: each theorem names its own premises.
-/
import Derived.Test.YtfdekppnilffeaaGreatDoorYFmt
import Derived.Test.YtfdekppnilffeaaGreatDoorTie
import Derived.Test.YtfdekppnilffeaaGreatDoorCards
import Derived.ProofKit
import Derived.OpenShut
import Derived.LaidMore
import Derived.Lay
import Derived.SevenTiedAt
import Derived.Stop.Joined
import Derived.Lib.LaidTab
import Derived.Carry
namespace Go.Proofs.YtfdekppnilffeaaGreatDoor
open Go Go.Proofs Go.RowKit Go.Lib Go.ChangeShapes Go.WideShapes Go.ChangeAt

theorem own : ownKnob Tryz.prog.godebug = none := by kernel_rfl

theorem laid_mem {P : Program} {w : World} : ∀ {laid : List (String × DataW Unit)} {ps : List MemPlace}, DataW.LaidVars P w laid ps → ∀ n d, (n, d) ∈ laid →
    ∃ g t cs fuel p, P.globalNamed n = some g ∧ (P.globals[g]?).map (·.type) = some t ∧ w.var? P n = some cs ∧ DataW.trod (fun _ => ()) P w 0 (fun _ => true) false fuel t cs.toList = some (d, p)
  | [], _, _, _, _, h => by cases h
  | (n, d) :: r, _, ⟨g, t, cs, fuel, p, q, h1, h2, h3, h4, h5, _⟩, n', d', h => by
    rcases List.mem_cons.1 h with h | h
    · cases h; exact ⟨g, t, cs, fuel, p, h1, h2, h3, h4⟩
    · exact laid_mem h5 n' d' h

theorem tab_of_laid {laid : List (String × DataW Unit)} {W : World} (hp : (laid.all fun x => x.2.handleName?.isNone) = true) (hm : ("internal/strconv.uint64pow10", (tabData .u64 pow10Tab : DataW Unit)) ∈ laid) (h : laidMetH Tryz.prog laid W) : TabOk W := by
  rw [MakeChecks.laidMetH_plain _ _ _ hp] at h
  obtain ⟨ps, hv, _⟩ := h
  obtain ⟨g, t, cs, fuel, p, h1, h2, h3, h4⟩ := laid_mem hv _ _ hm
  have hg : Tryz.prog.globalNamed "internal/strconv.uint64pow10" = some 1 := by kernel_rfl
  obtain rfl := Option.some.inj (hg.symm.trans h1)
  have ht : (Tryz.prog.globals[1]?).map (·.type) = some 206 := by kernel_rfl
  obtain rfl := Option.some.inj (ht.symm.trans h2)
  have hc := cells_of_tab (zs := pow10Tab) Tryz.underlying206 Tryz.underlying142 (by kernel_rfl) (by kernel_rfl) h4
  unfold World.var? at h3
  rw [h1, Option.bind_some] at h3
  split at h3
  · rename_i cs' t' x' he
    obtain rfl := Option.some.inj h3
    refine ⟨t', x', ?_⟩
    rw [he, ← hc]
  · cases h3

end Go.Proofs.YtfdekppnilffeaaGreatDoor
