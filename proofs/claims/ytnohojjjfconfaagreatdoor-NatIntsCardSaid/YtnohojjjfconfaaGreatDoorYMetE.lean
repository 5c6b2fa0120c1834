/-
  What the rows share besides: the library's error of range is laid.
  No conditions: each theorem names its own premises.
-/
import Derived.Test.YtnohojjjfconfaaGreatDoorYMet
import Derived.Test.YtnohojjjfconfaaGreatDoorYNatE
namespace Go.Proofs.YtnohojjjfconfaaGreatDoor
open Go Go.Proofs Go.RowKit Go.Lib Go.ChangeShapes Go.WideShapes Go.ChangeAt

theorem iface_of_trod {H : Type} {enc : TypeId × Value → H} {P : Program} {w : World} {base : Nat} {sp : Nat → Bool} {held : Bool} {fuel : Nat} {t : TypeId} {ms : Array (String × TypeId)} {cs : List Value} {x : DataW H × List MemPlace} (ht : P.underlying t = some (.interface ms))
    (h : DataW.trod enc P w base sp held fuel t cs = some x) : cs = [.nilIface] ∨ ∃ u v, cs = [.iface u v] := by
  cases fuel with
  | zero => simp [DataW.trod] at h
  | succ fuel =>
    match cs with
    | [] => simp [DataW.trod, ht] at h
    | [v] =>
      cases v <;> first
        | exact .inl rfl
        | exact .inr ⟨_, _, rfl⟩
        | (simp [DataW.trod, ht] at h)
    | _ :: _ :: _ => simp [DataW.trod, ht] at h

theorem err_of_laid {laid : List (String × DataW Unit)} {d : DataW Unit} {W : World} (hp : (laid.all fun x => x.2.handleName?.isNone) = true) (hm : ("strconv.ErrRange", d) ∈ laid) (h : laidMetH Tryz.prog laid W) : ErrOk W := by
  rw [MakeChecks.laidMetH_plain _ _ _ hp] at h
  obtain ⟨ps, hv, _⟩ := h
  obtain ⟨g, t, cs, fuel, p, h1, h2, h3, h4⟩ := laid_mem hv _ _ hm
  have hg : Tryz.prog.globalNamed "strconv.ErrRange" = some 1 := by kernel_rfl
  obtain rfl := Option.some.inj (hg.symm.trans h1)
  have ht : (Tryz.prog.globals[1]?).map (·.type) = some 58 := by kernel_rfl
  obtain rfl := Option.some.inj (ht.symm.trans h2)
  have hc := iface_of_trod Tryz.underlying58 h4
  unfold World.var? at h3
  rw [h1, Option.bind_some] at h3
  split at h3
  · rename_i cs' t' x' he
    obtain rfl := Option.some.inj h3
    have hcell : ∀ v, cs'.toList = [v] → W.cell? ⟨1, 0, none⟩ = some v := fun v hv => by
      obtain ⟨l⟩ := cs'
      simp at hv
      subst hv
      simp [World.cell?, he]
    rcases hc with hc | ⟨u, v, hc⟩
    · exact ⟨_, hcell _ hc, .inl rfl⟩
    · exact ⟨_, hcell _ hc, .inr ⟨_, _, rfl⟩⟩
  · cases h3
end Go.Proofs.YtnohojjjfconfaaGreatDoor
