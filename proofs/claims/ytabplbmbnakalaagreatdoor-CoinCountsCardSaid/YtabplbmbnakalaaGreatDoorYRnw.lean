/-
  The engine's rule for a range over an iterator function that keeps its place in a variable of its own; proved over the kit's steps of such a loop.
  No conditions: each theorem names its own premises.
-/
import Derived.Test.YtabplbmbnakalaaGreatDoorYRng
set_option linter.unusedVariables false
set_option linter.unusedSimpArgs false
namespace Go.Proofs.YtabplbmbnakalaaGreatDoor
open Go.RowKit

/-- An iterator that calls yield N times, at arguments that ok allows, unless it is told to stop; between two calls it may write into one block of its own. -/
def SeqW (P : Program) (gf : Nat) (lb : List Value) (N : Nat) (ok : Nat → List Value → Prop) (bb bt : Nat) (G : Nat → World → Prop) : Prop :=
  ∀ (L : Nat) (J : Nat → World → Prop) (Jx : World → Prop) (W : World),
    (∀ k W1 vs, k < N → J k W1 → G k W1 → ok k vs → Yld P L vs W1 fun b W' => (b = true → J (k + 1) W' ∧ G k W') ∧ (b = false → Jx W')) →
    (∀ k W1 W2, J k W1 → (∃ cs, Bk W1 bb bt cs) → W1.grownBy W2 (some bb) → J k W2) → J 0 W → G 0 W →
    Calls P gf (Value.func (.yield L) #[] #[] :: lb).toArray W (Ret fun _ W' => J N W' ∨ Jx W')

section
variable {P : Program} {n : Nat} {ds : List Deferred} {Q : PT} {l l' : Fr} {w w' : World} {arr : Array Oper} {r : List Oper} {k : List It}
theorem rngW {g : Operand} {ps : List Tmp} {assign body : Code} {gf N : Nat} {lb : List Value} {ok : Nat → List Value → Prop} {G : Nat → World → Prop} {bb bt : Nat}
    (hg : ev l g = some (.func (.func gf) ⟨[]⟩ ⟨lb⟩)) (hcb : Callable P gf) (hps : ps.all (Nat.blt · n) = true) (hseq : SeqW P gf lb N ok bb bt G) (hok : ∀ k vs, ok k vs → vs.length = ps.length)
    (I : Nat → World → Prop) (Ix : Code → World → Prop) (hI : ∀ k, OwnB w.heap.size (I k)) (hIx : ∀ c, OwnB w.heap.size (Ix c)) (hG : ∀ k, OwnB w.heap.size (G k)) (hst : ∀ k W1 W2, I k W1 → (∃ cs, Bk W1 bb bt cs) → W1.grownBy W2 (some bb) → I k W2) (h0 : I 0 w) (hG0 : G 0 w)
    (l1 : List Value → Fr)
    (hassign : ∀ L j vs W, ok j vs → T P (some L) n [] (AsgPost n (l1 vs) W) (zipF ps vs l) W (.code assign) [])
    (hbody : ∀ L j vs W, j < N → ok j vs → I j W → G j W → w.heap.size ≤ W.heap.size → T P (some L) n [] (RndPost W (I (j + 1)) (G j) Ix) (l1 vs) W (.code body) [])
    (hdone : ∀ D W, w.heap.size ≤ D → I N W → W.heap[D]? = some (.deferred (some [])) → T P none n ({ target := .collected D, args := #[] } :: ds) Q l W .nrm k)
    (hstop : ∀ D c W, w.heap.size ≤ D → Ix c W → W.heap[D]? = some (.deferred (some [])) → T P none n ({ target := .collected D, args := #[] } :: ds) Q l W (.code c) k) :
    T P none n ds Q l w (.code (.rangeFunc g ⟨ps⟩ assign body)) k := by
  intro a hf
  show (Code.rangeFunc g ⟨ps⟩ assign body).wpIn (FW none) 0 P _ a w
  refine wpIn_rangeFunc ?_
  intro fn _
  show ∃ l mark w₁ d w₁' f args w₂, (Instr.enterLoop fn a.tmps ⟨ps⟩ assign body none).run P w = _ ∧ _
  obtain ⟨rec, hrec⟩ : ∃ rec : LoopState → Option Code → Loop, rec = fun st pe => { state := st, pending := pe, fn, tmps := a.tmps, params := ⟨ps⟩, assign, body, defers := w.heap.size } := ⟨_, rfl⟩
  obtain ⟨W1, hW1⟩ : ∃ W1, (w.alloc (.deferred (some []))).alloc (.loop (rec .ready none)) = W1 := ⟨_, rfl⟩
  have hL1 : W1.heap[w.heap.size + 1]? = some (.loop (rec .ready none)) := by
    rw [← hW1]; have := World.alloc_heap_new (w.alloc (.deferred (some []))) (.loop (rec .ready none)); rwa [World.size_alloc] at this
  have hK1 : W1.heap[w.heap.size]? = some (.deferred (some [])) := by
    rw [← hW1]; exact (Below.heap_alloc _ _ _ (by simp)).trans (World.alloc_heap_new w _)
  have hI1 : I 0 W1 := by rw [← hW1]; exact (hI 0).new _ ((hI 0).new _ h0)
  have hG1 : G 0 W1 := by rw [← hW1]; exact (hG 0).new _ ((hG 0).new _ hG0)
  obtain ⟨gfn, hgfn, hname, hbd⟩ := hcb
  refine ⟨w.heap.size + 1, [{ target := .collected w.heap.size, args := #[] }], W1, { target := .fn (.func gf) ⟨lb⟩, args := #[.func (.yield (w.heap.size + 1)) #[] #[]] }, W1, gf,
    (Value.func (.yield (w.heap.size + 1)) #[] #[] :: lb).toArray, W1, ?_, ?_, fun _ _ => trivial, ?_, fun h => by simp [FW] at h, ?_⟩
  · rw [← hW1, hrec]; exact run_enterLoop_outer _ _ _ _ _
  · simp only [resolve, hf.ev hg]
    simp [go_sem]
  · have h1 : ¬ gfn.name = "runtime.NumGoroutine" := by simpa using hname
    have h2 : ¬ gfn.body = none := by intro h; rw [h] at hbd; cases hbd
    simp [invoke, callFunc, program, Sem.run, hgfn, h1, h2]
  · refine ((callsIn_wide (n := 0)).2 (hseq (w.heap.size + 1)
      (fun j W => I j W ∧ w.heap.size ≤ W.heap.size ∧ W.heap[w.heap.size + 1]? = some (.loop (rec .ready none)) ∧ W.heap[w.heap.size]? = some (.deferred (some [])))
      (fun W => ∃ c, Ix c W ∧ W.heap[w.heap.size + 1]? = some (.loop (rec .done (some c))) ∧ W.heap[w.heap.size]? = some (.deferred (some [])))
      W1 ?_ ?_ ⟨hI1, by rw [← hW1]; simp; omega, hL1, hK1⟩ hG1)).mono ?_
    · rintro j W vs hj ⟨hi, hsz, hl, hk⟩ hg2 hvs
      have hlt : w.heap.size + 1 < W.heap.size := (Array.getElem?_eq_some_iff.1 hl).1
      have hy := run_yield (P := P) (args := vs.toArray) hl (by rw [hrec]; simpa using hok j vs hvs)
      rw [hrec] at hy
      refine ⟨fn, _, assign, body, hy, roundIn_of_wpIn trivial ?_⟩
      have hl2 : (W.putObj (w.heap.size + 1) (.loop { rec .ready none with state := .busy })).heap[w.heap.size + 1]? = some (.loop { rec .ready none with state := .busy }) := World.putObj_heap_same hlt
      have hk2 : (W.putObj (w.heap.size + 1) (.loop { rec .ready none with state := .busy })).heap[w.heap.size]? = some (.deferred (some [])) := (World.putObj_heap_other (by omega)).trans hk
      have hi2 := (hI j).put (.loop { rec .ready none with state := .busy }) hi (by omega) hl rfl
      have hg3 := (hG j).put (.loop { rec .ready none with state := .busy }) hg2 (by omega) hl rfl
      have hfit := fit_zip (n := n) ps vs l a.tmps ⟨hf.sz, rfl, hf.rd⟩ hps
      have has := hassign (w.heap.size + 1) j vs W hvs _ hfit
      have htm : (((⟨ps⟩ : Array Tmp).zip vs.toArray).foldl (fun t (x : Tmp × Value) => t.setIfInBounds x.1 x.2) a.tmps) = (ps.zip vs).foldl (fun t (x : Tmp × Value) => t.setIfInBounds x.1 x.2) a.tmps := by
        rw [← Array.foldl_toList, Array.toList_zip]
      show assign.wpIn (FW (some (w.heap.size + 1))) 0 P _ ⟨(((⟨ps⟩ : Array Tmp).zip vs.toArray).foldl (fun t (x : Tmp × Value) => t.setIfInBounds x.1 x.2) a.tmps), []⟩ W
      rw [htm]
      refine wpIn_mono has ?_
      rintro e a3 W' ⟨rfl, rfl, hf3⟩
      refine ⟨_, run_beginRound hl (by rw [hrec]), ?_⟩
      have hb := hbody (w.heap.size + 1) j vs _ hj hvs hi2 hg3 (by simpa using hsz) a3 hf3
      refine wpIn_mono hb ?_
      have fin : ∀ (jump : Option Code) (W3 : World), KeepsOthers (W'.putObj (w.heap.size + 1) (.loop { rec .ready none with state := .busy })) W3 →
          (Instr.endRound (w.heap.size + 1) jump).run P W3 = .ok (.bool jump.isNone) (W3.putObj (w.heap.size + 1) (.loop (rec (if jump.isNone then .ready else .done) jump))) ∧
          W3.heap[w.heap.size + 1]? = some (.loop { rec .ready none with state := .busy }) ∧
          (W3.putObj (w.heap.size + 1) (.loop (rec (if jump.isNone then .ready else .done) jump))).heap[w.heap.size + 1]? = some (.loop (rec (if jump.isNone then .ready else .done) jump)) ∧
          (W3.putObj (w.heap.size + 1) (.loop (rec (if jump.isNone then .ready else .done) jump))).heap[w.heap.size]? = some (.deferred (some [])) ∧ w.heap.size ≤ W3.heap.size := fun jump W3 hk3 => by
        have hl3 := hk3.same _ _ hl2 rfl
        have hr := run_endRound (P := P) jump hl3
        have hs3 := hk3.size
        rw [hrec] at hr ⊢
        exact ⟨hr, by rw [hrec] at hl3; exact hl3, World.putObj_heap_same (Array.getElem?_eq_some_iff.1 hl3).1, (World.putObj_heap_other (by omega)).trans (hk3.same _ _ hk2 rfl), by simp at hs3; omega⟩
      rintro e a4 W3 hp
      cases e with
      | normal =>
        obtain ⟨hk3, hi3, hg4⟩ := hp
        obtain ⟨hr, hl3, hl4, hk4, hs4⟩ := fin none W3 hk3
        exact ⟨_, _, hr, true, rfl, fun _ => ⟨⟨(hI _).put _ hi3 (by omega) hl3 rfl, by simpa using hs4, hl4, hk4⟩, (hG j).put _ hg4 (by omega) hl3 rfl⟩, fun h => by cases h⟩
      | ret =>
        obtain ⟨hk3, hi3⟩ := hp
        obtain ⟨hr, hl3, hl4, hk4, _⟩ := fin (some .ret) W3 hk3
        exact ⟨_, _, hr, false, rfl, fun h => (by cases h), fun _ => ⟨.ret, (hIx _).put _ hi3 (by omega) hl3 rfl, hl4, hk4⟩⟩
      | exit id =>
        obtain ⟨hk3, hi3⟩ := hp
        obtain ⟨hr, hl3, hl4, hk4, _⟩ := fin (some (.exit id)) W3 hk3
        exact ⟨_, _, hr, false, rfl, fun h => (by cases h), fun _ => ⟨.exit id, (hIx _).put _ hi3 (by omega) hl3 rfl, hl4, hk4⟩⟩
      | goto t => exact hp.elim
      | panic ch => exact hp.elim
      | outgrown => exact hp.elim
    · rintro j Wa Wb ⟨hi, hsz, hl, hk⟩ ⟨cs, hcs⟩ hgr
      refine ⟨hst j Wa Wb hi ⟨cs, hcs⟩ hgr, Nat.le_trans hsz hgr.size, ?_, ?_⟩
      · rw [hgr.block _ (Array.getElem?_eq_some_iff.1 hl).1 (by intro e; cases e; unfold Bk at hcs; rw [hl] at hcs; cases hcs)]; exact hl
      · rw [hgr.block _ (Array.getElem?_eq_some_iff.1 hk).1 (by intro e; cases e; unfold Bk at hcs; rw [hk] at hcs; cases hcs)]; exact hk
    · rintro e W2 ⟨v, rfl, (⟨hi, hsz, hl, hk⟩ | ⟨c, hi, hl, hk⟩)⟩
      · exact ⟨none, _, by have := run_endLoop (P := P) hl (by rw [hrec]; simp); rw [hrec] at this; exact this,
          hdone _ _ (Nat.le_refl _) ((hI _).put _ hi (by omega) hl rfl) ((World.putObj_heap_other (by omega)).trans hk) _ ⟨hf.sz, by simp [hf.df], hf.rd⟩⟩
      · exact ⟨some c, _, by have := run_endLoop (P := P) hl (by rw [hrec]; simp); rw [hrec] at this; exact this,
          hstop _ c _ (Nat.le_refl _) ((hIx c).put _ hi (by omega) hl rfl) ((World.putObj_heap_other (by omega)).trans hk) _ ⟨hf.sz, by simp [hf.df], hf.rd⟩⟩
end
end Go.Proofs.YtabplbmbnakalaaGreatDoor
