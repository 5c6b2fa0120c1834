/-
  The engine's rules for statements whose order is open: quiet operations may be taken first, proved for every order.
  No conditions: each theorem names its own premises.

  The engine's rules for a range over an iterator function, and for the return of a function that holds one; proved over the kit's steps of such a loop.
  No conditions: each theorem names its own premises.

  More rules of the engine: stores through a pointer into an owned row, and stores into a written-out block by index.
  No conditions: each theorem names its own premises.

  Rules of the engine: slices of two or three written-out strings.
  No conditions: each theorem names its own premises.
-/
import Derived.Test.YtfdekppnilffeaaGreatDoorYEng
import Derived.OrdersIn
section
namespace Go.Proofs.YtfdekppnilffeaaGreatDoor
open Go.RowKit

def QN (K : Act → World → Prop) : PT := fun e a w => match e with | .normal => K a w | _ => False

/-- Which operations may come now; written so that it is soon computed. -/
def readyL (arr : Array Oper) (listed : Array Bool) : List Nat :=
  (List.range arr.size).filter fun i =>
    !listed.getD i true && (match arr[i]? with | some o => o.after.toList.all fun e => !Region.binds .any e || listed.getD e.on false | none => false)
theorem ready_eq (arr : Array Oper) (listed : Array Bool) : Region.ready .any arr listed = readyL arr listed := by
  unfold Region.ready readyL
  congr 1
  funext i
  cases arr[i]? with
  | none => simp
  | some o => simp

/-- Whatever order is drawn from here on; C holds while the last operation is still to come. -/
def anyC (P : Program) (ro : Option Nat) (arr : Array Oper) (C : World → Prop) (last : Nat) (K : Act → World → Prop) : Nat → Array Bool → Act → World → Prop
  | 0, listed, a, w => (listed.getD last false = false → C w) ∧ Region.ready .any arr listed = [] ∧ K a w
  | f + 1, listed, a, w => (listed.getD last false = false → C w) ∧ (Region.ready .any arr listed = [] → K a w) ∧
    ∀ i ∈ Region.ready .any arr listed, wpOpIn (FW ro) 0 P arr (QN K) i (anyC P ro arr C last K f (listed.setIfInBounds i true)) a w

section
variable {P : Program} {ro : Option Nat} {arr : Array Oper} {C : World → Prop} {last : Nat} {K : Act → World → Prop}

theorem anyC_any : ∀ (f : Nat) (listed : Array Bool) (a : Act) (w : World), anyC P ro arr C last K f listed a w → wpAnyIn (FW ro) 0 P .any arr (QN K) f listed a w
  | 0, _, _, _, h => h.2
  | f + 1, _, _, _, h => ⟨h.2.1, fun i hi => wpOpIn_mono (fun a w => anyC_any f _ a w) (h.2.2 i hi)⟩

/-- The operation yields v in every world of the class. -/
def YC (P : Program) (arr : Array Oper) (C : World → Prop) (o : Oper) (v : Value) (a : Act) : Prop :=
  (Region.wanted o (yielded arr a.tmps) = true ∧ ∀ w, C w → (execOp a.eval o).run P w = .ok (.value v) w) ∨ (Region.wanted o (yielded arr a.tmps) = false ∧ v = undef)

theorem YC.of_same {o : Oper} {v : Value} {a a' : Act} (hy : YC P arr C o v a) (he : execOp a'.eval o = execOp a.eval o)
    (hw : Region.wanted o (yielded arr a'.tmps) = Region.wanted o (yielded arr a.tmps)) : YC P arr C o v a' := by
  unfold YC at *
  rw [he, hw]
  exact hy

def plainOp (o : Oper) : Bool := match o.op with | .select .. | .defer _ => false | _ => true
theorem plainOp_select {o : Oper} (h : plainOp o = true) : ∀ cs b, o.op ≠ .select cs b := by intro cs b e; simp [plainOp, e] at h
theorem plainOp_defer {o : Oper} (h : plainOp o = true) : ∀ c, o.op ≠ .defer c := by intro c e; simp [plainOp, e] at h

theorem YC.wpOp {i : Nat} {o : Oper} {v : Value} {a : Act} {w : World} {K' : Act → World → Prop} (hi : arr[i]? = some o) (hp : plainOp o = true) (hy : YC P arr C o v a) (hC : C w) (h : K' (a.put o.dst v) w) :
    wpOpIn (FW ro) 0 P arr (QN K) i K' a w := by
  unfold wpOpIn
  simp only [hi]
  rcases hy with ⟨hw, hv⟩ | ⟨hw, rfl⟩
  · simp only [hw, if_true]; exact uponIn_value (plainOp_defer hp) (hv w hC) h
  · simp only [hw, Bool.false_eq_true, if_false]; exact ⟨fun _ _ => trivial, h⟩

theorem wpOp_putC {j : Nat} {oi oj : Oper} {v : Value} (hj : arr[j]? = some oj) (hap : oi.apart arr oj = true) (hpi : plainOp oi = true) (hpj : plainOp oj = true)
    {K' : Act → World → Prop} {a : Act} {w : World} (hy : YC P arr C oi v a) (h : wpOpIn (FW ro) 0 P arr (QN K) j K' (a.put oi.dst v) w) :
    wpOpIn (FW ro) 0 P arr (QN K) j (fun a' w' => YC P arr C oi v a' ∧ K' (a'.put oi.dst v) w') a w := by
  obtain ⟨h1, h2, h3⟩ := Oper.apart_spec hap
  have hsi := plainOp_select hpi
  have hsj := plainOp_select hpj
  have keep : ∀ (a : Act), YC P arr C oi v a → ∀ u, YC P arr C oi v (a.put oj.dst u) := fun a hy u =>
    hy.of_same (execOp_put oi hsi a oj.dst u h3) (wanted_put oi a oj.dst u h3)
  unfold wpOpIn at *
  simp only [hj] at *
  rw [wanted_put oj a oi.dst v h1] at h
  split
  · rename_i hw
    simp only [hw, if_true] at h
    refine ⟨fun _ _ => trivial, ?_⟩
    have h := h.2
    rw [Oper.semAt_eq _ _ _ (plainOp_defer hpj), execOp_put oj hsj a oi.dst v h1] at h
    rw [Oper.semAt_eq _ _ _ (plainOp_defer hpj)]
    generalize (execOp a.eval oj).run P w = r at *
    cases r with
    | ok x w' =>
      cases x <;> simp only [Oper.uponIn] at h ⊢
      case value u => exact ⟨keep a hy u, by rw [← Act.put_comm a v u h2]; exact h⟩
      case skip => exact ⟨keep a hy _, by rw [← Act.put_comm a v undef h2]; exact h⟩
      case defer d =>
        refine ⟨keep { a with defers := d :: a.defers } (hy.of_same rfl rfl) _, ?_⟩
        rw [← Act.put_comm _ v undef h2, ← Act.put_defers]
        exact h
      case enter f args =>
        refine ⟨h.1, CallsIn.mono h.2 fun e w'' he => ?_⟩
        cases e with
        | returned u => exact ⟨keep a hy u, by rw [← Act.put_comm a v u h2]; exact he⟩
        | panicked c => exact he
        | outgrown => exact he
      case row row args => exact ⟨h.1, RowsIn.mono h.2 fun u w'' he => ⟨keep a hy u, by rw [← Act.put_comm a v u h2]; exact he⟩⟩
      case round l f tmps assign body =>
        refine ⟨h.1, RoundIn.mono h.2 fun e w'' he => ?_⟩
        cases e with
        | returned u => exact ⟨keep a hy u, by rw [← Act.put_comm a v u h2]; exact he⟩
        | panicked c => exact he
        | outgrown => exact he
    | halt x w' =>
      cases x <;> simp only [Oper.uponIn] at h ⊢
      case panic u => exact h
  · rename_i hw
    simp only [hw] at h
    exact ⟨fun _ _ => trivial, keep a hy _, by rw [← Act.put_comm a v undef h2]; exact h.2⟩

/-- Does the operation wait for this one? -/
def waitsOn (o : Oper) (i : Nat) : Bool := o.after.toList.any fun e => Region.binds .any e && Nat.beq e.on i

/-- Does the operation read memory? -/
def isLoad (o : Oper) : Bool := match o.op with | .load .. => true | _ => false
/-- What some operations wait for, and what these wait for, and so on. -/
def clo (arr : Array Oper) : Nat → List Nat → List Nat
  | 0, S => S
  | f + 1, S => clo arr f ((List.range arr.size).filter fun x => S.contains x || S.any fun y => match arr[y]? with
    | some o => waitsOn o x
    | none => false)
/-- Of any two operations one waits for the other, or they have nothing to do with each other; the last one waits for all loads before it, and all loads behind it wait for it. -/
def regOk (arr : Array Oper) (last : Nat) : Bool :=
  arr.toList.all plainOp && (List.range arr.size).all (fun i => match arr[i]? with
    | none => true
    | some oi => (List.range arr.size).all fun j => Nat.beq j i || (match arr[j]? with
      | none => true
      | some oj => waitsOn oj i || waitsOn oi j || oi.apart arr oj)) &&
  (match arr[last]? with
   | some ol => (List.range arr.size).all fun x => match arr[x]? with
     | some ox => !isLoad ox || Nat.beq x last || waitsOn ox last || (clo arr 5 ((List.range arr.size).filter fun x => waitsOn ol x)).contains x
     | none => true
   | none => true)

theorem waitsOn_iff {o : Oper} {i : Nat} : waitsOn o i = true ↔ ∃ e ∈ o.after, Region.binds .any e = true ∧ e.on = i := by
  simp only [waitsOn, List.any_eq_true, Bool.and_eq_true, Array.mem_toList_iff]
  exact ⟨fun ⟨e, h1, h2, h3⟩ => ⟨e, h1, h2, Nat.eq_of_beq_eq_true h3⟩, fun ⟨e, h1, h2, h3⟩ => ⟨e, h1, h2, by rw [h3]; exact Nat.beq_refl i⟩⟩

theorem free_of_regOk (h : regOk arr last = true) {i : Nat} {oi : Oper} (hi : arr[i]? = some oi) (j : Nat) (oj : Oper) (hj : arr[j]? = some oj) (hne : j ≠ i)
    (hno : ∀ e ∈ oj.after, Region.binds .any e = true → e.on ≠ i) (hno2 : ∀ e ∈ oi.after, Region.binds .any e = true → e.on ≠ j) : oi.apart arr oj = true := by
  simp only [regOk, Bool.and_eq_true] at h
  have h1 := List.all_eq_true.1 h.1.2 i (by simpa using (Array.getElem?_eq_some_iff.1 hi).1)
  rw [hi] at h1
  have h2 := List.all_eq_true.1 h1 j (by simpa using (Array.getElem?_eq_some_iff.1 hj).1)
  rw [hj] at h2
  simp only [Bool.or_eq_true] at h2
  rcases h2 with h2 | (h2 | h2) | h2
  · exact absurd (Nat.eq_of_beq_eq_true h2) hne
  · obtain ⟨e, he, hb, hon⟩ := waitsOn_iff.1 h2
    exact absurd hon (hno e he hb)
  · obtain ⟨e, he, hb, hon⟩ := waitsOn_iff.1 h2
    exact absurd hon (hno2 e he hb)
  · exact h2

theorem plain_of_regOk (h : regOk arr last = true) {i : Nat} {oi : Oper} (hi : arr[i]? = some oi) : plainOp oi = true := by
  simp only [regOk, Bool.and_eq_true] at h
  exact List.all_eq_true.1 h.1.1 oi (by simpa using Array.mem_of_getElem? hi)

/-- What has been done has all that it waits for done. -/
def Closed (arr : Array Oper) (listed : Array Bool) : Prop :=
  ∀ x o, arr[x]? = some o → listed.getD x false = true → ∀ e ∈ o.after, Region.binds .any e = true → listed.getD e.on false = true
def closedB (arr : Array Oper) (listed : Array Bool) : Bool :=
  (List.range arr.size).all fun x => !listed.getD x false || (match arr[x]? with
    | some o => o.after.toList.all fun e => !Region.binds .any e || listed.getD e.on false
    | none => true)
theorem closed_of {listed : Array Bool} (h : closedB arr listed = true) : Closed arr listed := by
  intro x o ho hx e he hb
  have h1 := List.all_eq_true.1 h x (by simpa using (Array.getElem?_eq_some_iff.1 ho).1)
  rw [hx, ho] at h1
  simp only [Bool.not_true, Bool.false_or] at h1
  have h2 := List.all_eq_true.1 h1 e (by simpa using he)
  simpa [hb] using h2
theorem getD_set_true {listed : Array Bool} {i k : Nat} (h : listed.getD k false = true) : (listed.setIfInBounds i true).getD k false = true := by
  by_cases hk : i = k
  · subst hk
    have : i < listed.size := by
      rcases Nat.lt_or_ge i listed.size with h' | h'
      · exact h'
      · simp [Array.getElem?_eq_none h'] at h
    simp [this]
  · rw [getD_set_ne false hk]; exact h
theorem closed_set {listed : Array Bool} (hc : Closed arr listed) {i : Nat} (hi : i ∈ Region.ready .any arr listed) : Closed arr (listed.setIfInBounds i true) := by
  intro x o ho hx e he hb
  by_cases hxi : i = x
  · subst hxi
    obtain ⟨_, o', ho', hall⟩ := mem_ready.1 hi
    rw [ho] at ho'; cases ho'
    exact getD_set_true (hall e he hb)
  · rw [getD_set_ne false hxi] at hx
    exact getD_set_true (hc x o ho hx e he hb)
theorem clo_listed {listed : Array Bool} (hc : Closed arr listed) : ∀ (f : Nat) (S : List Nat), (∀ y ∈ S, listed.getD y false = true) → ∀ x ∈ clo arr f S, listed.getD x false = true
  | 0, S, h, x, hx => h x hx
  | f + 1, S, h, x, hx => by
    refine clo_listed hc f _ (fun z hz => ?_) x hx
    have h2 := (List.mem_filter.1 hz).2
    simp only [Bool.or_eq_true, List.any_eq_true] at h2
    rcases h2 with h2 | ⟨y, hy, h2⟩
    · exact h z (by simpa using h2)
    · cases hay : arr[y]? with
      | none => rw [hay] at h2; cases h2
      | some oy =>
        rw [hay] at h2
        obtain ⟨e', he', hb', hon'⟩ := waitsOn_iff.1 h2
        have := hc y oy hay (h y hy) e' he' hb'
        rwa [hon'] at this
theorem no_two (hok : regOk arr last = true) {listed : Array Bool} (hc : Closed arr listed) (hl : last ∈ Region.ready .any arr listed) (hl0 : listed.getD last false = false) {x : Nat} {ox : Oper} (hox : arr[x]? = some ox) (hld : isLoad ox = true) (hx : x ∈ Region.ready .any arr listed) (hx0 : listed.getD x false = false) (hne : x ≠ last) : False := by
  obtain ⟨_, o, ho, hall⟩ := mem_ready.1 hl
  obtain ⟨_, ox', hox', hallx⟩ := mem_ready.1 hx
  rw [hox] at hox'; cases hox'
  simp only [regOk, Bool.and_eq_true, ho] at hok
  have h1 := List.all_eq_true.1 hok.2 x (by simpa using (Array.getElem?_eq_some_iff.1 hox).1)
  rw [hox] at h1
  simp only [hld, Bool.not_true, Bool.false_or, Bool.or_eq_true] at h1
  rcases h1 with (h1 | h1) | h1
  · exact hne (Nat.eq_of_beq_eq_true h1)
  · obtain ⟨e, he, hb, hon⟩ := waitsOn_iff.1 h1
    have := hallx e he hb
    rw [hon, hl0] at this; cases this
  · have hS : ∀ y ∈ (List.range arr.size).filter fun x => waitsOn o x, listed.getD y false = true := fun y hy => by
      obtain ⟨e, he, hb, hon⟩ := waitsOn_iff.1 (List.mem_filter.1 hy).2
      rw [← hon]; exact hall e he hb
    have := clo_listed hc 5 _ hS x (by simpa using h1)
    rw [hx0] at this; cases this

theorem anyC_C : ∀ {f : Nat} {listed : Array Bool} {a : Act} {w : World}, anyC P ro arr C last K f listed a w → listed.getD last false = false → C w
  | 0, _, _, _, h => h.1
  | _ + 1, _, _, _, h => h.1

theorem getD_set_false {listed : Array Bool} {i j : Nat} (h : listed.getD j false = false) (hne : i ≠ j) : (listed.setIfInBounds i true).getD j false = false := by
  rw [getD_set_ne false hne]; exact h

/-- What yields the same in every world may be taken first. -/
theorem anyC_firstP (hok : regOk arr last = true) {i : Nat} {oi : Oper} {v : Value} (hi : arr[i]? = some oi) (hne : i ≠ last) :
    ∀ (f : Nat) (listed : Array Bool) (a : Act) (w : World), i ∈ Region.ready .any arr listed → YC P arr (fun _ => True) oi v a →
      anyC P ro arr C last K f (listed.setIfInBounds i true) (a.put oi.dst v) w → anyC P ro arr C last K (f + 1) listed a w := by
  intro f
  induction f with
  | zero =>
    intro listed a w hr hy H
    refine ⟨fun hl => anyC_C H (getD_set_false hl hne), fun h => (by rw [h] at hr; cases hr), fun j hj => ?_⟩
    by_cases hji : j = i
    · subst hji; exact hy.wpOp hi (plain_of_regOk hok hi) trivial H
    · have := ready_mono hj hji
      rw [H.2.1] at this
      cases this
  | succ f ih =>
    intro listed a w hr hy H
    refine ⟨fun hl => anyC_C H (getD_set_false hl hne), fun h => (by rw [h] at hr; cases hr), fun j hj => ?_⟩
    by_cases hji : j = i
    · subst hji; exact hy.wpOp hi (plain_of_regOk hok hi) trivial H
    · have h1 := H.2.2 j (ready_mono hj hji)
      obtain ⟨hjun, oj, hoj, hall⟩ := mem_ready.1 hj
      have hf : ∀ x, x < arr.size → listed.getD x true = false → listed.getD x false = false := by
        intro x _ h0
        rcases Nat.lt_or_ge x listed.size with h' | h'
        · simpa [h'] using h0
        · simp [Array.getElem?_eq_none h'] at h0
      have hil : listed.getD i false = false := hf i (Array.getElem?_eq_some_iff.1 hi).1 (mem_ready.1 hr).1
      have hjl0 : listed.getD j false = false := hf j (Array.getElem?_eq_some_iff.1 hoj).1 hjun
      have hnot : ∀ e ∈ oj.after, Region.binds .any e = true → e.on ≠ i := fun e he hb heq => by
        have h1 := hall e he hb
        rw [heq, hil] at h1
        cases h1
      have hnot2 : ∀ e ∈ oi.after, Region.binds .any e = true → e.on ≠ j := fun e he hb heq => by
        obtain ⟨_, oi', hoi', halli⟩ := mem_ready.1 hr
        rw [hi] at hoi'; cases hoi'
        have h1 := halli e he hb
        rw [heq, hjl0] at h1
        cases h1
      have h2 := wpOp_putC hoj (free_of_regOk hok hi j oj hoj hji hnot hnot2) (plain_of_regOk hok hi) (plain_of_regOk hok hoj) hy h1
      refine wpOpIn_mono (fun a' w' h3 => ?_) h2
      refine ih (listed.setIfInBounds j true) a' w' (ready_mono hr (Ne.symm hji)) h3.1 ?_
      rw [Array.setIfInBounds_comm _ _ hji]
      exact h3.2

theorem anyC_first (hok : regOk arr last = true) {i : Nat} {oi : Oper} {v : Value} (hi : arr[i]? = some oi) (hld : isLoad oi = true) (hne : i ≠ last) :
    ∀ (f : Nat) (listed : Array Bool) (a : Act) (w : World), Closed arr listed → listed.getD last false = false → i ∈ Region.ready .any arr listed → YC P arr C oi v a → C w →
      anyC P ro arr C last K f (listed.setIfInBounds i true) (a.put oi.dst v) w → anyC P ro arr C last K (f + 1) listed a w := by
  intro f
  induction f with
  | zero =>
    intro listed a w hcl hl hr hy hC H
    refine ⟨fun _ => hC, fun h => (by rw [h] at hr; cases hr), fun j hj => ?_⟩
    by_cases hji : j = i
    · subst hji; exact hy.wpOp hi (plain_of_regOk hok hi) hC H
    · have := ready_mono hj hji
      rw [H.2.1] at this
      cases this
  | succ f ih =>
    intro listed a w hcl hl hr hy hC H
    refine ⟨fun _ => hC, fun h => (by rw [h] at hr; cases hr), fun j hj => ?_⟩
    by_cases hji : j = i
    · subst hji; exact hy.wpOp hi (plain_of_regOk hok hi) hC H
    · have h1 := H.2.2 j (ready_mono hj hji)
      obtain ⟨hjun, oj, hoj, hall⟩ := mem_ready.1 hj
      have hf : ∀ x, x < arr.size → listed.getD x true = false → listed.getD x false = false := by
        intro x _ h0
        rcases Nat.lt_or_ge x listed.size with h' | h'
        · simpa [h'] using h0
        · simp [Array.getElem?_eq_none h']
      have hil : listed.getD i false = false := hf i (Array.getElem?_eq_some_iff.1 hi).1 (mem_ready.1 hr).1
      have hjl0 : listed.getD j false = false := hf j (Array.getElem?_eq_some_iff.1 hoj).1 hjun
      have hnot : ∀ e ∈ oj.after, Region.binds .any e = true → e.on ≠ i := fun e he hb heq => by
        have h1 := hall e he hb
        rw [heq, hil] at h1
        cases h1
      have hnot2 : ∀ e ∈ oi.after, Region.binds .any e = true → e.on ≠ j := fun e he hb heq => by
        obtain ⟨_, oi', hoi', halli⟩ := mem_ready.1 hr
        rw [hi] at hoi'; cases hoi'
        have h1 := halli e he hb
        rw [heq, hjl0] at h1
        cases h1
      have hjl : j ≠ last := by
        intro e; subst e
        exact no_two hok hcl hj hjl0 hi hld hr hil hne
      have h2 := wpOp_putC hoj (free_of_regOk hok hi j oj hoj hji hnot hnot2) (plain_of_regOk hok hi) (plain_of_regOk hok hoj) hy h1
      refine wpOpIn_mono (fun a' w' h3 => ?_) h2
      refine ih (listed.setIfInBounds j true) a' w' (closed_set hcl hj) (getD_set_false hl hjl) (ready_mono hr (Ne.symm hji)) h3.1 ?_ ?_
      · exact anyC_C h3.2 (getD_set_false (getD_set_false hl hne) hjl)
      · rw [Array.setIfInBounds_comm _ _ hji]
        exact h3.2
end

/-- A region whose order is open, at a frame. -/
def TA (P : Program) (ro : Option Nat) (n : Nat) (ds : List Deferred) (arr : Array Oper) (C : World → Prop) (last : Nat) (K : Act → World → Prop) (f : Nat) (listed : Array Bool) (l : Fr) (w : World) : Prop :=
  ∀ a, Fit n ds l a → anyC P ro arr C last K f listed a w

section
variable {P : Program} (U : Tys P) {ro : Option Nat} {n : Nat} {ds : List Deferred} {Q : PT} {l l' : Fr} {w w' : World} {arr : Array Oper} {k : List It} {C : World → Prop} {last : Nat} {K : Act → World → Prop}

/-- The region is begun: one draw. -/
theorem dwn {id : Nat} (last : Nat) (C : World → Prop) (hm : P.follows .mixedOrders = true) 
    (t : ∀ w1, w1.heap = w.heap → w.grownBy w1 none → TA P ro n ds arr C last (TT P ro k Q .nrm) arr.size (Array.replicate arr.size false) l w1) : T P ro n ds Q l w (.code (.region id arr true)) k := by
  intro a hf
  refine wpIn_mono (Q := QN (TT P ro k Q .nrm)) (wpIn_region_any hm (anyC_any _ _ _ _ (t { w with drawn := w.drawn + 1 } rfl ⟨rfl, rfl, rfl, Nat.le_refl _, fun _ _ _ => rfl⟩ a hf))) ?_
  intro e a w h
  cases e <;> first | exact h | exact h.elim

/-- One quiet operation of such a region: a plain one, an element's address, a load. -/
def quiet1 (tb : Tab) (l : Fr) (P : Program) (C : World → Prop) (mem : List (Nat × Value)) (i : Nat) (op : Op) : Option (Value × List Prop) :=
  match op with
  | .load t x => match look mem i with
    | some v => match ev l x with
      | some (.pointer (some p)) => some (v, [∀ w, C w → (loadVar t p).run P w = .ok v w])
      | _ => none
    | none => none
  | .indexAddr t x y => match tb.u t with
    | some (.slice e) => match tb.sz e with
      | some s => match ev l x with
        | some (.slice (some p) m _) => match ev l y with
          | some (.int _ j) => some (.pointer (some (p.add (j.toNat * s))), [0 ≤ j, j < m])
          | _ => none
        | _ => none
      | none => none
    | _ => none
  | op => pure1 tb l op

theorem quiet1_sound {a : Act} {o : Oper} {v : Value} {ps : List Prop} {mem : List (Nat × Value)} {i : Nat} (h : Fit n ds l a) (e : quiet1 U.tb l P C mem i o.op = some (v, ps)) (hp : AllP ps) (w : World) (hC : C w) :
    (execOp a.eval o).run P w = .ok (.value v) w := by
  obtain ⟨dst, op, type, pos, after, guard⟩ := o
  dsimp only at e
  unfold quiet1 at e
  split at e
  · rename_i t x
    split at e
    · rename_i u hu
      split at e
      · rename_i p hx
        simp at e; obtain ⟨rfl, rfl⟩ := e
        have := hp.1 w hC
        simp [execOp, h.ev hx, Instr.loadAt, Instr.sureAddr, this]
      · simp at e
    · simp at e
  · rename_i t x y
    split at e
    · rename_i el ht
      split at e
      · rename_i s hs
        split at e
        · rename_i p m c hx
          split at e
          · rename_i kk j hy
            simp at e; obtain ⟨rfl, rfl⟩ := e
            obtain ⟨h1, h2, _⟩ := hp
            have := run_index (P := P) U ht hs p m c j.toNat kk (by omega) w
            rw [Int.toNat_of_nonneg h1] at this
            simp [execOp, h.ev hx, h.ev hy, this]
          · simp at e
        · simp at e
      · simp at e
    · simp at e
  · exact pure1_sound U h e hp w

theorem quiet1_soundP {a : Act} {o : Oper} {v : Value} {ps : List Prop} {mem : List (Nat × Value)} {i : Nat} (h : Fit n ds l a) (hnl : isLoad o = false) (e : quiet1 U.tb l P C mem i o.op = some (v, ps)) (hp : AllP ps) (w : World) :
    (execOp a.eval o).run P w = .ok (.value v) w := by
  have e2 : quiet1 U.tb l P (fun _ => True) mem i o.op = some (v, ps) := by
    unfold quiet1 at e ⊢
    unfold isLoad at hnl
    split at e
    · rename_i ho; rw [ho] at hnl; cases hnl
    · rename_i ho; rw [ho] at *; exact e
    · exact e
  exact quiet1_sound U (C := fun _ => True) h e2 hp w trivial

def nextQ (tb : Tab) (n : Nat) (P : Program) (C : World → Prop) (mem : List (Nat × Value)) (arr : Array Oper) (l : Fr) (i : Nat) : Option (Fr × List Prop) :=
  match arr[i]? with
  | some o => match gd arr l o.guard with
    | some true => match quiet1 tb l P C mem i o.op with
      | some (v, p) => match put1 n l o.dst v with
        | some l' => some (l', p)
        | none => none
      | none => none
    | some false => match put1 n l o.dst undef with
      | some l' => some (l', [])
      | none => none
    | none => none
  | none => none

/-- Take these operations first, one after the other. -/
def driveQ (tb : Tab) (n : Nat) (P : Program) (C : World → Prop) (mem : List (Nat × Value)) (arr : Array Oper) : List Nat → Nat → Array Bool → Fr → List Prop → Option (Nat × Array Bool × Fr × List Prop)
  | [], f, listed, l, ps => some (f, listed, l, ps)
  | i :: is, f, listed, l, ps => match f with
    | 0 => none
    | f + 1 => match (readyL arr listed).contains i with
      | false => none
      | true => match nextQ tb n P C mem arr l i with
        | some (l', p) => match p with
          | [] => driveQ tb n P C mem arr is f (listed.setIfInBounds i true) l' ps
          | q :: qs => driveQ tb n P C mem arr is f (listed.setIfInBounds i true) l' (q :: (qs ++ ps))
        | none => none

theorem driveQ_sound (hok : regOk arr last = true) (hC : C w) {mem : List (Nat × Value)} : ∀ (is : List Nat) {f f' : Nat} {listed listed' : Array Bool} {l l' : Fr} {ps ps' : List Prop},
    driveQ U.tb n P C mem arr is f listed l ps = some (f', listed', l', ps') → Closed arr listed → AllP ps' → listed'.getD last false = false →
      (TA P ro n ds arr C last K f' listed' l' w → TA P ro n ds arr C last K f listed l w) ∧ AllP ps ∧ listed.getD last false = false := by
  intro is
  induction is with
  | nil => intro f f' listed listed' l l' ps ps' e hcl hp hl; simp [driveQ] at e; obtain ⟨rfl, rfl, rfl, rfl⟩ := e; exact ⟨id, hp, hl⟩
  | cons i is ih =>
    intro f f' listed listed' l l' ps ps' e hcl hp hl
    unfold driveQ at e
    split at e
    · simp at e
    · rename_i f
      split at e
      · simp at e
      · rename_i hr
        split at e
        · rename_i l1 p hn
          have key : (TA P ro n ds arr C last K f' listed' l' w → TA P ro n ds arr C last K f (listed.setIfInBounds i true) l1 w) → AllP p → AllP ps → (listed.setIfInBounds i true).getD last false = false →
              (TA P ro n ds arr C last K f' listed' l' w → TA P ro n ds arr C last K (f + 1) listed l w) ∧ AllP ps ∧ listed.getD last false = false := by
            intro h1 h2 h3 h4
            have hr' : i ∈ Region.ready .any arr listed := by rw [ready_eq]; simpa using hr
            have h5 : listed.getD last false = false := by
              by_cases hil : i = last
              · subst hil
                obtain ⟨hu, o, ho, _⟩ := mem_ready.1 hr'
                rcases Nat.lt_or_ge i listed.size with h' | h'
                · simpa [h'] using hu
                · simp [Array.getElem?_eq_none h']
              · rwa [getD_set_ne false hil] at h4
            have hne : i ≠ last := by
              intro hil
              subst hil
              have hu := (mem_ready.1 hr').1
              rcases Nat.lt_or_ge i listed.size with h' | h'
              · simp [h'] at h4
              · simp [Array.getElem?_eq_none h'] at hu
            refine ⟨fun t a hf => ?_, h3, h5⟩
            unfold nextQ at hn
            split at hn
            · rename_i o ho
              split at hn
              · rename_i hg
                split at hn
                · rename_i v q hv
                  split at hn
                  · rename_i l2 hl2
                    simp at hn; obtain ⟨rfl, rfl⟩ := hn
                    cases hld : isLoad o with
                    | true => exact anyC_first hok ho hld hne f listed a w hcl h5 hr' (.inl ⟨gd_wanted hf hg, fun w hC => quiet1_sound U hf hv h2 w hC⟩) hC (h1 t _ (hf.put1 hl2))
                    | false => exact anyC_firstP hok ho hne f listed a w hr' (.inl ⟨gd_wanted hf hg, fun w _ => quiet1_soundP U hf hld hv h2 w⟩) (h1 t _ (hf.put1 hl2))
                  · simp at hn
                · simp at hn
              · rename_i hg
                split at hn
                · rename_i l2 hl2
                  simp at hn; obtain ⟨rfl, rfl⟩ := hn
                  exact anyC_firstP hok ho hne f listed a w hr' (.inr ⟨gd_wanted hf hg, rfl⟩) (h1 t _ (hf.put1 hl2))
                · simp at hn
              · simp at hn
            · simp at hn
          split at e
          · obtain ⟨h1, h2, h3⟩ := ih e (closed_set hcl (by rw [ready_eq]; simpa using hr)) hp hl
            exact key h1 trivial h2 h3
          · obtain ⟨h1, h2, h3⟩ := ih e (closed_set hcl (by rw [ready_eq]; simpa using hr)) hp hl
            obtain ⟨h4, h5⟩ := AllP.append (a := _ :: _) h2
            exact key h1 h4 h5 h3
        · simp at e

/-- Quiet operations are taken first. -/
theorem dq {f f' : Nat} {listed listed' : Array Bool} {ps' : List Prop} (is : List Nat) (mem : List (Nat × Value)) (hok : (regOk arr last && closedB arr listed) = true)
    (e : driveQ U.tb n P C mem arr is f listed l [] = some (f', listed', l', ps')) (hl : listed'.getD last false = false) (hC : C w) (hp : AllP ps') (t : TA P ro n ds arr C last K f' listed' l' w) : TA P ro n ds arr C last K f listed l w :=
  (driveQ_sound U (Bool.and_eq_true _ _ ▸ hok).1 hC is e (closed_of (Bool.and_eq_true _ _ ▸ hok).2) hp hl).1 t

/-- The one operation that may come now. -/
theorem d1 {f : Nat} {listed : Array Bool} {j : Nat} {o : Oper} (hr : readyL arr listed = [j]) (ho : arr[j]? = some o) (hC : listed.getD last false = false → C w)
    (t : T P ro n ds (QN K) l w (.ops arr [o]) [.inv (fun a w' => anyC P ro arr C last K f (listed.setIfInBounds j true) a w')]) : TA P ro n ds arr C last K (f + 1) listed l w := by
  rw [← ready_eq] at hr
  intro a hf
  refine ⟨hC, fun h => (by rw [hr] at h; cases h), fun i hi => ?_⟩
  rw [hr] at hi
  simp at hi; subst hi
  have h1 := t a hf
  change wpListIn _ _ _ _ _ _ _ _ at h1
  unfold wpListIn at h1
  unfold wpOpIn
  rw [ho]
  split at h1
  · rename_i hw
    simp only [hw, if_true]
    have hQ : ∀ a w, wpListIn (FW ro) 0 P arr (KQ P ro [.inv (fun a w' => anyC P ro arr C last K f (listed.setIfInBounds i true) a w')] (QN K)) [] a w → anyC P ro arr C last K f (listed.setIfInBounds i true) a w := fun a w h => h
    have h2 := Oper.wpIn_mono hQ h1
    refine ⟨h2.1, ?_⟩
    have h3 := h2.2
    generalize (o.semAt (FW ro).round a.eval).run P w = r at h3 ⊢
    cases r with
    | ok x w' =>
      cases x <;> simp only [Oper.uponIn] at h3 ⊢ <;> first
        | exact h3
        | exact ⟨h3.1, h3.2.mono fun e w'' he => by cases e <;> first | exact he | (obtain ⟨_, _, h⟩ := he; exact h.elim)⟩
    | halt x w' => cases x <;> simp only [Oper.uponIn] at h3 ⊢ <;> exact h3
  · rename_i hw
    simp only [hw]
    exact h1

/-- Behind it. -/
theorem d2 {f : Nat} {listed : Array Bool} (t : TA P ro n ds arr C last K f listed l w) : T P ro n ds Q l w (.ops arr []) [.inv (fun a w' => anyC P ro arr C last K f listed a w')] :=
  fun a hf => t a hf

/-- The end of the region. -/
theorem dend {f : Nat} {listed : Array Bool} (hr : readyL arr listed = []) (hC : listed.getD last false = false → C w) (t : T P ro n ds Q l w .nrm k) :
    TA P ro n ds arr C last (TT P ro k Q .nrm) f listed l w := by
  rw [← ready_eq] at hr
  intro a hf
  cases f with
  | zero => exact ⟨hC, hr, t a hf⟩
  | succ f => exact ⟨hC, fun _ => t a hf, fun i hi => by rw [hr] at hi; cases hi⟩
end

/-! Tables. -/
def FlOk (P : Program) (t f off : Nat) : Prop := ∃ fs fd d, P.underlying t = some (.struct fs) ∧ fs[f]? = some fd ∧ fd.offset = off ∧ P.underlying fd.type = some d ∧ plainD d = true
def BdOk (P : Program) (t : Nat) (x : List (Nat × Nat) × List Value) : Prop := ∃ it zz fs, P.info? t = some it ∧ it.zero = some zz ∧ zz.cells = ⟨x.2⟩ ∧ P.underlying t = some (.struct fs) ∧ fs.toList.mapM (fun f => (P.info? f.type).map fun i => (f.offset, i.size)) = some x.1
theorem bd_of {P : Program} {t : Nat} {x : List (Nat × Nat) × List Value} {fs : Array Field} (hu : P.underlying t = some (.struct fs)) (h : ((P.info? t).bind (·.zero)).map (·.cells) = some ⟨x.2⟩) (hp : fs.toList.mapM (fun f => (P.info? f.type).map fun i => (f.offset, i.size)) = some x.1) : BdOk P t x := by
  cases hi : P.info? t with
  | none => rw [hi] at h; cases h
  | some i =>
    rw [hi, Option.bind_some] at h
    cases hz : i.zero with
    | none => rw [hz] at h; cases h
    | some z =>
      rw [hz] at h
      exact ⟨i, z, fs, hi, hz, Option.some.inj h, hu, hp⟩
def lk {α : Type} : List (Nat × α) → Nat → Option α
  | [], _ => none
  | (k, v) :: r, t => match Nat.beq k t with
    | true => some v
    | false => lk r t
def AllL {α : Type} (p : Nat → α → Prop) : List (Nat × α) → Prop
  | [] => True
  | (t, d) :: r => p t d ∧ AllL p r
theorem lk_all {α : Type} {p : Nat → α → Prop} : ∀ (L : List (Nat × α)), AllL p L → ∀ t d, lk L t = some d → p t d
  | [], _, _, _, e => by simp [lk] at e
  | (k, v) :: r, h, t, d, e => by
    simp only [lk] at e
    split at e
    · rename_i hb
      obtain rfl := Nat.eq_of_beq_eq_true hb
      cases e; exact h.1
    · exact lk_all r h.2 t d e
def lk2 {α : Type} (L : List (Nat × List (Nat × α))) (t f : Nat) : Option α :=
  match lk L t with
  | some l => lk l f
  | none => none
def InfOk (P : Program) (t : Nat) (x : Nat × Nat × Value) : Prop := ∃ i, P.info? t = some i ∧ i.size = x.1 ∧ i.bytes = x.2.1 ∧ i.zero = some x.2.2
theorem inf_of {P : Program} {t : Nat} {x : Nat × Nat × Value} (h : (P.info? t).map (fun i => (i.size, i.bytes, i.zero)) = some (x.1, x.2.1, some x.2.2)) : InfOk P t x := by
  cases hi : P.info? t with
  | none => rw [hi] at h; cases h
  | some i =>
    rw [hi] at h
    simp at h
    exact ⟨i, hi, h.1, h.2.1, h.2.2⟩
theorem InfOk.sz {P : Program} {t : Nat} {x : Nat × Nat × Value} (h : InfOk P t x) : ∃ i, P.info? t = some i ∧ i.size = x.1 := let ⟨i, a, b, _⟩ := h; ⟨i, a, b⟩
def FoOk (P : Program) (t f off : Nat) : Prop := ∃ fs fd i, P.underlying t = some (.struct fs) ∧ fs[f]? = some fd ∧ fd.offset = off ∧ P.info? fd.type = some i ∧ i.size ≠ 0
theorem fo_of {P : Program} {t f off ty : Nat} {fs : Array Field} {fd : Field} {x : Nat × Nat × Value} (h1 : P.underlying t = some (.struct fs)) (h2 : fs[f]? = some fd) (h3 : (fd.offset, fd.type) = (off, ty)) (h4 : InfOk P ty x) (h5 : x.1 ≠ 0) : FoOk P t f off := by
  simp at h3
  obtain ⟨rfl, rfl⟩ := h3
  obtain ⟨i, h6, h7, _⟩ := h4
  exact ⟨fs, fd, i, h1, h2, rfl, h6, by rw [h7]; exact h5⟩
theorem lk2_all {R : Nat → Nat → Nat → Prop} (L : List (Nat × List (Nat × Nat))) (h : AllL (fun t d => AllL (fun f o => R t f o) d) L) {t f off : Nat} (e : lk2 L t f = some off) : R t f off := by
  unfold lk2 at e
  split at e
  · rename_i l hl
    exact lk_all l (lk_all L h t l hl) f off e
  · simp at e
end Go.Proofs.YtfdekppnilffeaaGreatDoor
end
section
set_option linter.unusedVariables false
set_option linter.unusedSimpArgs false
namespace Go.Proofs.YtfdekppnilffeaaGreatDoor
open Go.RowKit

/-- A call of yield: what the round promises. -/
def Yld (P : Program) (L : Nat) (vs : List Value) (w : World) (R : Bool → World → Prop) : Prop :=
  YieldAt (FW none) 0 P L vs.toArray w fun e w' => ∃ b, e = .returned (.bool b) ∧ R b w'

/-- An iterator that calls yield N times, at arguments that ok allows, unless it is told to stop. -/
def SeqN (P : Program) (gf : Nat) (lb : List Value) (N : Nat) (ok : Nat → List Value → Prop) (G : World → Prop) : Prop :=
  ∀ (L : Nat) (J : Nat → World → Prop) (Jx : World → Prop) (W : World),
    (∀ k W1 vs, k < N → J k W1 → G W1 → ok k vs → Yld P L vs W1 fun b W' => (b = true → J (k + 1) W' ∧ G W') ∧ (b = false → Jx W')) → J 0 W → G W →
    Calls P gf (Value.func (.yield L) #[] #[] :: lb).toArray W (Ret fun _ W' => J N W' ∨ Jx W')

/-- What a loop's own records do not disturb. -/
def OwnB (B : Nat) (I : World → Prop) : Prop := ∀ W W' row, I W → W.grownBy W' row → (∀ r, row = some r → B ≤ r ∧ ∃ o : Obj, W.heap[r]? = some o ∧ o.isCells = false) → I W'

theorem OwnB.put {B : Nat} {I : World → Prop} (h : OwnB B I) {W : World} {r : Nat} {o : Obj} (o' : Obj) (hI : I W) (hB : B ≤ r) (hr : W.heap[r]? = some o) (ho : o.isCells = false) : I (W.putObj r o') :=
  h W _ (some r) hI (grownBy_putObj' W r o') (fun k e => by cases e; exact ⟨hB, o, hr, ho⟩)
theorem OwnB.new {B : Nat} {I : World → Prop} (h : OwnB B I) {W : World} (o : Obj) (hI : I W) : I (W.alloc o) :=
  h W _ none hI (World.grownBy_alloc W o none) (fun k e => by cases e)
theorem OwnB.and {B : Nat} {I J : World → Prop} (h : OwnB B I) (h' : OwnB B J) : OwnB B (fun w => I w ∧ J w) := fun W W' row hi hg hr => ⟨h W W' row hi.1 hg hr, h' W W' row hi.2 hg hr⟩
theorem OwnB.ex {α : Type} {B : Nat} {I : α → World → Prop} (h : ∀ a, OwnB B (I a)) : OwnB B (fun w => ∃ a, I a w) := fun W W' row ⟨a, hi⟩ hg hr => ⟨a, h a W W' row hi hg hr⟩
theorem OwnB.pure (B : Nat) (p : Prop) : OwnB B (fun _ => p) := fun _ _ _ h _ _ => h

theorem cells_ne {W : World} {r g : Nat} {o : Obj} {c : Array Value} {t : TypeId} {x : Nat × Nat} (h : W.heap[r]? = some o) (ho : o.isCells = false) (hg : W.heap[g]? = some (.cells c t x)) : r ≠ g := by
  rintro rfl; rw [hg] at h; cases h; cases ho

theorem OwnB.bk (B b : Nat) (t : TypeId) (cs : List Value) : OwnB B (fun w => Bk w b t cs) := fun W W' row h hg hr =>
  h.keep hg (fun e => by obtain ⟨_, o, ho, hc⟩ := hr b e; exact cells_ne ho hc h rfl)
theorem OwnB.sl (B : Nat) (a : Option Addr) (vs : List Value) : OwnB B (fun w => Sl w a vs) := fun W W' row h hg hr j v hv => by
  obtain ⟨g, off, rfl, hc⟩ := h j v hv
  refine ⟨g, off, rfl, hg.cell hc (fun e => ?_)⟩
  obtain ⟨_, o, ho, hf⟩ := hr g e.symm
  obtain ⟨o2, h2, h3⟩ := cells_of_cell hc
  rw [ho] at h2; cases h2; rw [hf] at h3; cases h3
theorem OwnB.cell (B : Nat) (p : Addr) (v : Value) : OwnB B (fun w => w.cell? p = some v) := fun W W' row hc hg hr => by
  refine hg.cell hc (fun e => ?_)
  obtain ⟨_, o, ho, hf⟩ := hr _ e.symm
  obtain ⟨o2, h2, h3⟩ := cells_of_cell hc
  rw [ho] at h2; cases h2; rw [hf] at h3; cases h3
theorem OwnB.own (B base e s : Nat) (a : Option Addr) (m c : Nat) (cs : List Value) : OwnB B (fun w => w.ownsRow base e s (.slice a m c) m cs) := fun W W' row h hg hr => by
  refine own_keep h hg (fun g hgb e => ?_)
  obtain ⟨_, o, ho, hf⟩ := hr g e
  rcases h.2 with ⟨h1, h2⟩ | ⟨g', cap, cur, h1, _, h3, _⟩
  · simp at h1; obtain ⟨rfl, _⟩ := h1; cases hgb
  · simp at h1; obtain ⟨rfl, rfl⟩ := h1
    simp [ab] at hgb; subst hgb
    exact cells_ne ho hf h3 rfl
theorem OwnB.below {B0 B : Nat} (w0 : World) (h : B0 ≤ B) (hs : B0 ≤ w0.heap.size) : OwnB B (fun w => Below B0 w0 w) := fun W W' row hb hg hr =>
  hb.grown hg (Nat.le_trans hs hb.size) (fun g e => Nat.le_trans h (hr g e).1)

/-- Whatever is no cells lies as it lay, along a step that turns cells alone. -/
theorem ko_grown {W0 W W' : World} {row : Option Nat} (h : KeepsOthers W0 W) (hg : W.grownBy W' row) (hr : ∀ r, row = some r → ∃ c t x, W.heap[r]? = some (.cells c t x)) : KeepsOthers W0 W' :=
  h.trans ⟨hg.size, fun k o hk ho => by
    rw [hg.block k (Array.getElem?_eq_some_iff.1 hk).1 (fun e => by obtain ⟨c, t, x, hc⟩ := hr k e.symm; exact cells_ne hk ho hc rfl)]; exact hk⟩
theorem ko_below {W0 W W' : World} (h : KeepsOthers W0 W) (hb : Below W.heap.size W W') : KeepsOthers W0 W' :=
  h.trans ⟨hb.size, fun k o hk _ => by rw [hb.block k (Array.getElem?_eq_some_iff.1 hk).1]; exact hk⟩
theorem own_cells {w : World} {base e s : Nat} {a : Option Addr} {m c : Nat} {cs : List Value} (h : w.ownsRow base e s (.slice a m c) m cs) : ∀ g, ab a = some g → ∃ c t x, w.heap[g]? = some (.cells c t x) := by
  intro g hg
  rcases h.2 with ⟨h1, h2⟩ | ⟨g', cap, cur, h1, _, h3, _⟩
  · simp at h1; obtain ⟨rfl, _⟩ := h1; cases hg
  · simp at h1; obtain ⟨rfl, rfl⟩ := h1
    simp [ab] at hg; subst hg
    exact ⟨_, _, _, h3⟩

theorem cell_heap {w w' : World} (h : w'.heap = w.heap) {p : Addr} {v : Value} (hc : w.cell? p = some v) : w'.cell? p = some v := by unfold World.cell? at *; rw [h]; exact hc
/-- A load in any world of the same heap. -/
theorem ldC {P : Program} (U : Tys P) {t : TypeId} (h : noAgg U.tb.u t = true) {w w' : World} (hw : w'.heap = w.heap) {p : Addr} {v : Value} (hc : w.cell? p = some v) : (loadVar t p).run P w' = .ok v w' :=
  run_load_cell U h (cell_heap hw hc)

section
variable {P : Program} {n : Nat} {ds : List Deferred} {Q : PT} {l l' : Fr} {w w' : World} {arr : Array Oper} {r : List Oper} {k : List It}

/-- Is this a call of yield, on what? -/
def cyl (l : Fr) : Op → Option (Nat × List Value)
  | .call ⟨.value f, ⟨xs⟩, _⟩ => match ev l f with
    | some (.func (.yield L) ⟨[]⟩ ⟨[]⟩) => match xs.mapM (ev l) with
      | some vs => some (L, vs)
      | none => none
    | _ => none
  | _ => none

theorem yld {o : Oper} {L : Nat} {vs : List Value} {R : Bool → World → Prop} (e : cyl l o.op = some (L, vs)) (hg : gd arr l o.guard = some true)
    (hc : Yld P L vs w R) (t' : ∀ b w1, R b w1 → ∃ l', put1 n l o.dst (.bool b) = some l' ∧ T P none n ds Q l' w1 (.ops arr r) k) : T P none n ds Q l w (.ops arr (o :: r)) k := by
  intro a hf
  show wpListIn _ _ _ _ _ _ _ _
  unfold wpListIn
  rw [gd_wanted hf hg, if_pos rfl]
  refine ⟨fun _ _ => trivial, ?_⟩
  obtain ⟨dst, op, type, pos, after, guard⟩ := o
  dsimp only at e hg t' ⊢
  cases op with
  | call c =>
    obtain ⟨callee, ⟨xs⟩, tys⟩ := c
    cases callee with
    | value x =>
      simp only [cyl] at e
      split at e
      · rename_i L' hx
        split at e
        · rename_i us hus
          simp at e; obtain ⟨rfl, rfl⟩ := e
          obtain ⟨fn, tmps, assign, body, hy, hR⟩ := hc
          have hargs : (Array.map a.eval ⟨xs⟩) = us.toArray := by
            apply Array.toList_inj.1; simpa using mapM_ev hf hus
          have hrun : (execOp a.eval ⟨dst, .call ⟨.value x, ⟨xs⟩, tys⟩, type, pos, after, guard⟩).run P w = .ok (.round L' fn tmps assign body) w := by
            simp only [execOp, resolve, hargs, hf.ev hx, Deferred.ofValue]
            simpa [invoke, Sem.run_bind] using hy
          rw [Oper.semAt_eq _ _ _ (by intro c h; cases h)]
          show Oper.uponIn (FW none) 0 P _ a _ _ ((execOp a.eval _).run P w)
          rw [hrun]
          refine ⟨fun h => by simp [FW] at h, hR.mono ?_⟩
          rintro e' w' ⟨b, rfl, hp⟩
          obtain ⟨l', hl, t'⟩ := t' b w' hp
          exact t' _ (hf.put1 hl)
        · simp at e
      · simp at e
    | _ => simp [cyl] at e
  | _ => simp [cyl] at e

/-- The parameters of yield, written into the frame. -/
def zipF : List Tmp → List Value → Fr → Fr
  | p :: ps, v :: vs, l => zipF ps vs ((p, v) :: l)
  | _, _, l => l

theorem fit_zip : ∀ (ps : List Tmp) (vs : List Value) (l : Fr) (t : Array Value), Fit n [] l ⟨t, []⟩ → ps.all (Nat.blt · n) = true →
    Fit n [] (zipF ps vs l) ⟨(ps.zip vs).foldl (fun t (p, v) => t.setIfInBounds p v) t, []⟩
  | [], _, _, _, h, _ => by simpa [zipF] using h
  | _ :: _, [], _, _, h, _ => by simpa [zipF] using h
  | p :: ps, v :: vs, l, t, h, hp => by
    simp only [List.all_cons, Bool.and_eq_true] at hp
    simp only [zipF, List.zip_cons_cons, List.foldl_cons]
    exact fit_zip ps vs _ _ (h.put (Nat.le_of_ble_eq_true hp.1) v) hp.2

/-- How the assignments to the loop's left sides end. -/
def AsgPost (n : Nat) (l1 : Fr) (W : World) : PT := fun e a W' => e = .normal ∧ W' = W ∧ Fit n [] l1 a
/-- How a round's body ends. -/
def RndPost (W : World) (I G : World → Prop) (Ix : Code → World → Prop) : PT
  | .normal, _, W' => KeepsOthers W W' ∧ I W' ∧ G W'
  | .ret, _, W' => KeepsOthers W W' ∧ Ix .ret W'
  | .exit id, _, W' => KeepsOthers W W' ∧ Ix (.exit id) W'
  | _, _, _ => False

theorem asg {L : Nat} {l1 : Fr} {W : World} (hs : Subf l l1) : T P (some L) n [] (AsgPost n l1 W) l W .nrm [] := fun a hf => ⟨rfl, rfl, hf.less (fun _ _ e => hs.look _ _ e)⟩
theorem rnd {L : Nat} {W : World} {I G : World → Prop} {Ix : Code → World → Prop} (h : KeepsOthers W w ∧ I w ∧ G w) : T P (some L) n [] (RndPost W I G Ix) l w .nrm [] := fun _ _ => h
theorem rndR {L : Nat} {W : World} {I G : World → Prop} {Ix : Code → World → Prop} (h : KeepsOthers W w ∧ Ix .ret w) : T P (some L) n [] (RndPost W I G Ix) l w (.code .ret) k :=
  fun _ _ => wpIn_ret ((KQ_ret k _ _ _).2 h)

theorem rng {g : Operand} {ps : List Tmp} {assign body : Code} {gf N : Nat} {lb : List Value} {ok : Nat → List Value → Prop} {G : World → Prop}
    (hg : ev l g = some (.func (.func gf) ⟨[]⟩ ⟨lb⟩)) (hcb : Callable P gf) (hps : ps.all (Nat.blt · n) = true) (hseq : SeqN P gf lb N ok G) (hok : ∀ k vs, ok k vs → vs.length = ps.length)
    (I : Nat → World → Prop) (Ix : Code → World → Prop) (hI : ∀ k, OwnB w.heap.size (I k)) (hIx : ∀ c, OwnB w.heap.size (Ix c)) (hG : OwnB w.heap.size G) (h0 : I 0 w) (hG0 : G w)
    (l1 : List Value → Fr)
    (hassign : ∀ L j vs W, ok j vs → T P (some L) n [] (AsgPost n (l1 vs) W) (zipF ps vs l) W (.code assign) [])
    (hbody : ∀ L j vs W, j < N → ok j vs → I j W → G W → w.heap.size ≤ W.heap.size → T P (some L) n [] (RndPost W (I (j + 1)) G Ix) (l1 vs) W (.code body) [])
    (hdone : ∀ D W, w.heap.size ≤ D → I N W → W.heap[D]? = some (.deferred (some [])) → T P none n ({ target := .collected D, args := #[] } :: ds) Q l W .nrm k)
    (hstop : ∀ D c W, w.heap.size ≤ D → Ix c W → W.heap[D]? = some (.deferred (some [])) → T P none n ({ target := .collected D, args := #[] } :: ds) Q l W (.code c) k) :
    T P none n ds Q l w (.code (.rangeFunc g ⟨ps⟩ assign body)) k := by
  intro a hf
  show (Code.rangeFunc g ⟨ps⟩ assign body).wpIn (FW none) 0 P _ a w
  refine wpIn_rangeFunc ?_
  intro fn _
  show ∃ l mark w₁ d w₁' f args w₂, (Instr.enterLoop fn a.tmps ⟨ps⟩ assign body none).run P w = _ ∧ _
  obtain ⟨rec, hrec⟩ : ∃ rec : LoopState → Option Code → Loop, rec = fun st pe => { state := st, pending := pe, fn, tmps := a.tmps, params := ⟨ps⟩, assign, body, defers := w.heap.size } := ⟨_, rfl⟩
  obtain ⟨W1, hW1⟩ : ∃ W1, (w.alloc (.deferred (some []))).alloc (.loop (rec .ready none)) = W1 := ⟨_, rfl⟩
  have hL1 : W1.heap[w.heap.size + 1]? = some (.loop (rec .ready none)) := by
    rw [← hW1]; have := World.alloc_heap_new (w.alloc (.deferred (some []))) (.loop (rec .ready none)); rwa [World.size_alloc] at this
  have hK1 : W1.heap[w.heap.size]? = some (.deferred (some [])) := by
    rw [← hW1]; exact (Below.heap_alloc _ _ _ (by simp)).trans (World.alloc_heap_new w _)
  have hI1 : I 0 W1 := by rw [← hW1]; exact (hI 0).new _ ((hI 0).new _ h0)
  have hG1 : G W1 := by rw [← hW1]; exact hG.new _ (hG.new _ hG0)
  obtain ⟨gfn, hgfn, hname, hbd⟩ := hcb
  refine ⟨w.heap.size + 1, [{ target := .collected w.heap.size, args := #[] }], W1, { target := .fn (.func gf) ⟨lb⟩, args := #[.func (.yield (w.heap.size + 1)) #[] #[]] }, W1, gf,
    (Value.func (.yield (w.heap.size + 1)) #[] #[] :: lb).toArray, W1, ?_, ?_, fun _ _ => trivial, ?_, fun h => by simp [FW] at h, ?_⟩
  · rw [← hW1, hrec]; exact run_enterLoop_outer _ _ _ _ _
  · simp only [resolve, hf.ev hg]
    simp [go_sem]
  · have h1 : ¬ gfn.name = "runtime.NumGoroutine" := by simpa using hname
    have h2 : ¬ gfn.body = none := by intro h; rw [h] at hbd; cases hbd
    simp [invoke, callFunc, program, Sem.run, hgfn, h1, h2]
  · refine ((callsIn_wide (n := 0)).2 (hseq (w.heap.size + 1)
      (fun j W => I j W ∧ w.heap.size ≤ W.heap.size ∧ W.heap[w.heap.size + 1]? = some (.loop (rec .ready none)) ∧ W.heap[w.heap.size]? = some (.deferred (some [])))
      (fun W => ∃ c, Ix c W ∧ W.heap[w.heap.size + 1]? = some (.loop (rec .done (some c))) ∧ W.heap[w.heap.size]? = some (.deferred (some [])))
      W1 ?_ ⟨hI1, by rw [← hW1]; simp; omega, hL1, hK1⟩ hG1)).mono ?_
    · rintro j W vs hj ⟨hi, hsz, hl, hk⟩ hg2 hvs
      have hlt : w.heap.size + 1 < W.heap.size := (Array.getElem?_eq_some_iff.1 hl).1
      have hy := run_yield (P := P) (args := vs.toArray) hl (by rw [hrec]; simpa using hok j vs hvs)
      rw [hrec] at hy
      refine ⟨fn, _, assign, body, hy, roundIn_of_wpIn trivial ?_⟩
      have hl2 : (W.putObj (w.heap.size + 1) (.loop { rec .ready none with state := .busy })).heap[w.heap.size + 1]? = some (.loop { rec .ready none with state := .busy }) := World.putObj_heap_same hlt
      have hk2 : (W.putObj (w.heap.size + 1) (.loop { rec .ready none with state := .busy })).heap[w.heap.size]? = some (.deferred (some [])) := (World.putObj_heap_other (by omega)).trans hk
      have hi2 := (hI j).put (.loop { rec .ready none with state := .busy }) hi (by omega) hl rfl
      have hg3 := hG.put (.loop { rec .ready none with state := .busy }) hg2 (by omega) hl rfl
      have hfit := fit_zip (n := n) ps vs l a.tmps ⟨hf.sz, rfl, hf.rd⟩ hps
      have has := hassign (w.heap.size + 1) j vs W hvs _ hfit
      have htm : (((⟨ps⟩ : Array Tmp).zip vs.toArray).foldl (fun t (x : Tmp × Value) => t.setIfInBounds x.1 x.2) a.tmps) = (ps.zip vs).foldl (fun t (x : Tmp × Value) => t.setIfInBounds x.1 x.2) a.tmps := by
        rw [← Array.foldl_toList, Array.toList_zip]
      show assign.wpIn (FW (some (w.heap.size + 1))) 0 P _ ⟨(((⟨ps⟩ : Array Tmp).zip vs.toArray).foldl (fun t (x : Tmp × Value) => t.setIfInBounds x.1 x.2) a.tmps), []⟩ W
      rw [htm]
      refine wpIn_mono has ?_
      rintro e a3 W' ⟨rfl, rfl, hf3⟩
      refine ⟨_, run_beginRound hl (by rw [hrec]), ?_⟩
      have hb := hbody (w.heap.size + 1) j vs _ hj hvs hi2 hg3 (by simpa using hsz) a3 hf3
      refine wpIn_mono hb ?_
      have fin : ∀ (jump : Option Code) (W3 : World), KeepsOthers (W'.putObj (w.heap.size + 1) (.loop { rec .ready none with state := .busy })) W3 →
          (Instr.endRound (w.heap.size + 1) jump).run P W3 = .ok (.bool jump.isNone) (W3.putObj (w.heap.size + 1) (.loop (rec (if jump.isNone then .ready else .done) jump))) ∧
          W3.heap[w.heap.size + 1]? = some (.loop { rec .ready none with state := .busy }) ∧
          (W3.putObj (w.heap.size + 1) (.loop (rec (if jump.isNone then .ready else .done) jump))).heap[w.heap.size + 1]? = some (.loop (rec (if jump.isNone then .ready else .done) jump)) ∧
          (W3.putObj (w.heap.size + 1) (.loop (rec (if jump.isNone then .ready else .done) jump))).heap[w.heap.size]? = some (.deferred (some [])) ∧ w.heap.size ≤ W3.heap.size := fun jump W3 hk3 => by
        have hl3 := hk3.same _ _ hl2 rfl
        have hr := run_endRound (P := P) jump hl3
        have hs3 := hk3.size
        rw [hrec] at hr ⊢
        exact ⟨hr, by rw [hrec] at hl3; exact hl3, World.putObj_heap_same (Array.getElem?_eq_some_iff.1 hl3).1, (World.putObj_heap_other (by omega)).trans (hk3.same _ _ hk2 rfl), by simp at hs3; omega⟩
      rintro e a4 W3 hp
      cases e with
      | normal =>
        obtain ⟨hk3, hi3, hg4⟩ := hp
        obtain ⟨hr, hl3, hl4, hk4, hs4⟩ := fin none W3 hk3
        exact ⟨_, _, hr, true, rfl, fun _ => ⟨⟨(hI _).put _ hi3 (by omega) hl3 rfl, by simpa using hs4, hl4, hk4⟩, hG.put _ hg4 (by omega) hl3 rfl⟩, fun h => by cases h⟩
      | ret =>
        obtain ⟨hk3, hi3⟩ := hp
        obtain ⟨hr, hl3, hl4, hk4, _⟩ := fin (some .ret) W3 hk3
        exact ⟨_, _, hr, false, rfl, fun h => (by cases h), fun _ => ⟨.ret, (hIx _).put _ hi3 (by omega) hl3 rfl, hl4, hk4⟩⟩
      | exit id =>
        obtain ⟨hk3, hi3⟩ := hp
        obtain ⟨hr, hl3, hl4, hk4, _⟩ := fin (some (.exit id)) W3 hk3
        exact ⟨_, _, hr, false, rfl, fun h => (by cases h), fun _ => ⟨.exit id, (hIx _).put _ hi3 (by omega) hl3 rfl, hl4, hk4⟩⟩
      | goto t => exact hp.elim
      | panic ch => exact hp.elim
      | outgrown => exact hp.elim
    · rintro e W2 ⟨v, rfl, (⟨hi, hsz, hl, hk⟩ | ⟨c, hi, hl, hk⟩)⟩
      · exact ⟨none, _, by have := run_endLoop (P := P) hl (by rw [hrec]; simp); rw [hrec] at this; exact this,
          hdone _ _ (Nat.le_refl _) ((hI _).put _ hi (by omega) hl rfl) ((World.putObj_heap_other (by omega)).trans hk) _ ⟨hf.sz, by simp [hf.df], hf.rd⟩⟩
      · exact ⟨some c, _, by have := run_endLoop (P := P) hl (by rw [hrec]; simp); rw [hrec] at this; exact this,
          hstop _ c _ (Nat.le_refl _) ((hIx c).put _ hi (by omega) hl rfl) ((World.putObj_heap_other (by omega)).trans hk) _ ⟨hf.sz, by simp [hf.df], hf.rd⟩⟩

/-- A function that holds such a loop is entered. -/
theorem enterM {f : FuncId} {fn : Func} {c : Code} {args : List Value} {R : Ending → World → Prop} (hf : P.funcs[f]? = some fn) (hb : fn.body = some c) (hn : fn.ntmps = n) (hle : args.length ≤ n)
    (t : T P none n [] (bodyPostM (FW none) 0 P fn R) (enumF 0 args) w (.code c) []) : Calls P f args.toArray w R := by
  rw [← callsIn_wide (n := 0), ← FW_wide]
  refine callsIn_of_wp_marks hf hb trivial (t _ ⟨by simp [hn]; omega, rfl, fun t v e => ?_⟩) rfl
  obtain ⟨_, h⟩ := look_enumF args 0 t v e
  simp only [Nat.sub_zero] at h
  have hlt : t < args.length := by
    rcases Nat.lt_or_ge t args.length with h' | h'
    · exact h'
    · rw [List.getElem?_eq_none h'] at h; cases h
  show (args.toArray ++ _)[t]? = _
  rw [Array.getElem?_append_left (by simpa using hlt)]
  simpa using h

/-- The results, of which some may lie in cells. -/
def Rsv (U : Tys P) (l : Fr) (w : World) : List ResultVar → List Value → Prop
  | [], [] => True
  | .tmp t :: r, v :: vs => look l t = some v ∧ Rsv U l w r vs
  | .cell t ty :: r, v :: vs => (∃ p, look l t = some (.pointer (some p)) ∧ noAgg U.tb.u ty = true ∧ w.cell? p = some v) ∧ Rsv U l w r vs
  | _, _ => False

theorem run_Rsv (U : Tys P) {tmps : Array Value} (hd : ∀ t v, look l t = some v → tmps[t]? = some v) (f : ResultVar → Sem Value)
    (h1 : ∀ t, f (.tmp t) = Pure.pure (tmps.getD t undef)) (h2 : ∀ a t, f (.cell a t) = do loadVar t (← asAddr (tmps.getD a undef))) :
    ∀ (rs : List ResultVar) (vs : List Value), Rsv U l w rs vs → (rs.mapM f).run P w = .ok vs w
  | [], [], _ => by simp
  | .tmp t :: r, v :: vs, ⟨e, h⟩ => by
    have := run_Rsv U hd f h1 h2 r vs h
    simp only [List.mapM_cons]
    simp [h1, hd t v e, this]
  | .cell t ty :: r, v :: vs, ⟨⟨p, e, hn, hc⟩, h⟩ => by
    have := run_Rsv U hd f h1 h2 r vs h
    simp only [List.mapM_cons, h2]
    simp [hd t _ e, this, asAddr, run_load_cell U hn hc]
  | [], _ :: _, h => h.elim
  | .tmp _ :: _, [], h => h.elim
  | .cell .. :: _, [], h => h.elim

theorem run_results (U : Tys P) {fn : Func} {rs : List ResultVar} {vs : List Value} {tmps : Array Value} (hr : fn.results = ⟨rs⟩) (hd : ∀ t v, look l t = some v → tmps[t]? = some v) (hv : Rsv U l w rs vs) :
    (results fn tmps).run P w = .ok (pack vs) w := by
  unfold results
  rw [hr, Array.mapM_eq_mapM_toList]
  simp only [Sem.run_bind, Sem.run_map]
  rw [run_Rsv (l := l) (P := P) (w := w) U hd _ (fun _ => rfl) (fun _ _ => rfl) rs vs hv]
  simp [pack_eq]

/-- A return before any such loop. -/
theorem retM0 (U : Tys P) {fn : Func} {R : Ending → World → Prop} {rs : List ResultVar} {vs : List Value} (hr : fn.results = ⟨rs⟩) (hv : Rsv U l w rs vs) (hR : R (.returned (pack vs)) w) :
    T P none n [] (bodyPostM (FW none) 0 P fn R) l w (.code .ret) k := by
  intro a hf
  refine wpIn_ret ((KQ_ret k _ a w).2 ?_)
  show LeavesInM _ _ _ _ _ _ a.defers _ _
  rw [hf.df]
  exact ⟨_, run_results U hr hf.rd hv, hR⟩

/-- A return behind one such loop. -/
theorem retM1 (U : Tys P) {fn : Func} {D : Nat} {R : Ending → World → Prop} {rs : List ResultVar} {vs : List Value} (hr : fn.results = ⟨rs⟩) (hD : w.heap[D]? = some (.deferred (some [])))
    (hv : Rsv U l (w.putObj D (.deferred none)) rs vs) (hR : R (.returned (pack vs)) (w.putObj D (.deferred none))) :
    T P none n [{ target := .collected D, args := #[] }] (bodyPostM (FW none) 0 P fn R) l w (.code .ret) k := by
  intro a hf
  refine wpIn_ret ((KQ_ret k _ a w).2 ?_)
  show LeavesInM _ _ _ _ _ _ a.defers _ _
  rw [hf.df]
  exact ⟨by simp, .inl ⟨_, _, rfl, run_takeDeferred hD, _, run_results U hr hf.rd hv, hR⟩⟩

/-- A plain function falls off its end. -/
theorem retN {ro : Option Nat} {fn : Func} {R : Ending → World → Prop} {rs : List ResultVar} {vs : List Value} (hr : fn.results = ⟨rs⟩) (hv : resv l rs = some vs) (hR : R (.returned (pack vs)) w) :
    T P ro n [] (bodyPost P fn R) l w .nrm [] := by
  intro a hf
  refine ⟨hf.df, pack vs, ?_, hR⟩
  unfold results
  rw [hr, Array.mapM_eq_mapM_toList]
  simp only [Sem.run_bind, Sem.run_map]
  rw [run_resv (l := l) (P := P) (w := w) _ (fun t v e => by simp [hf.rd t v e]) rs vs hv]
  simp [pack_eq]

end
end Go.Proofs.YtfdekppnilffeaaGreatDoor
end
section
set_option linter.unusedVariables false
set_option linter.unusedSimpArgs false
namespace Go.Proofs.YtfdekppnilffeaaGreatDoor
open Go.RowKit

theorem Bk.sl {w : World} {g t : Nat} {cs : List Value} (h : Bk w g t cs) (off : Nat) : Sl w (some ⟨g, off, none⟩) (cs.drop off) := fun j v hv =>
  ⟨g, off, rfl, h.cell (by simpa using hv)⟩

/-- An owned row lies in a block. -/
theorem own_bk {w : World} {base e : Nat} {a : Option Addr} {m c : Nat} {cs : List Value} (h : w.ownsRow base e 1 (.slice a m c) m cs) (hm : 0 < m) :
    ∃ g cur, a = some ⟨g, 0, none⟩ ∧ base ≤ g ∧ Bk w g e cur ∧ cur.take m = cs ∧ cur.length = c ∧ m ≤ c := by
  have hl := own_len h
  rcases h.2 with ⟨h1, h2⟩ | ⟨g, cap, cur, h1, h2, h3, h4, h5, h6, h7⟩
  · omega
  · simp at h1; obtain ⟨rfl, rfl⟩ := h1
    refine ⟨g, cur.toList, rfl, h2, h3, ?_, ?_, h4⟩
    · rw [← h7]; simp
    · simpa using h6
theorem own_mono {w : World} {base base' e s : Nat} {a : Option Addr} {m c : Nat} {cs : List Value} (h : w.ownsRow base e s (.slice a m c) m cs) (hb : base' ≤ base) : w.ownsRow base' e s (.slice a m c) m cs := by
  refine ⟨h.1, ?_⟩
  rcases h.2 with h1 | ⟨g, cap, cur, h1, h2, h3⟩
  · exact .inl h1
  · exact .inr ⟨g, cap, cur, h1, Nat.le_trans hb h2, h3⟩
section
variable {P : Program} (U : Tys P) {ro : Option Nat} {n : Nat} {ds : List Deferred} {Q : PT} {l l' : Fr} {w w' : World} {arr : Array Oper} {r : List Oper} {k : List It}

/-- Behind the one operation that could come, driven on. -/
theorem d3 {C : World → Prop} {last f : Nat} {listed : Array Bool} {K : Act → World → Prop} (t : TA P ro n ds arr C last K f listed l w) : T P ro n ds Q l w .nrm [.inv (fun a w' => anyC P ro arr C last K f listed a w')] :=
  fun a hf => t a hf

/-- A store into a written-out block, by index. -/
theorem sx {d : Option Nat} {t ty : TypeId} {x y : Operand} {ps : String} {af : Array Edge} {g : Option (Nat × Bool)} {v : Value} {b bt : Nat} {p : Addr} {cs : List Value}
    (hx : ev l x = some (.pointer (some p))) (hy : ev l y = some v) (hs : U.tb.sz t = some 1) (hg : gd arr l g = some true) (hl : put1 n l d undef = some l')
    (hvs : v.cells = #[v]) (h1 : v.oneCell' = true) (j : Nat) (hp : p = ⟨b, j, none⟩) (hj : j < cs.length) (hb : Bk w b bt cs)
    (t' : ∀ w1, Bk w1 b bt (cs.set j v) → w.grownBy w1 (some b) → w1.heap.size = w.heap.size → T P ro n ds Q l' w1 (.ops arr r) k) :
    T P ro n ds Q l w (.ops arr (⟨d, .store t x y, ty, ps, af, g⟩ :: r)) k := by
  subst hp
  obtain ⟨i, hi, hz⟩ := U.hs _ _ hs
  have hrun := run_storeCells_at P b j bt [v] 0 ⟨cs⟩ w hb (by simp; omega) (fun u hu => by simp at hu; subst hu; exact h1)
  have hset : (List.take (j + 0) cs ++ [v] ++ List.drop (j + 0 + [v].length) cs) = cs.set j v := by
    rw [List.set_eq_take_append_cons_drop, if_pos hj]; simp
  rw [hset] at hrun
  try simp only [Nat.add_zero] at hrun
  refine op0 (w' := w.setRow b (cs.set j v).toArray) (by intro c h; cases h) hg hl (fun a hf => ?_) (t' _ (by rw [Bk, setRow_heap w b ⟨cs⟩ _ bt (0, 0) hb]) (grownBy_setRow _ _ _) (by simp [World.setRow]))
  simp only [execOp, hf.ev hx, hf.ev hy, Instr.storeAt, Instr.sureAddr, storeVar, sizeOf, typeInfo, program]
  simp [Sem.run, hi, hz, hvs, hrun]

/-- An element of a slice of a written-out block is stored. -/
theorem ix {x1 : Nat} {d2 : Option Nat} {t e t2 ty ty2 : TypeId} {x i y : Operand} {ps ps2 : String} {af af2 : Array Edge} {g1 g2 : Option (Nat × Bool)} {b off m c bt : Nat} {ki : IntKind} {iv : Int} {cs : List Value} {v : Value} {lp : Value → Fr}
    (hx : ev l x = some (.slice (some ⟨b, off, none⟩) m c)) (hi : ev l i = some (.int ki iv)) (ht : U.tb.u t = some (.slice e)) (hz : U.tb.sz e = some 1) (h2 : U.tb.sz t2 = some 1)
    (hg1 : gd arr l g1 = some true) (hx1 : Nat.blt x1 n = true) (hg2 : ∀ p, gd arr ((x1, p) :: l) g2 = some true) (hy : ∀ p, ev ((x1, p) :: l) y = some v) (hl : ∀ p, put1 n ((x1, p) :: l) d2 undef = some (lp p))
    (hvc : v.cells = #[v]) (h1 : v.oneCell' = true)
    (j : Nat) (hj : iv = (j : Int)) (hm : j < m) (hlt : off + j < cs.length) (hb : Bk w b bt cs)
    (t' : ∀ p w1, Bk w1 b bt (cs.set (off + j) v) → w.grownBy w1 (some b) → w1.heap.size = w.heap.size → T P ro n ds Q (lp p) w1 (.ops arr r) k) :
    T P ro n ds Q l w (.ops arr (⟨some x1, .indexAddr t x i, ty, ps, af, g1⟩ :: ⟨d2, .store t2 (.tmp x1) y, ty2, ps2, af2, g2⟩ :: r)) k := by
  subst hj
  refine op1 (w' := w) (v := .pointer (some ⟨b, off + j, none⟩)) (by intro c h; cases h) hg1 (put1_some hx1) (fun a hf => ?_) ?_
  · have := run_index U ht hz ⟨b, off, none⟩ m c j ki hm w
    simp [execOp, hf.ev hx, hf.ev hi, this, add_plain]
  · exact sx U (by simp [ev, look_cons]) (hy _) h2 (hg2 _) (hl _) hvc h1 _ rfl hlt hb (t' _)

/-- A slice of one written-out element. -/
theorem bs1 {d1 : Nat} {t e ty : TypeId} {x : Operand} {ps : String} {af : Array Edge} {g1 : Option (Nat × Bool)} {v z : Value} {by_ : Nat}
    (hx : ev l x = some v) (ht : U.tb.u t = some (.slice e)) (hi : U.tb.inf e = some (1, by_, z)) (hzc : z.cells.size = 1) (hg1 : gd arr l g1 = some true) (hd1 : Nat.blt d1 n = true) (hv : v.cells = #[v])
    (t' : ∀ w1, Bk w1 w.heap.size e [v] → w1.heap.size = w.heap.size + 1 → w.grownBy w1 none → T P ro n ds Q ((d1, .slice (some ⟨w.heap.size, 0, none⟩) 1 1) :: l) w1 (.ops arr r) k) :
    T P ro n ds Q l w (.ops arr (⟨some d1, .buildSlice t 1 #[(0, x)], ty, ps, af, g1⟩ :: r)) k := by
  obtain ⟨i, hi0, hz1, hz2, hz3⟩ := U.hi _ _ _ _ hi
  have hpt := U.hu _ _ ht
  refine op1 (w' := w.alloc (.cells #[v] e)) (v := .slice (some ⟨w.heap.size, 0, none⟩) 1 1) (by intro c h; cases h) hg1 (put1_some hd1) (fun a hf => ?_) (t' _ (heap_alloc_new w _) (by simp) (World.grownBy_alloc w _ none))
  simp only [execOp, Instr.buildSlice]
  simp [hf.ev hx, run_under hpt, sizeOf, typeInfo, program, Sem.run, hi0, hz1, zeroValue, hz3, Instr.fill, hv, newRow, newObj]
  rw [show (Array.map (fun x => z.cells[x % z.cells.size]!) (Array.range 1)).setIfInBounds 0 v = #[v] from by apply Array.toList_inj.1; simp [List.range_succ]]

/-- A store through a pointer into an owned row. -/
theorem so {d : Option Nat} {t ty : TypeId} {x y : Operand} {ps : String} {af : Array Edge} {gg : Option (Nat × Bool)} {v : Value} {g : Nat} {p : Addr} {base e m c : Nat} {cs : List Value}
    (hx : ev l x = some (.pointer (some p))) (hy : ev l y = some v) (hs : U.tb.sz t = some 1) (hg : gd arr l gg = some true) (hl : put1 n l d undef = some l')
    (hvs : v.cells = #[v]) (h1 : v.oneCell' = true) (j : Nat) (hp : p = ⟨g, j, none⟩) (hj : j < m) (ho : w.ownsRow base e 1 (.slice (some ⟨g, 0, none⟩) m c) m cs)
    (t' : ∀ w1, w1.ownsRow base e 1 (.slice (some ⟨g, 0, none⟩) m c) m (cs.set j v) → w.grownBy w1 (some g) → w1.heap.size = w.heap.size → T P ro n ds Q l' w1 (.ops arr r) k) :
    T P ro n ds Q l w (.ops arr (⟨d, .store t x y, ty, ps, af, gg⟩ :: r)) k := by
  subst hp
  obtain ⟨cur, hg2, hlt, ho1⟩ := own_set ho j hj v
  obtain ⟨i, hi, hz⟩ := U.hs _ _ hs
  have hrun := run_storeCells_at P g j e [v] 0 cur w hg2 (by simp; omega) (fun u hu => by simp at hu; subst hu; exact h1)
  have hset : (List.take (j + 0) cur.toList ++ [v] ++ List.drop (j + 0 + [v].length) cur.toList) = cur.toList.set j v := by
    rw [List.set_eq_take_append_cons_drop, if_pos (by simpa using hlt)]; simp
  rw [hset] at hrun
  try simp only [Nat.add_zero] at hrun
  refine op0 (w' := w.setRow g (cur.toList.set j v).toArray) (by intro c h; cases h) hg hl (fun a hf => ?_) (t' _ ho1 (grownBy_setRow _ _ _) (by simp [World.setRow]))
  simp only [execOp, hf.ev hx, hf.ev hy, Instr.storeAt, Instr.sureAddr, storeVar, sizeOf, typeInfo, program]
  simp [Sem.run, hi, hz, hvs, hrun]
end
end Go.Proofs.YtfdekppnilffeaaGreatDoor
end
section
set_option linter.unusedSimpArgs false
set_option linter.unusedVariables false
namespace Go.Proofs.YtfdekppnilffeaaGreatDoor
open Go Go.Proofs Go.RowKit

section
variable {P : Program} (U : Tys P) {ro : Option Nat} {n : Nat} {ds : List Deferred} {Q : PT} {l l' : Fr} {w w' : World} {arr : Array Oper} {r : List Oper} {k : List It}
end

end Go.Proofs.YtfdekppnilffeaaGreatDoor
end
