/-
  The engine's rules for statements whose order is open: quiet operations may be taken first, proved for every order.
  No conditions: each theorem names its own premises.
-/
import Derived.Test.YtejlpdbiacmfcaaGreatDoorYRul
import Derived.OrdersIn
namespace Go.Proofs.YtejlpdbiacmfcaaGreatDoor
open Go.RowKit

def QN (K : Act → World → Prop) : PT := fun e a w => match e with | .normal => K a w | _ => False

def readyL (arr : Array Oper) (listed : Array Bool) : List Nat :=
 (List.range arr.size).filter fun i =>
  !listed.getD i true && (match arr[i]? with | some o => o.after.toList.all fun e => !Region.binds .any e || listed.getD e.on false | none => false)
theorem ready_eq (arr : Array Oper) (listed : Array Bool) : Region.ready .any arr listed = readyL arr listed := by
 unfold Region.ready readyL
 congr 1
 funext i
 cases arr[i]? with
 | none => simp
 | some o => simp

def anyC (P : Program) (ro : Option Nat) (arr : Array Oper) (C : World → Prop) (last : Nat) (K : Act → World → Prop) : Nat → Array Bool → Act → World → Prop
 | 0, listed, a, w => (listed.getD last false = false → C w) ∧ Region.ready .any arr listed = [] ∧ K a w
 | f + 1, listed, a, w => (listed.getD last false = false → C w) ∧ (Region.ready .any arr listed = [] → K a w) ∧
  ∀ i ∈ Region.ready .any arr listed, wpOpIn (FW ro) 0 P arr (QN K) i (anyC P ro arr C last K f (listed.setIfInBounds i true)) a w

section
variable {P : Program} {ro : Option Nat} {arr : Array Oper} {C : World → Prop} {last : Nat} {K : Act → World → Prop}

theorem anyC_any : ∀ (f : Nat) (listed : Array Bool) (a : Act) (w : World), anyC P ro arr C last K f listed a w → wpAnyIn (FW ro) 0 P .any arr (QN K) f listed a w
 | 0, _, _, _, h => h.2
 | f + 1, _, _, _, h => ⟨h.2.1, fun i hi => wpOpIn_mono (fun a w => anyC_any f _ a w) (h.2.2 i hi)⟩

def YC (P : Program) (arr : Array Oper) (C : World → Prop) (o : Oper) (v : Value) (a : Act) : Prop :=
 (Region.wanted o (yielded arr a.tmps) = true ∧ ∀ w, C w → (execOp a.eval o).run P w = .ok (.value v) w) ∨ (Region.wanted o (yielded arr a.tmps) = false ∧ v = undef)

theorem YC.of_same {o : Oper} {v : Value} {a a' : Act} (hy : YC P arr C o v a) (he : execOp a'.eval o = execOp a.eval o)
  (hw : Region.wanted o (yielded arr a'.tmps) = Region.wanted o (yielded arr a.tmps)) : YC P arr C o v a' := by
 unfold YC at *
 rw [he, hw]
 exact hy

def plainOp (o : Oper) : Bool := match o.op with | .select .. | .defer _ => false | _ => true
theorem plainOp_select {o : Oper} (h : plainOp o = true) : ∀ cs b, o.op ≠ .select cs b := by intro cs b e; simp [plainOp, e] at h
theorem plainOp_defer {o : Oper} (h : plainOp o = true) : ∀ c, o.op ≠ .defer c := by intro c e; simp [plainOp, e] at h

theorem YC.wpOp {i : Nat} {o : Oper} {v : Value} {a : Act} {w : World} {K' : Act → World → Prop} (hi : arr[i]? = some o) (hp : plainOp o = true) (hy : YC P arr C o v a) (hC : C w) (h : K' (a.put o.dst v) w) :
  wpOpIn (FW ro) 0 P arr (QN K) i K' a w := by
 unfold wpOpIn
 simp only [hi]
 rcases hy with ⟨hw, hv⟩ | ⟨hw, rfl⟩
 ·simp only [hw, if_true]; exact uponIn_value (plainOp_defer hp) (hv w hC) h
 ·simp only [hw, Bool.false_eq_true, if_false]; exact ⟨fun _ _ => trivial, h⟩

theorem wpOp_putC {j : Nat} {oi oj : Oper} {v : Value} (hj : arr[j]? = some oj) (hap : oi.apart arr oj = true) (hpi : plainOp oi = true) (hpj : plainOp oj = true)
  {K' : Act → World → Prop} {a : Act} {w : World} (hy : YC P arr C oi v a) (h : wpOpIn (FW ro) 0 P arr (QN K) j K' (a.put oi.dst v) w) :
  wpOpIn (FW ro) 0 P arr (QN K) j (fun a' w' => YC P arr C oi v a' ∧ K' (a'.put oi.dst v) w') a w := by
 obtain ⟨h1, h2, h3⟩ := Oper.apart_spec hap
 have hsi := plainOp_select hpi
 have hsj := plainOp_select hpj
 have keep : ∀ (a : Act), YC P arr C oi v a → ∀ u, YC P arr C oi v (a.put oj.dst u) := fun a hy u =>
  hy.of_same (execOp_put oi hsi a oj.dst u h3) (wanted_put oi a oj.dst u h3)
 unfold wpOpIn at *
 simp only [hj] at *
 rw [wanted_put oj a oi.dst v h1] at h
 split
 ·rename_i hw
  simp only [hw, if_true] at h
  refine ⟨fun _ _ => trivial, ?_⟩
  have h := h.2
  rw [Oper.semAt_eq _ _ _ (plainOp_defer hpj), execOp_put oj hsj a oi.dst v h1] at h
  rw [Oper.semAt_eq _ _ _ (plainOp_defer hpj)]
  generalize (execOp a.eval oj).run P w = r at *
  cases r with
  | ok x w' =>
   cases x <;> simp only [Oper.uponIn] at h ⊢
   case value u => exact ⟨keep a hy u, by rw [← Act.put_comm a v u h2]; exact h⟩
   case skip => exact ⟨keep a hy _, by rw [← Act.put_comm a v undef h2]; exact h⟩
   case defer d =>
    refine ⟨keep { a with defers := d :: a.defers } (hy.of_same rfl rfl) _, ?_⟩
    rw [← Act.put_comm _ v undef h2, ← Act.put_defers]
    exact h
   case enter f args =>
    refine ⟨h.1, CallsIn.mono h.2 fun e w'' he => ?_⟩
    cases e with
    | returned u => exact ⟨keep a hy u, by rw [← Act.put_comm a v u h2]; exact he⟩
    | panicked c => exact he
    | outgrown => exact he
   case row row args => exact ⟨h.1, RowsIn.mono h.2 fun u w'' he => ⟨keep a hy u, by rw [← Act.put_comm a v u h2]; exact he⟩⟩
   case round l f tmps assign body =>
    refine ⟨h.1, RoundIn.mono h.2 fun e w'' he => ?_⟩
    cases e with
    | returned u => exact ⟨keep a hy u, by rw [← Act.put_comm a v u h2]; exact he⟩
    | panicked c => exact he
    | outgrown => exact he
  | halt x w' =>
   cases x <;> simp only [Oper.uponIn] at h ⊢
   case panic u => exact h
 ·rename_i hw
  simp only [hw] at h
  exact ⟨fun _ _ => trivial, keep a hy _, by rw [← Act.put_comm a v undef h2]; exact h.2⟩

def waitsOn (o : Oper) (i : Nat) : Bool := o.after.toList.any fun e => Region.binds .any e && Nat.beq e.on i

def isLoad (o : Oper) : Bool := match o.op with | .load .. => true | _ => false
def clo (arr : Array Oper) : Nat → List Nat → List Nat
 | 0, S => S
 | f + 1, S => clo arr f ((List.range arr.size).filter fun x => S.contains x || S.any fun y => match arr[y]? with
  | some o => waitsOn o x
  | none => false)
def regOk (arr : Array Oper) (last : Nat) : Bool :=
 arr.toList.all plainOp && (List.range arr.size).all (fun i => match arr[i]? with
  | none => true
  | some oi => (List.range arr.size).all fun j => Nat.beq j i || (match arr[j]? with
   | none => true
   | some oj => waitsOn oj i || waitsOn oi j || oi.apart arr oj)) &&
 (match arr[last]? with
  | some ol => (List.range arr.size).all fun x => match arr[x]? with
    | some ox => !isLoad ox || Nat.beq x last || waitsOn ox last || (clo arr 5 ((List.range arr.size).filter fun x => waitsOn ol x)).contains x
    | none => true
  | none => true)

theorem waitsOn_iff {o : Oper} {i : Nat} : waitsOn o i = true ↔ ∃ e ∈ o.after, Region.binds .any e = true ∧ e.on = i := by
 simp only [waitsOn, List.any_eq_true, Bool.and_eq_true, Array.mem_toList_iff]
 exact ⟨fun ⟨e, h1, h2, h3⟩ => ⟨e, h1, h2, Nat.eq_of_beq_eq_true h3⟩, fun ⟨e, h1, h2, h3⟩ => ⟨e, h1, h2, by rw [h3]; exact Nat.beq_refl i⟩⟩

theorem free_of_regOk (h : regOk arr last = true) {i : Nat} {oi : Oper} (hi : arr[i]? = some oi) (j : Nat) (oj : Oper) (hj : arr[j]? = some oj) (hne : j ≠ i)
  (hno : ∀ e ∈ oj.after, Region.binds .any e = true → e.on ≠ i) (hno2 : ∀ e ∈ oi.after, Region.binds .any e = true → e.on ≠ j) : oi.apart arr oj = true := by
 simp only [regOk, Bool.and_eq_true] at h
 have h1 := List.all_eq_true.1 h.1.2 i (by simpa using (Array.getElem?_eq_some_iff.1 hi).1)
 rw [hi] at h1
 have h2 := List.all_eq_true.1 h1 j (by simpa using (Array.getElem?_eq_some_iff.1 hj).1)
 rw [hj] at h2
 simp only [Bool.or_eq_true] at h2
 rcases h2 with h2 | (h2 | h2) | h2
 ·exact absurd (Nat.eq_of_beq_eq_true h2) hne
 ·obtain ⟨e, he, hb, hon⟩ := waitsOn_iff.1 h2
  exact absurd hon (hno e he hb)
 ·obtain ⟨e, he, hb, hon⟩ := waitsOn_iff.1 h2
  exact absurd hon (hno2 e he hb)
 ·exact h2

theorem plain_of_regOk (h : regOk arr last = true) {i : Nat} {oi : Oper} (hi : arr[i]? = some oi) : plainOp oi = true := by
 simp only [regOk, Bool.and_eq_true] at h
 exact List.all_eq_true.1 h.1.1 oi (by simpa using Array.mem_of_getElem? hi)

def Closed (arr : Array Oper) (listed : Array Bool) : Prop :=
 ∀ x o, arr[x]? = some o → listed.getD x false = true → ∀ e ∈ o.after, Region.binds .any e = true → listed.getD e.on false = true
def closedB (arr : Array Oper) (listed : Array Bool) : Bool :=
 (List.range arr.size).all fun x => !listed.getD x false || (match arr[x]? with
  | some o => o.after.toList.all fun e => !Region.binds .any e || listed.getD e.on false
  | none => true)
theorem closed_of {listed : Array Bool} (h : closedB arr listed = true) : Closed arr listed := by
 intro x o ho hx e he hb
 have h1 := List.all_eq_true.1 h x (by simpa using (Array.getElem?_eq_some_iff.1 ho).1)
 rw [hx, ho] at h1
 simp only [Bool.not_true, Bool.false_or] at h1
 have h2 := List.all_eq_true.1 h1 e (by simpa using he)
 simpa [hb] using h2
theorem getD_set_true {listed : Array Bool} {i k : Nat} (h : listed.getD k false = true) : (listed.setIfInBounds i true).getD k false = true := by
 by_cases hk : i = k
 ·subst hk
  have : i < listed.size := by
   rcases Nat.lt_or_ge i listed.size with h' | h'
   ·exact h'
   ·simp [Array.getElem?_eq_none h'] at h
  simp [this]
 ·rw [getD_set_ne false hk]; exact h
theorem closed_set {listed : Array Bool} (hc : Closed arr listed) {i : Nat} (hi : i ∈ Region.ready .any arr listed) : Closed arr (listed.setIfInBounds i true) := by
 intro x o ho hx e he hb
 by_cases hxi : i = x
 ·subst hxi
  obtain ⟨_, o', ho', hall⟩ := mem_ready.1 hi
  rw [ho] at ho'; cases ho'
  exact getD_set_true (hall e he hb)
 ·rw [getD_set_ne false hxi] at hx
  exact getD_set_true (hc x o ho hx e he hb)
theorem clo_listed {listed : Array Bool} (hc : Closed arr listed) : ∀ (f : Nat) (S : List Nat), (∀ y ∈ S, listed.getD y false = true) → ∀ x ∈ clo arr f S, listed.getD x false = true
 | 0, S, h, x, hx => h x hx
 | f + 1, S, h, x, hx => by
  refine clo_listed hc f _ (fun z hz => ?_) x hx
  have h2 := (List.mem_filter.1 hz).2
  simp only [Bool.or_eq_true, List.any_eq_true] at h2
  rcases h2 with h2 | ⟨y, hy, h2⟩
  ·exact h z (by simpa using h2)
  ·cases hay : arr[y]? with
   | none => rw [hay] at h2; cases h2
   | some oy =>
    rw [hay] at h2
    obtain ⟨e', he', hb', hon'⟩ := waitsOn_iff.1 h2
    have := hc y oy hay (h y hy) e' he' hb'
    rwa [hon'] at this
theorem no_two (hok : regOk arr last = true) {listed : Array Bool} (hc : Closed arr listed) (hl : last ∈ Region.ready .any arr listed) (hl0 : listed.getD last false = false) {x : Nat} {ox : Oper} (hox : arr[x]? = some ox) (hld : isLoad ox = true) (hx : x ∈ Region.ready .any arr listed) (hx0 : listed.getD x false = false) (hne : x ≠ last) : False := by
 obtain ⟨_, o, ho, hall⟩ := mem_ready.1 hl
 obtain ⟨_, ox', hox', hallx⟩ := mem_ready.1 hx
 rw [hox] at hox'; cases hox'
 simp only [regOk, Bool.and_eq_true, ho] at hok
 have h1 := List.all_eq_true.1 hok.2 x (by simpa using (Array.getElem?_eq_some_iff.1 hox).1)
 rw [hox] at h1
 simp only [hld, Bool.not_true, Bool.false_or, Bool.or_eq_true] at h1
 rcases h1 with (h1 | h1) | h1
 ·exact hne (Nat.eq_of_beq_eq_true h1)
 ·obtain ⟨e, he, hb, hon⟩ := waitsOn_iff.1 h1
  have := hallx e he hb
  rw [hon, hl0] at this; cases this
 ·have hS : ∀ y ∈ (List.range arr.size).filter fun x => waitsOn o x, listed.getD y false = true := fun y hy => by
   obtain ⟨e, he, hb, hon⟩ := waitsOn_iff.1 (List.mem_filter.1 hy).2
   rw [← hon]; exact hall e he hb
  have := clo_listed hc 5 _ hS x (by simpa using h1)
  rw [hx0] at this; cases this

theorem anyC_C : ∀ {f : Nat} {listed : Array Bool} {a : Act} {w : World}, anyC P ro arr C last K f listed a w → listed.getD last false = false → C w
 | 0, _, _, _, h => h.1
 | _ + 1, _, _, _, h => h.1

theorem getD_set_false {listed : Array Bool} {i j : Nat} (h : listed.getD j false = false) (hne : i ≠ j) : (listed.setIfInBounds i true).getD j false = false := by
 rw [getD_set_ne false hne]; exact h

theorem anyC_firstP (hok : regOk arr last = true) {i : Nat} {oi : Oper} {v : Value} (hi : arr[i]? = some oi) (hne : i ≠ last) :
  ∀ (f : Nat) (listed : Array Bool) (a : Act) (w : World), i ∈ Region.ready .any arr listed → YC P arr (fun _ => True) oi v a →
   anyC P ro arr C last K f (listed.setIfInBounds i true) (a.put oi.dst v) w → anyC P ro arr C last K (f + 1) listed a w := by
 intro f
 induction f with
 | zero =>
  intro listed a w hr hy H
  refine ⟨fun hl => anyC_C H (getD_set_false hl hne), fun h => (by rw [h] at hr; cases hr), fun j hj => ?_⟩
  by_cases hji : j = i
  ·subst hji; exact hy.wpOp hi (plain_of_regOk hok hi) trivial H
  ·have := ready_mono hj hji
   rw [H.2.1] at this
   cases this
 | succ f ih =>
  intro listed a w hr hy H
  refine ⟨fun hl => anyC_C H (getD_set_false hl hne), fun h => (by rw [h] at hr; cases hr), fun j hj => ?_⟩
  by_cases hji : j = i
  ·subst hji; exact hy.wpOp hi (plain_of_regOk hok hi) trivial H
  ·have h1 := H.2.2 j (ready_mono hj hji)
   obtain ⟨hjun, oj, hoj, hall⟩ := mem_ready.1 hj
   have hf : ∀ x, x < arr.size → listed.getD x true = false → listed.getD x false = false := by
    intro x _ h0
    rcases Nat.lt_or_ge x listed.size with h' | h'
    ·simpa [h'] using h0
    ·simp [Array.getElem?_eq_none h'] at h0
   have hil : listed.getD i false = false := hf i (Array.getElem?_eq_some_iff.1 hi).1 (mem_ready.1 hr).1
   have hjl0 : listed.getD j false = false := hf j (Array.getElem?_eq_some_iff.1 hoj).1 hjun
   have hnot : ∀ e ∈ oj.after, Region.binds .any e = true → e.on ≠ i := fun e he hb heq => by
    have h1 := hall e he hb
    rw [heq, hil] at h1
    cases h1
   have hnot2 : ∀ e ∈ oi.after, Region.binds .any e = true → e.on ≠ j := fun e he hb heq => by
    obtain ⟨_, oi', hoi', halli⟩ := mem_ready.1 hr
    rw [hi] at hoi'; cases hoi'
    have h1 := halli e he hb
    rw [heq, hjl0] at h1
    cases h1
   have h2 := wpOp_putC hoj (free_of_regOk hok hi j oj hoj hji hnot hnot2) (plain_of_regOk hok hi) (plain_of_regOk hok hoj) hy h1
   refine wpOpIn_mono (fun a' w' h3 => ?_) h2
   refine ih (listed.setIfInBounds j true) a' w' (ready_mono hr (Ne.symm hji)) h3.1 ?_
   rw [Array.setIfInBounds_comm _ _ hji]
   exact h3.2

theorem anyC_first (hok : regOk arr last = true) {i : Nat} {oi : Oper} {v : Value} (hi : arr[i]? = some oi) (hld : isLoad oi = true) (hne : i ≠ last) :
  ∀ (f : Nat) (listed : Array Bool) (a : Act) (w : World), Closed arr listed → listed.getD last false = false → i ∈ Region.ready .any arr listed → YC P arr C oi v a → C w →
   anyC P ro arr C last K f (listed.setIfInBounds i true) (a.put oi.dst v) w → anyC P ro arr C last K (f + 1) listed a w := by
 intro f
 induction f with
 | zero =>
  intro listed a w hcl hl hr hy hC H
  refine ⟨fun _ => hC, fun h => (by rw [h] at hr; cases hr), fun j hj => ?_⟩
  by_cases hji : j = i
  ·subst hji; exact hy.wpOp hi (plain_of_regOk hok hi) hC H
  ·have := ready_mono hj hji
   rw [H.2.1] at this
   cases this
 | succ f ih =>
  intro listed a w hcl hl hr hy hC H
  refine ⟨fun _ => hC, fun h => (by rw [h] at hr; cases hr), fun j hj => ?_⟩
  by_cases hji : j = i
  ·subst hji; exact hy.wpOp hi (plain_of_regOk hok hi) hC H
  ·have h1 := H.2.2 j (ready_mono hj hji)
   obtain ⟨hjun, oj, hoj, hall⟩ := mem_ready.1 hj
   have hf : ∀ x, x < arr.size → listed.getD x true = false → listed.getD x false = false := by
    intro x _ h0
    rcases Nat.lt_or_ge x listed.size with h' | h'
    ·simpa [h'] using h0
    ·simp [Array.getElem?_eq_none h']
   have hil : listed.getD i false = false := hf i (Array.getElem?_eq_some_iff.1 hi).1 (mem_ready.1 hr).1
   have hjl0 : listed.getD j false = false := hf j (Array.getElem?_eq_some_iff.1 hoj).1 hjun
   have hnot : ∀ e ∈ oj.after, Region.binds .any e = true → e.on ≠ i := fun e he hb heq => by
    have h1 := hall e he hb
    rw [heq, hil] at h1
    cases h1
   have hnot2 : ∀ e ∈ oi.after, Region.binds .any e = true → e.on ≠ j := fun e he hb heq => by
    obtain ⟨_, oi', hoi', halli⟩ := mem_ready.1 hr
    rw [hi] at hoi'; cases hoi'
    have h1 := halli e he hb
    rw [heq, hjl0] at h1
    cases h1
   have hjl : j ≠ last := by
    intro e; subst e
    exact no_two hok hcl hj hjl0 hi hld hr hil hne
   have h2 := wpOp_putC hoj (free_of_regOk hok hi j oj hoj hji hnot hnot2) (plain_of_regOk hok hi) (plain_of_regOk hok hoj) hy h1
   refine wpOpIn_mono (fun a' w' h3 => ?_) h2
   refine ih (listed.setIfInBounds j true) a' w' (closed_set hcl hj) (getD_set_false hl hjl) (ready_mono hr (Ne.symm hji)) h3.1 ?_ ?_
   ·exact anyC_C h3.2 (getD_set_false (getD_set_false hl hne) hjl)
   ·rw [Array.setIfInBounds_comm _ _ hji]
    exact h3.2
end

def TA (P : Program) (ro : Option Nat) (n : Nat) (ds : List Deferred) (arr : Array Oper) (C : World → Prop) (last : Nat) (K : Act → World → Prop) (f : Nat) (listed : Array Bool) (l : Fr) (w : World) : Prop :=
 ∀ a, Fit n ds l a → anyC P ro arr C last K f listed a w

section
variable {P : Program} (U : Tys P) {ro : Option Nat} {n : Nat} {ds : List Deferred} {Q : PT} {l l' : Fr} {w w' : World} {arr : Array Oper} {k : List It} {C : World → Prop} {last : Nat} {K : Act → World → Prop}

theorem dwn {id : Nat} (last : Nat) (C : World → Prop) (hm : P.follows .mixedOrders = true) 
  (t : ∀ w1, w1.heap = w.heap → w.grownBy w1 none → TA P ro n ds arr C last (TT P ro k Q .nrm) arr.size (Array.replicate arr.size false) l w1) : T P ro n ds Q l w (.code (.region id arr true)) k := by
 intro a hf
 refine wpIn_mono (Q := QN (TT P ro k Q .nrm)) (wpIn_region_any hm (anyC_any _ _ _ _ (t { w with drawn := w.drawn + 1 } rfl ⟨rfl, rfl, rfl, Nat.le_refl _, fun _ _ _ => rfl⟩ a hf))) ?_
 intro e a w h
 cases e <;> first | exact h | exact h.elim

def quiet1 (tb : Tab) (l : Fr) (P : Program) (C : World → Prop) (mem : List (Nat × Value)) (i : Nat) (op : Op) : Option (Value × List Prop) :=
 match op with
 | .load t x => match look mem i with
  | some v => match ev l x with
   | some (.pointer (some p)) => some (v, [∀ w, C w → (loadVar t p).run P w = .ok v w])
   | _ => none
  | none => none
 | .indexAddr t x y => match tb.u t with
  | some (.slice e) => match tb.sz e with
   | some s => match ev l x with
    | some (.slice (some p) m _) => match ev l y with
     | some (.int _ j) => some (.pointer (some (p.add (j.toNat * s))), [0 ≤ j, j < m])
     | _ => none
    | _ => none
   | none => none
  | _ => none
 | op => pure1 tb l op

theorem quiet1_sound {a : Act} {o : Oper} {v : Value} {ps : List Prop} {mem : List (Nat × Value)} {i : Nat} (h : Fit n ds l a) (e : quiet1 U.tb l P C mem i o.op = some (v, ps)) (hp : AllP ps) (w : World) (hC : C w) :
  (execOp a.eval o).run P w = .ok (.value v) w := by
 obtain ⟨dst, op, type, pos, after, guard⟩ := o
 dsimp only at e
 unfold quiet1 at e
 split at e
 ·rename_i t x
  split at e
  ·rename_i u hu
   split at e
   ·rename_i p hx
    simp at e; obtain ⟨rfl, rfl⟩ := e
    have := hp.1 w hC
    simp [execOp, h.ev hx, Instr.loadAt, Instr.sureAddr, this]
   ·simp at e
  ·simp at e
 ·rename_i t x y
  split at e
  ·rename_i el ht
   split at e
   ·rename_i s hs
    split at e
    ·rename_i p m c hx
     split at e
     ·rename_i kk j hy
      simp at e; obtain ⟨rfl, rfl⟩ := e
      obtain ⟨h1, h2, _⟩ := hp
      have := run_index (P := P) U ht hs p m c j.toNat kk (by omega) w
      rw [Int.toNat_of_nonneg h1] at this
      simp [execOp, h.ev hx, h.ev hy, this]
     ·simp at e
    ·simp at e
   ·simp at e
  ·simp at e
 ·exact pure1_sound U h e hp w

theorem quiet1_soundP {a : Act} {o : Oper} {v : Value} {ps : List Prop} {mem : List (Nat × Value)} {i : Nat} (h : Fit n ds l a) (hnl : isLoad o = false) (e : quiet1 U.tb l P C mem i o.op = some (v, ps)) (hp : AllP ps) (w : World) :
  (execOp a.eval o).run P w = .ok (.value v) w := by
 have e2 : quiet1 U.tb l P (fun _ => True) mem i o.op = some (v, ps) := by
  unfold quiet1 at e ⊢
  unfold isLoad at hnl
  split at e
  ·rename_i ho; rw [ho] at hnl; cases hnl
  ·rename_i ho; rw [ho] at *; exact e
  ·exact e
 exact quiet1_sound U (C := fun _ => True) h e2 hp w trivial

def nextQ (tb : Tab) (n : Nat) (P : Program) (C : World → Prop) (mem : List (Nat × Value)) (arr : Array Oper) (l : Fr) (i : Nat) : Option (Fr × List Prop) :=
 match arr[i]? with
 | some o => match gd arr l o.guard with
  | some true => match quiet1 tb l P C mem i o.op with
   | some (v, p) => match put1 n l o.dst v with
    | some l' => some (l', p)
    | none => none
   | none => none
  | some false => match put1 n l o.dst undef with
   | some l' => some (l', [])
   | none => none
  | none => none
 | none => none

def driveQ (tb : Tab) (n : Nat) (P : Program) (C : World → Prop) (mem : List (Nat × Value)) (arr : Array Oper) : List Nat → Nat → Array Bool → Fr → List Prop → Option (Nat × Array Bool × Fr × List Prop)
 | [], f, listed, l, ps => some (f, listed, l, ps)
 | i :: is, f, listed, l, ps => match f with
  | 0 => none
  | f + 1 => match (readyL arr listed).contains i with
   | false => none
   | true => match nextQ tb n P C mem arr l i with
    | some (l', p) => match p with
     | [] => driveQ tb n P C mem arr is f (listed.setIfInBounds i true) l' ps
     | q :: qs => driveQ tb n P C mem arr is f (listed.setIfInBounds i true) l' (q :: (qs ++ ps))
    | none => none

theorem driveQ_sound (hok : regOk arr last = true) (hC : C w) {mem : List (Nat × Value)} : ∀ (is : List Nat) {f f' : Nat} {listed listed' : Array Bool} {l l' : Fr} {ps ps' : List Prop},
  driveQ U.tb n P C mem arr is f listed l ps = some (f', listed', l', ps') → Closed arr listed → AllP ps' → listed'.getD last false = false →
   (TA P ro n ds arr C last K f' listed' l' w → TA P ro n ds arr C last K f listed l w) ∧ AllP ps ∧ listed.getD last false = false := by
 intro is
 induction is with
 | nil => intro f f' listed listed' l l' ps ps' e hcl hp hl; simp [driveQ] at e; obtain ⟨rfl, rfl, rfl, rfl⟩ := e; exact ⟨id, hp, hl⟩
 | cons i is ih =>
  intro f f' listed listed' l l' ps ps' e hcl hp hl
  unfold driveQ at e
  split at e
  ·simp at e
  ·rename_i f
   split at e
   ·simp at e
   ·rename_i hr
    split at e
    ·rename_i l1 p hn
     have key : (TA P ro n ds arr C last K f' listed' l' w → TA P ro n ds arr C last K f (listed.setIfInBounds i true) l1 w) → AllP p → AllP ps → (listed.setIfInBounds i true).getD last false = false →
       (TA P ro n ds arr C last K f' listed' l' w → TA P ro n ds arr C last K (f + 1) listed l w) ∧ AllP ps ∧ listed.getD last false = false := by
      intro h1 h2 h3 h4
      have hr' : i ∈ Region.ready .any arr listed := by rw [ready_eq]; simpa using hr
      have h5 : listed.getD last false = false := by
       by_cases hil : i = last
       ·subst hil
        obtain ⟨hu, o, ho, _⟩ := mem_ready.1 hr'
        rcases Nat.lt_or_ge i listed.size with h' | h'
        ·simpa [h'] using hu
        ·simp [Array.getElem?_eq_none h']
       ·rwa [getD_set_ne false hil] at h4
      have hne : i ≠ last := by
       intro hil
       subst hil
       have hu := (mem_ready.1 hr').1
       rcases Nat.lt_or_ge i listed.size with h' | h'
       ·simp [h'] at h4
       ·simp [Array.getElem?_eq_none h'] at hu
      refine ⟨fun t a hf => ?_, h3, h5⟩
      unfold nextQ at hn
      split at hn
      ·rename_i o ho
       split at hn
       ·rename_i hg
        split at hn
        ·rename_i v q hv
         split at hn
         ·rename_i l2 hl2
          simp at hn; obtain ⟨rfl, rfl⟩ := hn
          cases hld : isLoad o with
          | true => exact anyC_first hok ho hld hne f listed a w hcl h5 hr' (.inl ⟨gd_wanted hf hg, fun w hC => quiet1_sound U hf hv h2 w hC⟩) hC (h1 t _ (hf.put1 hl2))
          | false => exact anyC_firstP hok ho hne f listed a w hr' (.inl ⟨gd_wanted hf hg, fun w _ => quiet1_soundP U hf hld hv h2 w⟩) (h1 t _ (hf.put1 hl2))
         ·simp at hn
        ·simp at hn
       ·rename_i hg
        split at hn
        ·rename_i l2 hl2
         simp at hn; obtain ⟨rfl, rfl⟩ := hn
         exact anyC_firstP hok ho hne f listed a w hr' (.inr ⟨gd_wanted hf hg, rfl⟩) (h1 t _ (hf.put1 hl2))
        ·simp at hn
       ·simp at hn
      ·simp at hn
     split at e
     ·obtain ⟨h1, h2, h3⟩ := ih e (closed_set hcl (by rw [ready_eq]; simpa using hr)) hp hl
      exact key h1 trivial h2 h3
     ·obtain ⟨h1, h2, h3⟩ := ih e (closed_set hcl (by rw [ready_eq]; simpa using hr)) hp hl
      obtain ⟨h4, h5⟩ := AllP.append (a := _ :: _) h2
      exact key h1 h4 h5 h3
    ·simp at e

theorem dq {f f' : Nat} {listed listed' : Array Bool} {ps' : List Prop} (is : List Nat) (mem : List (Nat × Value)) (hok : (regOk arr last && closedB arr listed) = true)
  (e : driveQ U.tb n P C mem arr is f listed l [] = some (f', listed', l', ps')) (hl : listed'.getD last false = false) (hC : C w) (hp : AllP ps') (t : TA P ro n ds arr C last K f' listed' l' w) : TA P ro n ds arr C last K f listed l w :=
 (driveQ_sound U (Bool.and_eq_true _ _ ▸ hok).1 hC is e (closed_of (Bool.and_eq_true _ _ ▸ hok).2) hp hl).1 t

theorem d1 {f : Nat} {listed : Array Bool} {j : Nat} {o : Oper} (hr : readyL arr listed = [j]) (ho : arr[j]? = some o) (hC : listed.getD last false = false → C w)
  (t : T P ro n ds (QN K) l w (.ops arr [o]) [.inv (fun a w' => anyC P ro arr C last K f (listed.setIfInBounds j true) a w')]) : TA P ro n ds arr C last K (f + 1) listed l w := by
 rw [← ready_eq] at hr
 intro a hf
 refine ⟨hC, fun h => (by rw [hr] at h; cases h), fun i hi => ?_⟩
 rw [hr] at hi
 simp at hi; subst hi
 have h1 := t a hf
 change wpListIn _ _ _ _ _ _ _ _ at h1
 unfold wpListIn at h1
 unfold wpOpIn
 rw [ho]
 split at h1
 ·rename_i hw
  simp only [hw, if_true]
  have hQ : ∀ a w, wpListIn (FW ro) 0 P arr (KQ P ro [.inv (fun a w' => anyC P ro arr C last K f (listed.setIfInBounds i true) a w')] (QN K)) [] a w → anyC P ro arr C last K f (listed.setIfInBounds i true) a w := fun a w h => h
  have h2 := Oper.wpIn_mono hQ h1
  refine ⟨h2.1, ?_⟩
  have h3 := h2.2
  generalize (o.semAt (FW ro).round a.eval).run P w = r at h3 ⊢
  cases r with
  | ok x w' =>
   cases x <;> simp only [Oper.uponIn] at h3 ⊢ <;> first
    | exact h3
    | exact ⟨h3.1, h3.2.mono fun e w'' he => by cases e <;> first | exact he | (obtain ⟨_, _, h⟩ := he; exact h.elim)⟩
  | halt x w' => cases x <;> simp only [Oper.uponIn] at h3 ⊢ <;> exact h3
 ·rename_i hw
  simp only [hw]
  exact h1

theorem d2 {f : Nat} {listed : Array Bool} (t : TA P ro n ds arr C last K f listed l w) : T P ro n ds Q l w (.ops arr []) [.inv (fun a w' => anyC P ro arr C last K f listed a w')] :=
 fun a hf => t a hf

theorem dend {f : Nat} {listed : Array Bool} (hr : readyL arr listed = []) (hC : listed.getD last false = false → C w) (t : T P ro n ds Q l w .nrm k) :
  TA P ro n ds arr C last (TT P ro k Q .nrm) f listed l w := by
 rw [← ready_eq] at hr
 intro a hf
 cases f with
 | zero => exact ⟨hC, hr, t a hf⟩
 | succ f => exact ⟨hC, fun _ => t a hf, fun i hi => by rw [hr] at hi; cases hi⟩
end

/-! Tables. -/
def FlOk (P : Program) (t f off : Nat) : Prop := ∃ fs fd d, P.underlying t = some (.struct fs) ∧ fs[f]? = some fd ∧ fd.offset = off ∧ P.underlying fd.type = some d ∧ plainD d = true
def BdOk (P : Program) (t : Nat) (x : List (Nat × Nat) × List Value) : Prop := ∃ it zz fs, P.info? t = some it ∧ it.zero = some zz ∧ zz.cells = ⟨x.2⟩ ∧ P.underlying t = some (.struct fs) ∧ fs.toList.mapM (fun f => (P.info? f.type).map fun i => (f.offset, i.size)) = some x.1
theorem bd_of {P : Program} {t : Nat} {x : List (Nat × Nat) × List Value} {fs : Array Field} (hu : P.underlying t = some (.struct fs)) (h : ((P.info? t).bind (·.zero)).map (·.cells) = some ⟨x.2⟩) (hp : fs.toList.mapM (fun f => (P.info? f.type).map fun i => (f.offset, i.size)) = some x.1) : BdOk P t x := by
 cases hi : P.info? t with
 | none => rw [hi] at h; cases h
 | some i =>
  rw [hi, Option.bind_some] at h
  cases hz : i.zero with
  | none => rw [hz] at h; cases h
  | some z =>
   rw [hz] at h
   exact ⟨i, z, fs, hi, hz, Option.some.inj h, hu, hp⟩
def lk {α : Type} : List (Nat × α) → Nat → Option α
 | [], _ => none
 | (k, v) :: r, t => match Nat.beq k t with
  | true => some v
  | false => lk r t
def AllL {α : Type} (p : Nat → α → Prop) : List (Nat × α) → Prop
 | [] => True
 | (t, d) :: r => p t d ∧ AllL p r
theorem lk_all {α : Type} {p : Nat → α → Prop} : ∀ (L : List (Nat × α)), AllL p L → ∀ t d, lk L t = some d → p t d
 | [], _, _, _, e => by simp [lk] at e
 | (k, v) :: r, h, t, d, e => by
  simp only [lk] at e
  split at e
  ·rename_i hb
   obtain rfl := Nat.eq_of_beq_eq_true hb
   cases e; exact h.1
  ·exact lk_all r h.2 t d e
def lk2 {α : Type} (L : List (Nat × List (Nat × α))) (t f : Nat) : Option α :=
 match lk L t with
 | some l => lk l f
 | none => none
def InfOk (P : Program) (t : Nat) (x : Nat × Nat × Value) : Prop := ∃ i, P.info? t = some i ∧ i.size = x.1 ∧ i.bytes = x.2.1 ∧ i.zero = some x.2.2
theorem inf_of {P : Program} {t : Nat} {x : Nat × Nat × Value} (h : (P.info? t).map (fun i => (i.size, i.bytes, i.zero)) = some (x.1, x.2.1, some x.2.2)) : InfOk P t x := by
 cases hi : P.info? t with
 | none => rw [hi] at h; cases h
 | some i =>
  rw [hi] at h
  simp at h
  exact ⟨i, hi, h.1, h.2.1, h.2.2⟩
theorem InfOk.sz {P : Program} {t : Nat} {x : Nat × Nat × Value} (h : InfOk P t x) : ∃ i, P.info? t = some i ∧ i.size = x.1 := let ⟨i, a, b, _⟩ := h; ⟨i, a, b⟩
def FoOk (P : Program) (t f off : Nat) : Prop := ∃ fs fd i, P.underlying t = some (.struct fs) ∧ fs[f]? = some fd ∧ fd.offset = off ∧ P.info? fd.type = some i ∧ i.size ≠ 0
theorem fo_of {P : Program} {t f off ty : Nat} {fs : Array Field} {fd : Field} {x : Nat × Nat × Value} (h1 : P.underlying t = some (.struct fs)) (h2 : fs[f]? = some fd) (h3 : (fd.offset, fd.type) = (off, ty)) (h4 : InfOk P ty x) (h5 : x.1 ≠ 0) : FoOk P t f off := by
 simp at h3
 obtain ⟨rfl, rfl⟩ := h3
 obtain ⟨i, h6, h7, _⟩ := h4
 exact ⟨fs, fd, i, h1, h2, rfl, h6, by rw [h7]; exact h5⟩
theorem lk2_all {R : Nat → Nat → Nat → Prop} (L : List (Nat × List (Nat × Nat))) (h : AllL (fun t d => AllL (fun f o => R t f o) d) L) {t f off : Nat} (e : lk2 L t f = some off) : R t f off := by
 unfold lk2 at e
 split at e
 ·rename_i l hl
  exact lk_all l (lk_all L h t l hl) f off e
 ·simp at e
end Go.Proofs.YtejlpdbiacmfcaaGreatDoor
