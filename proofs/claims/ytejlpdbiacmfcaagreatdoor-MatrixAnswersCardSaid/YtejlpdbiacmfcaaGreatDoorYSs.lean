/-
  Engine rules: slices of structs, structs that are compared, functions that are compared with nil, two operations of which either may come first.
  No conditions: each theorem names its own premises.
  Walks of the reference's rational numbers: Over, Negative, Times, Order, Check, Sub, Mul, Div, Cmp, Sign, Floor, Pow of a half.
  Conditions: texts take fewer than 2^40 bytes; numbers take fewer than a million digits.
-/
import Derived.Test.YtejlpdbiacmfcaaGreatDoorYPar
import Derived.Test.YtejlpdbiacmfcaaGreatDoorYRF
import Derived.Test.YtejlpdbiacmfcaaGreatDoorYR5
import Derived.Great.BuildSlice
import Derived.Laws.StructEq
set_option linter.unusedSimpArgs false
set_option linter.unusedVariables false
namespace Go.Proofs.YtejlpdbiacmfcaaGreatDoor
section
open Go.RowKit

section
variable {P : Program} (U : Tys P) {ro : Option Nat} {n : Nat} {ds : List Deferred} {Q : PT} {l l' : Fr} {w w' : World} {arr : Array Oper} {r : List Oper} {k : List It}

theorem ia {x1 : Nat} {t e ty : TypeId} {x i : Operand} {ps : String} {af : Array Edge} {g1 : Option (Nat × Bool)} {g off m c s : Nat} {ki : IntKind} {iv : Int}
  (hx : ev l x = some (.slice (some ⟨g, off, none⟩) m c)) (hi : ev l i = some (.int ki iv)) (ht : U.tb.u t = some (.slice e)) (hz : U.tb.sz e = some s) (hg1 : gd arr l g1 = some true) (hx1 : Nat.blt x1 n = true)
  (j : Nat) (hj : iv = (j : Int)) (hm : j < m)
  (t' : T P ro n ds Q ((x1, .pointer (some ⟨g, off + j * s, none⟩)) :: l) w (.ops arr r) k) :
  T P ro n ds Q l w (.ops arr (⟨some x1, .indexAddr t x i, ty, ps, af, g1⟩ :: r)) k := by
 subst hj
 refine op1 (w' := w) (v := .pointer (some ⟨g, off + j * s, none⟩)) (by intro c h; cases h) hg1 (put1_some hx1) (fun a hf => ?_) t'
 have := run_index U ht hz ⟨g, off, none⟩ m c j ki hm w
 simp [execOp, hf.ev hx, hf.ev hi, this, add_plain]

theorem run_load_mid {t : TypeId} {s b off : Nat} {cs : List Value} (h : AggOk P t s) (hc : ∀ j v, cs[j]? = some v → w.cell? ⟨b, off + j, none⟩ = some v) (hs : cs.length = s) :
  (loadVar t ⟨b, off, none⟩).run P w = .ok (.agg ⟨cs⟩) w := by
 obtain ⟨⟨fs, hu⟩, i, hi, hz⟩ := h
 exact run_loadVar_mid w b off t cs (.struct fs) hc hu rfl (by rw [hi]; simp [hz, hs])

theorem lgo {dst : Option Nat} {t ty : TypeId} {x : Operand} {ps : String} {af : Array Edge} {g : Option (Nat × Bool)} {p : Addr} {b off s : Nat} {cs : List Value} (hx : ev l x = some (.pointer (some p))) (hp : p = ⟨b, off, none⟩) (ht : AggOk P t s) (hg : gd arr l g = some true)
  (hl : put1 n l dst (.agg ⟨cs⟩) = some l') (hc : ∀ j v, cs[j]? = some v → w.cell? ⟨b, off + j, none⟩ = some v) (hs : cs.length = s) (t' : T P ro n ds Q l' w (.ops arr r) k) : T P ro n ds Q l w (.ops arr (⟨dst, .load t x, ty, ps, af, g⟩ :: r)) k := by
 subst hp
 exact op1 (by intro c h; cases h) hg hl (fun a hf => by
  simp only [execOp, hf.ev hx, Instr.loadAt, Instr.sureAddr]
  simp [run_load_mid ht hc hs]) t'

theorem Sl.at {a : Option Addr} {vs : List Value} (h : Sl w a vs) {j : Nat} (hj : j < vs.length) : ∃ g off, a = some ⟨g, off, none⟩ ∧ ∀ i v, vs[i]? = some v → w.cell? ⟨g, off + i, none⟩ = some v := by
 obtain ⟨g, off, rfl, _⟩ := h j vs[j] (List.getElem?_eq_getElem hj)
 refine ⟨g, off, rfl, fun i v hv => ?_⟩
 obtain ⟨g', off', he, hc⟩ := h i v hv
 cases he
 exact hc

theorem ig {x1 d2 : Nat} {t e t2 ty ty2 : TypeId} {x i : Operand} {ps ps2 : String} {af af2 : Array Edge} {g1 g2 : Option (Nat × Bool)} {a : Option Addr} {m c s : Nat} {ki : IntKind} {iv : Int} {vs cs : List Value}
  (hx : ev l x = some (.slice a m c)) (hi : ev l i = some (.int ki iv)) (ht : U.tb.u t = some (.slice e)) (hz : U.tb.sz e = some s) (h2 : AggOk P t2 s)
  (hg1 : gd arr l g1 = some true) (hx1 : Nat.blt x1 n = true) (hg2 : ∀ p, gd arr ((x1, p) :: l) g2 = some true) (hd2 : Nat.blt d2 n = true)
  (j : Nat) (hj : iv = (j : Int)) (hm : j < m) (hs : Sl w a vs) (hcs : ∀ i v, cs[i]? = some v → vs[j * s + i]? = some v) (hlen : cs.length = s) (hpos : 0 < s)
  (t' : T P ro n ds Q ((d2, .agg ⟨cs⟩) :: (x1, .pointer (a.map (·.add (j * s)))) :: l) w (.ops arr r) k) :
  T P ro n ds Q l w (.ops arr (⟨some x1, .indexAddr t x i, ty, ps, af, g1⟩ :: ⟨some d2, .load t2 (.tmp x1), ty2, ps2, af2, g2⟩ :: r)) k := by
 have hlt : j * s < vs.length := by
  have := hcs 0 cs[0] (List.getElem?_eq_getElem (by omega))
  have := (List.getElem?_eq_some_iff.1 this).1
  omega
 obtain ⟨g, off, rfl, hc⟩ := hs.at hlt
 refine ia U hx hi ht hz hg1 hx1 j hj hm ?_
 refine lgo (p := ⟨g, off + j * s, none⟩) (by simp [ev, look_cons]) rfl h2 (hg2 _) (put1_some hd2) (cs := cs) (fun i v hv => by rw [Nat.add_assoc]; exact hc _ v (hcs i v hv)) hlen ?_
 simpa [add_plain] using t'

theorem aps {d1 d2 : Nat} {t e ty ty2 : TypeId} {x s : Operand} {ps ps2 : String} {af af2 : Array Edge} {g1 g2 : Option (Nat × Bool)} {a : Option Addr} {m c sz : Nat} {vs : List Value} {z : Value} {by_ : Nat} {base : Nat} {cs : List Value} {tt : Array TypeId}
  (hx : ev l x = some (.agg ⟨vs⟩)) (ht : U.tb.u t = some (.slice e)) (hi : U.tb.inf e = some (sz, by_, z)) (hzc : Nat.beq z.cells.size sz = true) (hsz : Nat.blt 0 sz = true) (hsm : Nat.ble sz 16777216 = true)
  (hg1 : gd arr l g1 = some true) (hd1 : Nat.blt d1 n = true) (hg2 : ∀ p, gd arr ((d1, p) :: l) g2 = some true) (hd2 : Nat.blt d2 n = true) (hs2 : ∀ p, ev ((d1, p) :: l) s = some (.slice a m c)) (htt : tt = #[t, t])
  (hvl : Nat.beq vs.length sz = true) (h1 : vs.all (·.oneCell') = true)
  (hown : w.ownsRow base e sz (.slice a m c) m cs) (hbase : base ≤ w.heap.size) (hlen : (m + 1) * by_ ≤ 140737488355328) (hby : Nat.blt 0 by_ = true)
  (t' : ∀ a' c' w1, w1.ownsRow base e sz (.slice a' (m + 1) c') (m + 1) (cs ++ vs) → w.grownBy w1 (ab a) → T P ro n ds Q ((d2, .slice a' (m + 1) c') :: (d1, .slice (some ⟨w.heap.size, 0, none⟩) 1 1) :: l) w1 (.ops arr r) k) :
  T P ro n ds Q l w (.ops arr (⟨some d1, .buildSlice t 1 #[(0, x)], ty, ps, af, g1⟩ :: ⟨some d2, .call ⟨.builtin .append, #[s, .tmp d1], tt⟩, ty2, ps2, af2, g2⟩ :: r)) k := by
 subst htt
 have hsz : 0 < sz := by simpa using hsz
 have hsm : sz ≤ 16777216 := Nat.le_of_ble_eq_true hsm
 have hby : 0 < by_ := by simpa using hby
 have hzc := Nat.eq_of_beq_eq_true hzc
 have hvl := Nat.eq_of_beq_eq_true hvl
 obtain ⟨i, hi0, hz1, hz2, hz3⟩ := U.hi _ _ _ _ hi
 have hpt := U.hu _ _ ht
 have hmm : m + 1 ≤ maxLen := by
  unfold maxLen
  have : (m + 1) * 1 ≤ (m + 1) * by_ := Nat.mul_le_mul_left _ hby
  omega
 have hfill := Great.fill_whole hsz [Value.agg ⟨vs⟩] ((Array.range (1 * i.size)).map (z.cells[· % z.cells.size]!)) (by intro v hv; rw [List.mem_singleton.1 hv]; exact hvl) (by simp [hz1])
 have hbuild := run_buildSlice (P := P) w t e 1 #[(0, .agg ⟨vs⟩)] _ i z hpt hi0 hz3 (by rw [hz1]; omega) (by rw [hz1]; omega) (by rw [hz1] at hfill ⊢; exact hfill)
 have hcells : (List.flatMap (fun v => v.cells.toList) [Value.agg ⟨vs⟩]).toArray = ⟨vs⟩ := by simp [Value.cells]
 rw [hcells] at hbuild
 refine op1 (w' := w.alloc (.cells ⟨vs⟩ e)) (v := .slice (some ⟨w.heap.size, 0, none⟩) 1 1) (by intro c h; cases h) hg1 (put1_some hd1) (fun a hf => ?_) ?_
 ·simp only [execOp]
  simp [hf.ev hx, hbuild]
 ·have hown1 := hown.alloc (.cells ⟨vs⟩ e)
  obtain ⟨v', w1, hrun, ho, hgr, _⟩ := run_append_own (w.alloc (.cells ⟨vs⟩ e)) base t ty2 e i z sz by_ hpt hi0 hz3 hz1 hz2 hzc hsz (.slice a m c) m cs hown1 ⟨w.heap.size, 0, none⟩ 1 1 vs (by omega)
   (by
    intro j u hj
    rw [add_plain, Nat.zero_add]
    exact (show Bk (w.alloc (.cells ⟨vs⟩ e)) w.heap.size e vs from heap_alloc_new w _).cell hj)
   (fun u hu => List.all_eq_true.1 h1 u hu) hmm hlen (by simp; omega)
  obtain ⟨a', c', rfl⟩ : ∃ a' c', v' = .slice a' (m + 1) c' := by
   rcases ho.2 with ⟨_, h⟩ | ⟨g, cap, cur, h, _⟩
   ·omega
   ·exact ⟨_, _, h⟩
  refine op1 (w' := w1) (by intro c h; cases h) (hg2 _) (put1_some hd2) (fun act hf => ?_) (t' a' c' w1 ho ?_)
  ·have e1 := hf.ev (hs2 _)
   have e2 : act.eval (.tmp d1) = .slice (some ⟨w.heap.size, 0, none⟩) 1 1 := hf.ev (by simp [ev, look_cons])
   simp only [execOp, resolve, invoke, builtin]
   simp [e1, e2, hrun]
  ·rw [ownBlock_ab] at hgr
   have h0 := World.grownBy_alloc w (.cells ⟨vs⟩ e) (ab a)
   exact ⟨hgr.os.trans h0.os, hgr.tape.trans h0.tape, hgr.output.trans h0.output, Nat.le_trans h0.size hgr.size, fun k hk hne => (hgr.block k (by simp; omega) hne).trans (h0.block k hk hne)⟩

theorem bsS {d1 len : Nat} {t e ty : TypeId} {ops : List (Nat × Operand)} {ps : String} {af : Array Edge} {g1 : Option (Nat × Bool)} {z : Value} {sz by_ : Nat} (vs : List (List Value))
  (hx : ops.mapM (fun p => (ev l p.2).map fun v => (p.1, v)) = some (((vs.map fun cs => Value.agg ⟨cs⟩).zipIdx 0).map fun x => (x.2, x.1))) (ht : U.tb.u t = some (.slice e)) (hi : U.tb.inf e = some (sz, by_, z)) (hg1 : gd arr l g1 = some true) (hd1 : Nat.blt d1 n = true)
  (hlen : vs.length = len) (hpos : 0 < len * sz) (hsm : len * sz ≤ 16777216) (hszs : ∀ cs ∈ vs, cs.length = sz)
  (t' : ∀ w1, Bk w1 w.heap.size e vs.flatten → w1.heap.size = w.heap.size + 1 → w.grownBy w1 none → T P ro n ds Q ((d1, .slice (some ⟨w.heap.size, 0, none⟩) len len) :: l) w1 (.ops arr r) k) :
  T P ro n ds Q l w (.ops arr (⟨some d1, .buildSlice t len ⟨ops⟩, ty, ps, af, g1⟩ :: r)) k := by
 obtain ⟨i, hi0, hz1, hz2, hz3⟩ := U.hi _ _ _ _ hi
 have hpt := U.hu _ _ ht
 have hs0 : 0 < sz := by
  rcases Nat.eq_zero_or_pos sz with h | h
  ·rw [h, Nat.mul_zero] at hpos; omega
  ·exact h
 have hfill := Great.fill_whole hs0 (vs.map fun cs => Value.agg ⟨cs⟩) ((Array.range (len * i.size)).map (z.cells[· % z.cells.size]!)) (by
  intro v hv
  obtain ⟨cs, hcs, rfl⟩ := List.mem_map.1 hv
  exact hszs cs hcs) (by simp [hz1, hlen])
 have hcells : (List.flatMap (fun v => v.cells.toList) (vs.map fun cs => Value.agg ⟨cs⟩)).toArray = ⟨vs.flatten⟩ := by
  rw [List.flatMap_map]; simp [Value.cells, List.flatMap, Function.comp_def]
 rw [hcells] at hfill
 refine op1 (w' := w.alloc (.cells ⟨vs.flatten⟩ e)) (v := .slice (some ⟨w.heap.size, 0, none⟩) len len) (by intro c h; cases h) hg1 (put1_some hd1) (fun a hf => ?_) (t' _ (heap_alloc_new w _) (by simp) (World.grownBy_alloc w _ none))
 have hmap : ops.map (fun p => (p.1, a.eval p.2)) = ((vs.map fun cs => Value.agg ⟨cs⟩).zipIdx 0).map fun x => (x.2, x.1) := by
  have key : ∀ (os : List (Nat × Operand)) (rs : List (Nat × Value)), os.mapM (fun p => (ev l p.2).map fun v => (p.1, v)) = some rs → os.map (fun p => (p.1, a.eval p.2)) = rs := by
   intro os
   induction os with
   | nil => intro rs h; simp at h; subst h; rfl
   | cons o os ih =>
    intro rs h
    simp only [List.mapM_cons, Option.pure_def, Option.bind_eq_bind, Option.bind_eq_some_iff, Option.map_eq_some_iff] at h
    obtain ⟨q, ⟨v, hv, rfl⟩, us, hu, h⟩ := h
    simp at h
    subst h
    simp [hf.ev hv, ih us hu]
  exact key ops _ hx
 have hbuild := run_buildSlice (P := P) w t e len ⟨ops.map fun p => (p.1, a.eval p.2)⟩ ⟨vs.flatten⟩ i z hpt hi0 hz3 (by rw [hz1]; omega) (by rw [hz1]; omega) (by rw [hz1] at hfill ⊢; simp only [hmap]; exact hfill)
 simp only [execOp, List.map_toArray]
 simp [hbuild]

theorem d1or {C : World → Prop} {last : Nat} {K : Act → World → Prop} {f : Nat} {listed : Array Bool} {i j : Nat} {o o' : Oper} (hr : readyL arr listed = [i, j]) (ho : arr[i]? = some o) (ho' : arr[j]? = some o') (hC : listed.getD last false = false → C w)
  (t : T P ro n ds (QN K) l w (.ops arr [o]) [.inv (fun a w' => anyC P ro arr C last K f (listed.setIfInBounds i true) a w')])
  (t' : T P ro n ds (QN K) l w (.ops arr [o']) [.inv (fun a w' => anyC P ro arr C last K f (listed.setIfInBounds j true) a w')]) : TA P ro n ds arr C last K (f + 1) listed l w := by
 rw [← ready_eq] at hr
 intro a hf
 refine ⟨hC, fun h => (by rw [hr] at h; cases h), fun q hq => ?_⟩
 have key : ∀ q o, arr[q]? = some o → T P ro n ds (QN K) l w (.ops arr [o]) [.inv (fun a w' => anyC P ro arr C last K f (listed.setIfInBounds q true) a w')] → wpOpIn (FW ro) 0 P arr (QN K) q (anyC P ro arr C last K f (listed.setIfInBounds q true)) a w := by
  intro i o ho t
  have h1 := t a hf
  change wpListIn _ _ _ _ _ _ _ _ at h1
  unfold wpListIn at h1
  unfold wpOpIn
  rw [ho]
  split at h1
  ·rename_i hw
   simp only [hw, if_true]
   have hQ : ∀ a w, wpListIn (FW ro) 0 P arr (KQ P ro [.inv (fun a w' => anyC P ro arr C last K f (listed.setIfInBounds i true) a w')] (QN K)) [] a w → anyC P ro arr C last K f (listed.setIfInBounds i true) a w := fun a w h => h
   have h2 := Oper.wpIn_mono hQ h1
   refine ⟨h2.1, ?_⟩
   have h3 := h2.2
   generalize (o.semAt (FW ro).round a.eval).run P w = r at h3 ⊢
   cases r with
   | ok x w' =>
    cases x <;> simp only [Oper.uponIn] at h3 ⊢ <;> first
     | exact h3
     | exact ⟨h3.1, h3.2.mono fun e w'' he => by cases e <;> first | exact he | (obtain ⟨_, _, h⟩ := he; exact h.elim)⟩
   | halt x w' => cases x <;> simp only [Oper.uponIn] at h3 ⊢ <;> exact h3
  ·rename_i hw
   simp only [hw]
   exact h1
 rw [hr] at hq
 simp at hq
 rcases hq with rfl | rfl
 ·exact key _ _ ho t
 ·exact key _ _ ho' t'
end
end
section
set_option maxHeartbeats 1000000
open Go Go.Proofs Go.RowKit Go.Lib

theorem q_num_zero {p : Rat} : p.num = 0 ↔ p = 0 := by
 constructor
 ·intro h
  have := mkq_self p
  rw [← Rat.mkRat_self p, h]; simp
 ·rintro rfl; rfl
theorem lim_len_zero {n : Nat} : (lim n).length = 0 ↔ n = 0 := by
 rw [List.length_eq_zero_iff]; exact lim_eq_nil
theorem mkq_inv {p : Rat} (hp : p ≠ 0) : p⁻¹ = mkq (decide (p.num < 0)) p.den p.num.natAbs := by
 have hn : p.num.natAbs ≠ 0 := fun h => hp (q_num_zero.1 (by omega))
 have h1 : p * mkq (decide (p.num < 0)) p.den p.num.natAbs = 1 := by
  have e : mkq (decide (p.num < 0)) p.num.natAbs p.den * mkq (decide (p.num < 0)) p.den p.num.natAbs = 1 := by
   rw [mkq_mul, bne_self_eq_false, Nat.mul_comm p.den]
   have hd : p.num.natAbs * p.den ≠ 0 := Nat.mul_ne_zero hn p.den_nz
   apply Rat.ext
   ·rw [(mkq_form _ _ _ hd).1, Nat.gcd_self, Nat.div_self (Nat.pos_of_ne_zero hd)]; rfl
   ·rw [(mkq_form _ _ _ hd).2, Nat.gcd_self, Nat.div_self (Nat.pos_of_ne_zero hd)]; rfl
  rwa [mkq_self] at e
 have h2 := Rat.inv_mul_cancel p hp
 calc p⁻¹ = p⁻¹ * (p * mkq (decide (p.num < 0)) p.den p.num.natAbs) := by rw [h1, Rat.mul_one]
  _ = (p⁻¹ * p) * mkq (decide (p.num < 0)) p.den p.num.natAbs := by rw [Rat.mul_assoc]
  _ = _ := by rw [h2, Rat.one_mul]

theorem rover_calls (p : Rat) (hp : p ≠ 0) (v : Value) (w : World) (h : QR w v p) : Calls Tryz.prog 193 #[v] w (Ret fun v' w' => QR w' v' p⁻¹ ∧ Below w.heap.size w w') := by
 obtain ⟨an, cn, ad, cd, rfl, h1, h2⟩ := h
 have hn : p.num.natAbs ≠ 0 := fun h => hp (q_num_zero.1 (by omega))
 refine enter Tryz.func193 rfl Tryz.ntmps193 (Nat.le_of_ble_eq_true rfl) ?_
 refine dT rfl ?_
 refine bx rfl rfl rfl rfl ?_
 intro b1 wa hb1 hsa hk1 hga
 refine al U rfl rfl rfl rfl ?_
 intro b2 w0 hb2 hs0 hk2 hg0
 have hk1 := hk1.keep hg0 (by simp)
 have hB0 : Below w.heap.size w w0 := ((Below.refl _ _).grown hga (Nat.le_refl _) (fun k e => by cases e)).grown hg0 (by omega) (fun k e => by cases e)
 refine dT rfl ?_
 refine ld U rfl rfl rfl rfl ((hk1).cell rfl) ?_
 refine dT rfl ?_
 refine ld U rfl rfl rfl rfl ((hk1).cell rfl) ?_
 refine dT rfl ?_
 refine ld U rfl rfl rfl rfl ((hk1).cell rfl) ?_
 refine dT rfl ?_
 refine st U rfl rfl rfl rfl rfl rfl rfl rfl rfl rfl (hk2) ?_
 intro w1 hk2' hg1 hs1
 refine dT rfl ?_
 refine retS Tryz.results193 (vs := [_]) ⟨⟨_, rfl, run_load_agg ag_q hk2' rfl⟩, trivial⟩ ⟨_, rfl, ?_, hB0.grown hg1 hB0.size (fun k e => by cases e; omega)⟩
 rw [mkq_inv hp]
 refine qr_of hn ?_
 have hg : Nat.gcd p.den p.num.natAbs = 1 := by rw [Nat.gcd_comm]; exact p.reduced
 rw [hg, Nat.div_one, Nat.div_one, decide_eq_true p.den_nz, Bool.and_true]
 exact ⟨ad, cd, an, cn, rfl, (h2.below hB0).past hk2 ni0 hg1, (h1.below hB0).past hk2 ni0 hg1⟩

theorem rneg_calls (p : Rat) (v : Value) (w : World) (h : QR w v p) : Calls Tryz.prog 106 #[v] w (Ret fun v' w' => QR w' v' (-p) ∧ Below w.heap.size w w') := by
 obtain ⟨an, cn, ad, cd, rfl, h1, h2⟩ := h
 by_cases hm : p.num < 0
 ·rw [decide_eq_true hm]
  refine enter Tryz.func106 rfl Tryz.ntmps106 (Nat.le_of_ble_eq_true rfl) ?_
  refine dT rfl ?_
  refine bx rfl rfl rfl rfl ?_
  intro b1 wa hb1 hsa hk1 hga
  refine al U rfl rfl rfl rfl ?_
  intro b2 w0 hb2 hs0 hk2 hg0
  have hk1 := hk1.keep hg0 (by simp)
  have hB0 : Below w.heap.size w w0 := ((Below.refl _ _).grown hga (Nat.le_refl _) (fun k e => by cases e)).grown hg0 (by omega) (fun k e => by cases e)
  refine dT rfl ?_
  refine ld U rfl rfl rfl rfl ((hk1).cell rfl) ?_
  refine dT rfl ?_
  refine st U rfl rfl rfl rfl rfl rfl rfl rfl rfl rfl (hk1) ?_
  intro w1 hk1' hg1 hs1
  refine dT rfl ?_
  refine lg rfl ag_q rfl rfl hk1' rfl ?_
  refine st U rfl rfl rfl rfl rfl rfl rfl rfl rfl rfl (hk2.keep hg1 (by intro e; cases e; omega)) ?_
  intro w2 hk2' hg2 hs2
  refine dT rfl ?_
  refine retS Tryz.results106 (vs := [_]) ⟨⟨_, rfl, run_load_agg ag_q hk2' rfl⟩, trivial⟩ ⟨_, rfl, ?_, (hB0.grown hg1 hB0.size (fun k e => by cases e; omega)).grown hg2 (by have := hB0.size; omega) (fun k e => by cases e; omega)⟩
  have hne : decide ((-p).num < 0) = false := by rw [Rat.neg_num]; exact decide_eq_false (by omega)
  unfold QR
  rw [hne, Rat.neg_num, Rat.neg_den, Int.natAbs_neg]
  exact ⟨an, cn, ad, cd, rfl, ((h1.below hB0).past hk1 (ni3 _ _ _ _ _ _ _) hg1).past (hk2.keep hg1 (by intro e; cases e; omega)) ni0 hg2, ((h2.below hB0).past hk1 (ni3 _ _ _ _ _ _ _) hg1).past (hk2.keep hg1 (by intro e; cases e; omega)) ni0 hg2⟩
 ·rw [decide_eq_false hm]
  refine enter Tryz.func106 rfl Tryz.ntmps106 (Nat.le_of_ble_eq_true rfl) ?_
  refine dT rfl ?_
  refine bx rfl rfl rfl rfl ?_
  intro b1 wa hb1 hsa hk1 hga
  refine al U rfl rfl rfl rfl ?_
  intro b2 w0 hb2 hs0 hk2 hg0
  have hk1 := hk1.keep hg0 (by simp)
  have hB0 : Below w.heap.size w w0 := ((Below.refl _ _).grown hga (Nat.le_refl _) (fun k e => by cases e)).grown hg0 (by omega) (fun k e => by cases e)
  refine dT rfl ?_
  refine ld U rfl rfl rfl rfl ((hk1).cell rfl) ?_
  refine dT rfl ?_
  refine ld U rfl rfl rfl rfl ((hk1).cell rfl) ?_
  refine dT rfl ?_
  refine cS rfl rfl rfl rfl (fun hq => ?_) (fun hq => ?_)
  ·have hn : p.num.natAbs ≠ 0 := fun h => by rw [h, lim_zero] at hq; simp at hq
   refine dT rfl ?_
   refine st U rfl rfl rfl rfl rfl rfl rfl rfl rfl rfl (hk1) ?_
   intro w1 hk1' hg1 hs1
   refine dT rfl ?_
   refine lg rfl ag_q rfl rfl hk1' rfl ?_
   refine st U rfl rfl rfl rfl rfl rfl rfl rfl rfl rfl (hk2.keep hg1 (by intro e; cases e; omega)) ?_
   intro w2 hk2' hg2 hs2
   refine dT rfl ?_
   refine retS Tryz.results106 (vs := [_]) ⟨⟨_, rfl, run_load_agg ag_q hk2' rfl⟩, trivial⟩ ⟨_, rfl, ?_, (hB0.grown hg1 hB0.size (fun k e => by cases e; omega)).grown hg2 (by have := hB0.size; omega) (fun k e => by cases e; omega)⟩
   have hne : decide ((-p).num < 0) = true := by rw [Rat.neg_num]; exact decide_eq_true (by omega)
   unfold QR
   rw [hne, Rat.neg_num, Rat.neg_den, Int.natAbs_neg]
   exact ⟨an, cn, ad, cd, rfl, ((h1.below hB0).past hk1 (ni3 _ _ _ _ _ _ _) hg1).past (hk2.keep hg1 (by intro e; cases e; omega)) ni0 hg2, ((h2.below hB0).past hk1 (ni3 _ _ _ _ _ _ _) hg1).past (hk2.keep hg1 (by intro e; cases e; omega)) ni0 hg2⟩
  ·have hn : p.num.natAbs = 0 := lim_len_zero.1 (by omega)
   refine dT rfl ?_
   refine st U rfl rfl rfl rfl rfl rfl rfl rfl rfl rfl (hk1) ?_
   intro w1 hk1' hg1 hs1
   refine dT rfl ?_
   refine lg rfl ag_q rfl rfl hk1' rfl ?_
   refine st U rfl rfl rfl rfl rfl rfl rfl rfl rfl rfl (hk2.keep hg1 (by intro e; cases e; omega)) ?_
   intro w2 hk2' hg2 hs2
   refine dT rfl ?_
   refine retS Tryz.results106 (vs := [_]) ⟨⟨_, rfl, run_load_agg ag_q hk2' rfl⟩, trivial⟩ ⟨_, rfl, ?_, (hB0.grown hg1 hB0.size (fun k e => by cases e; omega)).grown hg2 (by have := hB0.size; omega) (fun k e => by cases e; omega)⟩
   have hne : decide ((-p).num < 0) = false := by rw [Rat.neg_num]; exact decide_eq_false (by omega)
   unfold QR
   rw [hne, Rat.neg_num, Rat.neg_den, Int.natAbs_neg]
   exact ⟨an, cn, ad, cd, rfl, ((h1.below hB0).past hk1 (ni3 _ _ _ _ _ _ _) hg1).past (hk2.keep hg1 (by intro e; cases e; omega)) ni0 hg2, ((h2.below hB0).past hk1 (ni3 _ _ _ _ _ _ _) hg1).past (hk2.keep hg1 (by intro e; cases e; omega)) ni0 hg2⟩

theorem rtimesq_calls (p q : Rat) (K L : Nat) (hK : K ≤ 1000000000) (hL : L ≤ 1000000000) (v1 v2 : Value) (w : World) (h1 : QR w v1 p) (h2 : QR w v2 q) (hs1 : Small K p) (hs2 : Small L q) :
  Calls Tryz.prog 107 #[v1, v2] w (Ret fun v w' => QR w' v (p * q) ∧ Below w.heap.size w w') := by
 obtain ⟨an, cn, ad, cd, rfl, hn1, hd1⟩ := h1
 obtain ⟨bn, en, bd, ed, rfl, hn2, hd2⟩ := h2
 obtain ⟨l1, l2⟩ := hs1.lim
 obtain ⟨l3, l4⟩ := hs2.lim
 have lnn := lim_len_mul p.num.natAbs q.num.natAbs
 have ldd := lim_len_mul p.den q.den
 have hp := mkq_self p
 have hq2 := mkq_self q
 generalize decide (p.num < 0) = m1 at *
 generalize decide (q.num < 0) = m2 at *
 have heq : p * q = mkq (m1 != m2) (p.num.natAbs * q.num.natAbs) (p.den * q.den) := by rw [← mkq_mul, hp, hq2]
 refine enter Tryz.func107 rfl Tryz.ntmps107 (Nat.le_of_ble_eq_true rfl) ?_
 refine dT rfl ?_
 refine bx rfl rfl rfl rfl ?_
 intro b2 wa hb2 hsa hk2 hga
 refine bx rfl rfl rfl rfl ?_
 intro b3 wb hb3 hsb hk3 hgb
 refine al U rfl rfl rfl rfl ?_
 intro b4 w0 hb4 hs0 hk4 hg0
 have hk2 := (hk2.keep hgb (by simp)).keep hg0 (by simp)
 have hk3 := hk3.keep hg0 (by simp)
 have hB0 : Below w.heap.size w w0 := (((Below.refl _ _).grown hga (Nat.le_refl _) (fun k e => by cases e)).grown hgb (by omega) (fun k e => by cases e)).grown hg0 (by omega) (fun k e => by cases e)
 refine dT rfl ?_
 refine dwn 16 (fun W => Bk W b2 86 [.bool m1, .slice an (lim p.num.natAbs).length cn, .slice ad (lim p.den).length cd] ∧ Bk W b3 86 [.bool m2, .slice bn (lim q.num.natAbs).length en, .slice bd (lim q.den).length ed]) hmo ?_
 intro w1 hh1 hg1
 have hB1' : Below w0.heap.size w0 w1 := (Below.refl _ _).grown hg1 (Nat.le_refl _) (fun k e => by cases e)
 have hB1 := bl_tr hB0 hB1' hB0.size
 have hk2 := hk2.below hB1' hk2.lt
 have hk3 := hk3.below hB1' hk3.lt
 have hk4 := hk4.below hB1' hk4.lt
 refine dq U [0,1,2,3,4,5,6,7,8,10,11,12,13] [(1, .bool m1), (3, .bool m2), (6, .slice an (lim p.num.natAbs).length cn), (8, .slice bn (lim q.num.natAbs).length en), (11, .slice ad (lim p.den).length cd), (13, .slice bd (lim q.den).length ed)] (by kernel_rfl) rfl rfl ⟨hk2, hk3⟩ (by simp only [AllP, InR, List.nil_append, List.cons_append]; (repeat' apply And.intro); all_goals first | exact True.intro | omega | exact fun w h => run_load_cell U rfl (h.1.cell rfl) | exact fun w h => run_load_cell U rfl (h.2.cell rfl)) ?_
 refine d1 rfl rfl (fun _ => ⟨hk2, hk3⟩) ?_
 refine call (f := 101) rfl rfl cb101 (times_calls _ _ an bn cn en w1 (hn1.below hB1) (hn2.below hB1) (by omega) (by omega)) ?_
 rintro v w3 ⟨a3, c3, rfl, ho3, hB3⟩
 refine ⟨_, rfl, d2 ?_⟩
 have hB3' := bl_tr hB1 hB3 hB1.size
 have hk2 := hk2.below hB3 hk2.lt
 have hk3 := hk3.below hB3 hk3.lt
 have hk4 := hk4.below hB3 hk4.lt
 refine d1 rfl rfl (fun _ => ⟨hk2, hk3⟩) ?_
 refine call (f := 101) rfl rfl cb101 (times_calls _ _ ad bd cd ed w3 (hd1.below hB3') (hd2.below hB3') (by omega) (by omega)) ?_
 rintro v w5 ⟨a5, c5, rfl, ho5, hB5⟩
 refine ⟨_, rfl, d2 ?_⟩
 have hB5' := bl_tr hB3' hB5 hB3'.size
 have hk2 := hk2.below hB5 hk2.lt
 have hk3 := hk3.below hB5 hk3.lt
 have hk4 := hk4.below hB5 hk4.lt
 refine d1 rfl rfl (fun _ => ⟨hk2, hk3⟩) ?_
 refine call (f := 102) rfl rfl cb102 (reduce_calls (m1 != m2) _ _ (Nat.mul_ne_zero p.den_nz q.den_nz) a3 a5 c3 c5 w5 ((ownI_rd ho3).below hB5) (ownI_rd ho5) (by omega) (by omega)) ?_
 rintro v w8 ⟨hres, hB8⟩
 obtain ⟨a8, c8, a9, c9, rfl, hx8, hx9⟩ := hres
 refine ⟨_, rfl, d2 ?_⟩
 have hB8' := bl_tr hB5' hB8 hB5'.size
 have hk2 := hk2.below hB8 hk2.lt
 have hk3 := hk3.below hB8 hk3.lt
 have hk4 := hk4.below hB8 hk4.lt
 refine d1 rfl rfl (fun _ => ⟨hk2, hk3⟩) ?_
 refine st U rfl rfl rfl rfl rfl rfl rfl rfl rfl rfl (hk4) ?_
 intro w9 hk9 hg9 hs9
 refine d2 ?_; refine dend rfl (fun h => by cases h) ?_
 refine dT rfl ?_
 refine retS Tryz.results107 (vs := [_]) ⟨⟨_, rfl, run_load_agg ag_q hk9 rfl⟩, trivial⟩ ⟨_, rfl, ?_, hB8'.grown hg9 hB8'.size (fun k e => by cases e; omega)⟩
 rw [heq]
 exact ⟨a8, c8, a9, c9, rfl, hx8.past hk4 ni0 hg9, hx9.past hk4 ni0 hg9⟩

def cmpQ (p q : Rat) : Int := if p + -q = 0 then 0 else if (p + -q).num < 0 then -1 else 1

theorem rcheck_calls (s : List UInt8) (hs : s.length ≤ 1099511627776) (w : World) :
  Calls Tryz.prog 109 #[.string ⟨⟨s⟩⟩] w (Ret fun v w' => (∃ e, v = .int .i64 e ∧ QErr s e) ∧ Below w.heap.size w w') := by
 refine enter Tryz.func109 rfl Tryz.ntmps109 (Nat.le_of_ble_eq_true rfl) ?_
 refine dT rfl ?_
 refine call (f := 100) rfl rfl cb100 (rread_calls s hs w) ?_
 rintro v w1 ⟨hr, hB1⟩
 obtain ⟨m, a1, n1, c1, a2, n2, c2, e, rfl, hqe, hqr⟩ := hr.cases
 refine ⟨_, rfl, ?_⟩
 refine dT rfl ?_
 refine al U rfl rfl rfl rfl ?_
 intro b w2 hb2 hs2 hk2 hg2
 have hB2 := hB1.grown hg2 hB1.size (fun k e => by cases e)
 refine dT rfl ?_
 refine st U rfl rfl rfl rfl rfl rfl rfl rfl rfl rfl (hk2) ?_
 intro w3 hk3 hg3 hs3
 have hB3 := hB2.grown hg3 hB2.size (fun k e => by cases e; have := hB1.size; omega)
 refine dT rfl ?_
 exact ret Tryz.results109 rfl ⟨_, rfl, ⟨e, rfl, hqe⟩, hB3⟩


theorem rmul_calls (s t : List UInt8) (hs : s.length ≤ 1099511627776) (ht : t.length ≤ 1099511627776) (w : World) :
  Calls Tryz.prog 67 #[.string ⟨⟨s⟩⟩, .string ⟨⟨t⟩⟩] w (Ret fun v w' => BinR (· * ·) s t v ∧ Below w.heap.size w w') := by
 refine enter Tryz.func67 rfl Tryz.ntmps67 (Nat.le_of_ble_eq_true rfl) ?_
 refine dT rfl ?_
 refine call (f := 57) rfl rfl cb57 (rtwo_calls s t hs ht w) ?_
 rintro v w1 ⟨hr, hB1⟩
 obtain ⟨m, a1, n1, c1, a2, n2, c2, m', a1', n1', c1', a2', n2', c2', e, rfl, hte, hqr⟩ := hr
 refine ⟨_, rfl, ?_⟩
 refine dT rfl ?_
 refine al U rfl rfl rfl rfl ?_
 intro b6 w2 hb6 hs2 hk6 hg2
 refine al U rfl rfl rfl rfl ?_
 intro b7 w3 hb7 hs3 hk7 hg3
 have hk6 := hk6.keep hg3 (by simp)
 have hBa : Below w1.heap.size w1 w3 := ((Below.refl _ _).grown hg2 (Nat.le_refl _) (fun k e => by cases e)).grown hg3 (by omega) (fun k e => by cases e)
 refine st U rfl rfl rfl rfl rfl rfl rfl rfl rfl rfl (hk6) ?_
 intro w4 hk6' hg4 hs4
 have hk7 := hk7.keep hg4 (by intro e; cases e; omega)
 have hB4 := (bl_tr hB1 hBa hB1.size).grown hg4 (by have := hB1.size; omega) (fun k e => by cases e; have := hB1.size; omega)
 refine st U rfl rfl rfl rfl rfl rfl rfl rfl rfl rfl (hk7) ?_
 intro w5 hk7' hg5 hs5
 have hk6' := hk6'.keep hg5 (by intro e; cases e; omega)
 have hB5 := hB4.grown hg5 hB4.size (fun k e => by cases e; have := hB1.size; omega)
 have hqq : e = 0 → QR w5 (.agg ⟨[.bool m, .slice a1 n1 c1, .slice a2 n2 c2]⟩) (qval s) ∧ QR w5 (.agg ⟨[.bool m', .slice a1' n1' c1', .slice a2' n2' c2']⟩) (qval t) := fun h =>
  ⟨(((hqr h).1.stay hBa).past hk6 ni0 hg4).past hk7 ni0 hg5, (((hqr h).2.stay hBa).past hk6 ni0 hg4).past hk7 ni0 hg5⟩
 refine dT rfl ?_
 refine cS rfl rfl rfl rfl (fun hq => ?_) (fun hq => ?_)
 ·refine dT rfl ?_
  exact ret Tryz.results67 rfl ⟨_, rfl, .inl ⟨e, hq, hte, rfl⟩, hB5⟩
 ·obtain rfl := Classical.not_not.1 hq
  obtain ⟨hx, hy⟩ := hqq rfl
  have hsx := hte.ok.1.small
  have hsy := hte.ok.2.small
  refine dT rfl ?_
  refine lg rfl ag_q rfl rfl hk6' rfl ?_
  refine lg rfl ag_q rfl rfl hk7' rfl ?_
  refine call (f := 107) rfl rfl cb107 (rtimesq_calls _ _ 4000 4000 (by omega) (by omega) _ _ w5 hx hy hsx hsy) ?_
  rintro v w6 ⟨hv, hB6'⟩
  refine ⟨_, rfl, ?_⟩
  have hB6 := bl_tr hB5 hB6' hB5.size
  have hsz := small_mul hsx hsy
  refine dT rfl ?_
  refine call (f := 58) rfl rfl cb58 (rwriteq_calls _ v w6 hv (hsz.fits (by omega)) (Nat.le_trans hsz.1 (by omega)) (Nat.le_trans hsz.2 (by omega))) ?_
  rintro v w9 ⟨hr, hB9'⟩
  obtain ⟨x, e, rfl⟩ := hr.tup
  refine ⟨_, rfl, ?_⟩
  refine dT rfl ?_
  exact ret Tryz.results67 rfl ⟨_, rfl, .inr ⟨hte, hr⟩, bl_tr hB6 hB9' hB6.size⟩

def CmpR (s t : List UInt8) (v : Value) : Prop :=
 (∃ e, e ≠ 0 ∧ Two s t e ∧ v = .tuple ⟨[.int .i64 0, .int .i64 e]⟩) ∨ (Two s t 0 ∧ v = .tuple ⟨[.int .i64 (cmpQ (qval s) (qval t)), .int .i64 0]⟩)
theorem CmpR.text {p q : Rat} {v : Value} (hp : Small 4000 p) (hq : Small 4000 q) (h : CmpR (qtext p) (qtext q) v) : v = .tuple ⟨[.int .i64 (cmpQ p q), .int .i64 0]⟩ := by
 have h1 := q_text_ok p hp
 have h2 := q_text_ok q hq
 rcases h with ⟨e, g1, g2, rfl⟩ | ⟨_, g⟩
 ·exact absurd (g2.uniq (.inr ⟨h1.1, h2.1⟩)) g1
 ·rwa [h1.2, h2.2] at g
def DivR (s t : List UInt8) (v : Value) : Prop :=
 (∃ e, e ≠ 0 ∧ Two s t e ∧ v = .tuple ⟨[.string ⟨⟨[]⟩⟩, .int .i64 e]⟩) ∨ (Two s t 0 ∧ qval t = 0 ∧ v = .tuple ⟨[.string ⟨⟨[]⟩⟩, .int .i64 6]⟩) ∨ (Two s t 0 ∧ qval t ≠ 0 ∧ QRes (qval s * (qval t)⁻¹) v)
theorem DivR.text {p q : Rat} {v : Value} (hp : Small 4000 p) (hq : Small 4000 q) (h0 : q ≠ 0) (h : DivR (qtext p) (qtext q) v) : QRes (p * q⁻¹) v := by
 have h1 := q_text_ok p hp
 have h2 := q_text_ok q hq
 rcases h with ⟨e, g1, g2, rfl⟩ | ⟨_, g, _⟩ | ⟨_, _, g⟩
 ·exact absurd (g2.uniq (.inr ⟨h1.1, h2.1⟩)) g1
 ·rw [h2.2] at g; exact absurd g h0
 ·rwa [h1.2, h2.2] at g
theorem small_inv {K : Nat} {p : Rat} (h : p ≠ 0) (hp : Small K p) : Small K p⁻¹ := by
 rw [mkq_inv h]
 exact mkq_small (fun e => h (q_num_zero.1 (by omega))) hp.2 hp.1
end
end Go.Proofs.YtejlpdbiacmfcaaGreatDoor
