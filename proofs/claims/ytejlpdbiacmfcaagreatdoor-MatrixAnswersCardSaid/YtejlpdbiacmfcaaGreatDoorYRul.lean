/-
  The engine's rules for tests, memory, calls, loops and returns, proved over the kit's laws.
  No conditions: each theorem names its own premises.
  The engine's rules for memory (cells, boxes, slices that a call owns) and for calls, proved over the kit's laws.
-/
import Derived.Test.YtejlpdbiacmfcaaGreatDoorYEng
namespace Go.Proofs.YtejlpdbiacmfcaaGreatDoor
section
open Go.RowKit

def u64 (n : Nat) : Value := .int .u64 n
def i64 (n : Int) : Value := .int .i64 n

def Ret (Post : Value → World → Prop) : Ending → World → Prop := fun e w => ∃ v, e = .returned v ∧ Post v w

section
variable {P : Program} {ro : Option Nat} {n : Nat} {ds : List Deferred} {Q : PT} {l l' : Fr} {w w' : World} {arr : Array Oper} {o : Oper} {r : List Oper} {k : List It}

theorem op1 {v : Value} (hd : ∀ c, o.op ≠ .defer c) (hg : gd arr l o.guard = some true) (hl : put1 n l o.dst v = some l')
  (hrun : ∀ a, Fit n ds l a → (execOp a.eval o).run P w = .ok (.value v) w') (t : T P ro n ds Q l' w' (.ops arr r) k) : T P ro n ds Q l w (.ops arr (o :: r)) k := by
 intro a hf
 show wpListIn _ _ _ _ _ _ _ _
 unfold wpListIn
 rw [gd_wanted hf hg, if_pos rfl]
 exact uponIn_value hd (hrun a hf) (t _ (hf.put1 hl))

theorem op0 (hd : ∀ c, o.op ≠ .defer c) (hg : gd arr l o.guard = some true) (hl : put1 n l o.dst undef = some l')
  (hrun : ∀ a, Fit n ds l a → (execOp a.eval o).run P w = .ok .skip w') (t : T P ro n ds Q l' w' (.ops arr r) k) : T P ro n ds Q l w (.ops arr (o :: r)) k := by
 intro a hf
 show wpListIn _ _ _ _ _ _ _ _
 unfold wpListIn
 rw [gd_wanted hf hg, if_pos rfl]
 refine ⟨fun _ _ => trivial, ?_⟩
 rw [Oper.semAt_eq _ _ _ hd]
 show o.uponIn (FW ro) 0 P a _ _ ((execOp a.eval o).run P w)
 rw [hrun a hf]
 exact t _ (hf.put1 hl)

def dec (l : Fr) : Op → Option Prop
 | .binOp op _ x y _ => match ev l x with
  | some (.int k m) => match ev l y with
   | some (.int k' q) => match decide (k = k') with
    | false => none
    | true => match op with
     | .eql => some (m = q)
     | .neq => some (m ≠ q)
     | .lss => some (m < q)
     | .leq => some (m ≤ q)
     | .gtr => some (q < m)
     | .geq => some (q ≤ m)
     | _ => none
   | _ => none
  | some (.string ⟨⟨a⟩⟩) => match ev l y with
   | some (.string ⟨⟨b⟩⟩) => match op with
    | .eql => some (a = b)
    | .neq => some (a ≠ b)
    | .lss => some (Op.bytesLess a b = true)
    | _ => none
   | _ => none
  | _ => none
 | _ => none

theorem dec_run {p : Prop} {a : Act} (hf : Fit n ds l a) (e : dec l o.op = some p) : ∃ b, (b = true ↔ p) ∧ (execOp a.eval o).run P w = .ok (.value (.bool b)) w := by
 obtain ⟨dst, op, type, pos, after, guard⟩ := o
 dsimp only at e
 cases op with
 | binOp op t x y t' =>
  simp only [dec] at e
  split at e
  ·rename_i k m hx
   split at e
   ·rename_i k' q hy
    split at e
    ·simp at e
    ·rename_i hk
     have hk : k = k' := by simpa using hk
     subst hk
     split at e <;> simp only [Option.some.injEq, reduceCtorEq] at e
     ·subst e; exact ⟨m == q, by simp, by simp [execOp, hf.ev hx, hf.ev hy, eqGuard, binOp, Op.intCmp]⟩
     ·subst e; exact ⟨m != q, by simp, by simp [execOp, hf.ev hx, hf.ev hy, eqGuard, binOp, Op.intCmp]⟩
     ·subst e; exact ⟨decide (m < q), by simp, by simp [execOp, hf.ev hx, hf.ev hy, eqGuard, binOp, Op.intCmp]⟩
     ·subst e; exact ⟨decide (m ≤ q), by simp, by simp [execOp, hf.ev hx, hf.ev hy, eqGuard, binOp, Op.intCmp]⟩
     ·subst e; exact ⟨decide (q < m), by simp, by simp [execOp, hf.ev hx, hf.ev hy, eqGuard, binOp, Op.intCmp]⟩
     ·subst e; exact ⟨decide (q ≤ m), by simp, by simp [execOp, hf.ev hx, hf.ev hy, eqGuard, binOp, Op.intCmp]⟩
   ·simp at e
  ·rename_i m hx
   split at e
   ·rename_i q hy
    have h1 : (ByteArray.mk ⟨m⟩).toList = m := by rw [ByteArray.toList_eq]
    have h2 : (ByteArray.mk ⟨q⟩).toList = q := by rw [ByteArray.toList_eq]
    split at e <;> simp only [Option.some.injEq, reduceCtorEq] at e
    ·subst e; exact ⟨m == q, by simp, by simp [execOp, hf.ev hx, hf.ev hy, eqGuard, binOp, Op.stringOp, h1, h2]⟩
    ·subst e; exact ⟨!(m == q), by simp, by simp [execOp, hf.ev hx, hf.ev hy, eqGuard, binOp, Op.stringOp, h1, h2]⟩
    ·subst e; exact ⟨Op.bytesLess m q, by simp, by simp [execOp, hf.ev hx, hf.ev hy, eqGuard, binOp, Op.stringOp, h1, h2]⟩
   ·simp at e
  ·simp at e
 | _ => simp [dec] at e

theorem not_defer_of_dec {p : Prop} (e : dec l o.op = some p) : ∀ c, o.op ≠ .defer c := by
 intro c hc; rw [hc] at e; simp [dec] at e

theorem cT {p : Prop} (e : dec l o.op = some p) (hg : gd arr l o.guard = some true) (hl : put1 n l o.dst (.bool true) = some l') (hp : p)
  (t : T P ro n ds Q l' w (.ops arr r) k) : T P ro n ds Q l w (.ops arr (o :: r)) k :=
 op1 (not_defer_of_dec e) hg hl (fun a hf => by
  obtain ⟨b, hb, hr⟩ := dec_run (P := P) (w := w) hf e
  rw [hb.2 hp] at hr; exact hr) t

theorem cF {p : Prop} (e : dec l o.op = some p) (hg : gd arr l o.guard = some true) (hl : put1 n l o.dst (.bool false) = some l') (hp : ¬ p)
  (t : T P ro n ds Q l' w (.ops arr r) k) : T P ro n ds Q l w (.ops arr (o :: r)) k :=
 op1 (not_defer_of_dec e) hg hl (fun a hf => by
  obtain ⟨b, hb, hr⟩ := dec_run (P := P) (w := w) hf e
  have : b = false := by cases b; rfl; exact absurd (hb.1 rfl) hp
  rw [this] at hr; exact hr) t

theorem cS {p : Prop} {l'' : Fr} (e : dec l o.op = some p) (hg : gd arr l o.guard = some true) (hl : put1 n l o.dst (.bool true) = some l') (hl' : put1 n l o.dst (.bool false) = some l'')
  (t : p → T P ro n ds Q l' w (.ops arr r) k) (f : ¬ p → T P ro n ds Q l'' w (.ops arr r) k) : T P ro n ds Q l w (.ops arr (o :: r)) k :=
 (Classical.em p).elim (fun h => cT e hg hl h (t h)) (fun h => cF e hg hl' h (f h))

theorem less {h : Hd} (l' : Fr) (hs : Subf l l') (t : T P ro n ds Q l' w h k) : T P ro n ds Q l w h k :=
 fun a hf => t a (hf.less (fun _ _ e => hs.look _ _ e))

theorem least (p : Nat → Prop) (h : ∃ m, p m) : ∃ m, p m ∧ ∀ j, p j → m ≤ j := by
 obtain ⟨m, hm⟩ := h
 induction m using Nat.strongRecOn with
 | _ m ih =>
  by_cases h : ∃ j, j < m ∧ p j
  ·obtain ⟨j, h1, h2⟩ := h; exact ih j h1 h2
  ·exact ⟨m, hm, fun j hj => by
    rcases Nat.lt_or_ge j m with h1 | h1
    ·exact absurd ⟨j, h1, hj⟩ h
    ·exact h1⟩

theorem loopR (I : Fr → World → Nat → Prop) {body : Code} {l0 : Fr} {m0 : Nat} (h0 : I l0 w m0) (hs : Subf l l0)
  (round : ∀ l w m, I l w m → T P ro n ds Q l w (.code body) (.inv (fun a w' => ∃ l' m', I l' w' m' ∧ m' < m ∧ Fit n ds l' a) :: k)) :
  T P ro n ds Q l w (.code (.loop body)) k := by
 intro a hf
 have key : ∀ m a w, (∃ l', I l' w m ∧ Fit n ds l' a) → (Code.loop body).wpIn (FW ro) 0 P (KQ P ro k Q) a w := by
  intro m a w h
  obtain ⟨μ, hμ⟩ : ∃ μ : Act → World → Nat, ∀ a w, (∃ l' m, I l' w m ∧ Fit n ds l' a) → ∃ l', I l' w (μ a w) ∧ Fit n ds l' a ∧ ∀ l'' m', I l'' w m' → Fit n ds l'' a → μ a w ≤ m' := by
   refine ⟨fun a w => Classical.epsilon fun m => (∃ l', I l' w m ∧ Fit n ds l' a) ∧ ∀ m', (∃ l', I l' w m' ∧ Fit n ds l' a) → m ≤ m', fun a w h => ?_⟩
   have h' : ∃ m, ∃ l', I l' w m ∧ Fit n ds l' a := by obtain ⟨l', m, h1, h2⟩ := h; exact ⟨m, l', h1, h2⟩
   obtain ⟨⟨l', h1, h2⟩, h3⟩ := Classical.epsilon_spec (least _ h')
   exact ⟨l', h1, h2, fun l'' m' h4 h5 => h3 m' ⟨l'', h4, h5⟩⟩
  refine wpIn_loop (fun a w => ∃ l' m, I l' w m ∧ Fit n ds l' a) μ (by obtain ⟨l', h1, h2⟩ := h; exact ⟨l', m, h1, h2⟩) ?_
  intro a w hI
  obtain ⟨l', h1, h2, h3⟩ := hμ a w hI
  refine wpIn_mono (round l' w _ h1 a h2) ?_
  intro e a' w' hq
  cases e with
  | normal =>
   obtain ⟨l'', m', i1, i2, i3⟩ := hq
   refine ⟨⟨l'', m', i1, i3⟩, ?_⟩
   obtain ⟨_, _, _, j3⟩ := hμ a' w' ⟨l'', m', i1, i3⟩
   exact Nat.lt_of_le_of_lt (j3 _ _ i1 i3) i2
  | _ => exact hq
 exact key m0 a w ⟨l0, h0, hf.less (fun _ _ e => hs.look _ _ e)⟩

theorem rend {I : Fr → World → Nat → Prop} {m : Nat} (l' : Fr) (m' : Nat) (hI : I l' w m') (hm : m' < m) (hs : Subf l l') :
  T P ro n ds Q l w .nrm (.inv (fun a w' => ∃ l' m', I l' w' m' ∧ m' < m ∧ Fit n ds l' a) :: k) :=
 fun _ hf => ⟨l', m', hI, hm, hf.less (fun _ _ e => hs.look _ _ e)⟩

def enumF : Nat → List Value → Fr
 | _, [] => []
 | i, v :: r => (i, v) :: enumF (i + 1) r

theorem look_enumF : ∀ (vs : List Value) (i t : Nat) (v : Value), look (enumF i vs) t = some v → i ≤ t ∧ vs[t - i]? = some v
 | [], _, _, _, e => by simp [enumF, look] at e
 | u :: r, i, t, v, e => by
  rw [enumF, look_cons] at e
  by_cases h : i = t
  ·subst h; simp at e; subst e; simp
  ·rw [if_neg h] at e
   obtain ⟨h1, h2⟩ := look_enumF r (i + 1) t v e
   refine ⟨by omega, ?_⟩
   have : t - i = (t - (i + 1)) + 1 := by omega
   rw [this, List.getElem?_cons_succ]; exact h2

theorem enter {f : FuncId} {fn : Func} {c : Code} {args : List Value} {R : Ending → World → Prop} (hf : P.funcs[f]? = some fn) (hb : fn.body = some c) (hn : fn.ntmps = n) (hle : args.length ≤ n)
  (t : T P none n [] (bodyPost P fn R) (enumF 0 args) w (.code c) []) : Calls P f args.toArray w R := by
 rw [← callsIn_wide (n := 0), ← FW_wide]
 refine callsIn_of_wp hf hb trivial (t _ ⟨by simp [hn]; omega, rfl, fun t v e => ?_⟩) rfl
 obtain ⟨_, h⟩ := look_enumF args 0 t v e
 simp only [Nat.sub_zero] at h
 have hlt : t < args.length := by
  rcases Nat.lt_or_ge t args.length with h' | h'
  ·exact h'
  ·rw [List.getElem?_eq_none h'] at h; cases h
 show (args.toArray ++ _)[t]? = _
 rw [Array.getElem?_append_left (by simpa using hlt)]
 simpa using h

theorem KQ_ret : ∀ (k : List It) (Q : PT) (a : Act) (w : World), KQ P ro k Q .ret a w ↔ Q .ret a w
 | [], _, _, _ => Iff.rfl
 | .c _ :: k, Q, a, w => KQ_ret k Q a w
 | .blk _ :: k, Q, a, w => KQ_ret k Q a w
 | .inv _ :: k, Q, a, w => KQ_ret k Q a w

def resv (l : Fr) : List ResultVar → Option (List Value)
 | [] => some []
 | .tmp t :: r => match look l t with
  | some v => match resv l r with
   | some vs => some (v :: vs)
   | none => none
  | none => none
 | .cell .. :: _ => none

def pack : List Value → Value
 | [v] => v
 | vs => .tuple ⟨vs⟩

theorem pack_eq (vs : Array Value) : (if h : vs.size = 1 then vs[0] else Value.tuple vs) = pack vs.toList := by
 obtain ⟨vs⟩ := vs
 match vs with
 | [] => simp [pack]
 | [v] => simp [pack]
 | _ :: _ :: _ => simp [pack]

theorem run_resv (f : ResultVar → Sem Value) (hf : ∀ t v, look l t = some v → (f (.tmp t)).run P w = .ok v w) : ∀ (rs : List ResultVar) (vs : List Value), resv l rs = some vs →
  (rs.mapM f).run P w = .ok vs w
 | [], vs, e => by simp only [resv, Option.some.injEq] at e; subst e; simp
 | .tmp t :: r, vs, e => by
  simp only [resv] at e
  split at e
  ·rename_i v hv
   split at e
   ·rename_i us hu
    simp at e; subst e
    have := run_resv f hf r us hu
    simp only [List.mapM_cons]
    simp [hf t v hv, this]
   ·simp at e
  ·simp at e
 | .cell .. :: _, vs, e => by simp [resv] at e

theorem ret {fn : Func} {R : Ending → World → Prop} {rs : List ResultVar} {vs : List Value} (hr : fn.results = ⟨rs⟩) (hv : resv l rs = some vs) (hR : R (.returned (pack vs)) w) :
  T P ro n [] (bodyPost P fn R) l w (.code .ret) k := by
 intro a hf
 refine wpIn_ret ((KQ_ret k _ a w).2 ⟨hf.df, pack vs, ?_, hR⟩)
 unfold results
 rw [hr, Array.mapM_eq_mapM_toList]
 simp only [Sem.run_bind, Sem.run_map]
 rw [run_resv (l := l) (P := P) (w := w) _ (fun t v e => by simp [hf.rd t v e]) rs vs hv]
 simp [pack_eq]
end
end
section
open Go.RowKit

def Bk (w : World) (b : Nat) (t : TypeId) (cs : List Value) : Prop := w.heap[b]? = some (.cells ⟨cs⟩ t (0, 0))

def Sl (w : World) (a : Option Addr) (vs : List Value) : Prop := ∀ j v, vs[j]? = some v → ∃ g off, a = some ⟨g, off, none⟩ ∧ w.cell? ⟨g, off + j, none⟩ = some v

def ab (a : Option Addr) : Option Nat := a.map (·.block)

theorem add_plain (g off j : Nat) : (⟨g, off, none⟩ : Addr).add j = ⟨g, off + j, none⟩ := by
 unfold Addr.add; split
 ·rename_i h; subst h; rfl
 ·rfl

theorem Bk.cell {w : World} {b : Nat} {t : TypeId} {cs : List Value} (h : Bk w b t cs) {off : Nat} {v : Value} (hv : cs[off]? = some v) : w.cell? ⟨b, off, none⟩ = some v := by
 unfold Bk at h
 simp [World.cell?, h, hv]

theorem Bk.lt {w : World} {b : Nat} {t : TypeId} {cs : List Value} (h : Bk w b t cs) : b < w.heap.size := (Array.getElem?_eq_some_iff.1 h).1

theorem Bk.keep {w w' : World} {b : Nat} {t : TypeId} {cs : List Value} {row : Option Nat} (h : Bk w b t cs) (hg : w.grownBy w' row) (hne : row ≠ some b) : Bk w' b t cs := by
 have hlt := h.lt
 unfold Bk at *
 rw [hg.block b hlt (fun e => hne e.symm)]; exact h

theorem Sl.keep {w w' : World} {a : Option Addr} {vs : List Value} {row : Option Nat} (h : Sl w a vs) (hg : w.grownBy w' row) (hne : ∀ g, ab a = some g → row ≠ some g) : Sl w' a vs := by
 intro j v hv
 obtain ⟨g, off, rfl, hc⟩ := h j v hv
 exact ⟨g, off, rfl, hg.cell hc (fun e => hne g rfl e.symm)⟩

theorem Sl.below {w w' : World} {a : Option Addr} {vs : List Value} {B : Nat} (h : Sl w a vs) (hb : Below B w w') (hlt : ∀ g, ab a = some g → g < B) : Sl w' a vs := by
 intro j v hv
 obtain ⟨g, off, rfl, hc⟩ := h j v hv
 exact ⟨g, off, rfl, by rw [hb.cell (hlt g rfl)]; exact hc⟩

theorem Sl.nil (w : World) (a : Option Addr) : Sl w a [] := fun j v h => by simp at h

theorem Sl.lt {w : World} {a : Option Addr} {vs : List Value} (h : Sl w a vs) (hne : vs ≠ []) : ∀ g, ab a = some g → g < w.heap.size := by
 intro g hg
 cases vs with
 | nil => exact absurd rfl hne
 | cons v vs =>
  obtain ⟨g', off, rfl, hc⟩ := h 0 v rfl
  simp [ab] at hg; subst hg
  exact World.block_lt_of_cell? w _ hc

theorem Sl.drop {w : World} {a : Option Addr} {vs : List Value} (h : Sl w a vs) (m c : Nat) (hlen : vs.length ≤ c) : Sl w (sadd a c m 1) (vs.drop m) := by
 intro j v hv
 rw [List.getElem?_drop] at hv
 obtain ⟨g, off, rfl, hc⟩ := h (m + j) v hv
 unfold sadd
 split
 ·rename_i hcm
  rw [List.getElem?_eq_none (by omega)] at hv
  cases hv
 ·exact ⟨g, off + m, by simp [add_plain], by rw [Nat.add_assoc]; exact hc⟩

theorem Sl.take {w : World} {a : Option Addr} {vs : List Value} (h : Sl w a vs) (m : Nat) : Sl w a (vs.take m) := by
 intro j v hv
 rw [List.getElem?_take] at hv
 split at hv
 ·exact h j v hv
 ·cases hv

theorem own_sl {w : World} {base e : Nat} {a : Option Addr} {m c : Nat} {cs : List Value} (h : w.ownsRow base e 1 (.slice a m c) m cs) : Sl w a cs := by
 intro j v hv
 rcases h.2 with ⟨h1, h2⟩ | ⟨g, cap, cur, h1, _, hg, _⟩
 ·have := h.1; rw [h2] at this; simp at this; subst this; simp at hv
 ·simp at h1; obtain ⟨rfl, rfl⟩ := h1
  have := h.cells (g := g) rfl j v hv
  rw [add_plain] at this
  exact ⟨g, 0, rfl, this⟩

theorem own_len {w : World} {base e : Nat} {a : Option Addr} {m c : Nat} {cs : List Value} (h : w.ownsRow base e 1 (.slice a m c) m cs) : cs.length = m := by
 have := h.1; omega

theorem own_block {w : World} {base e s : Nat} {a : Option Addr} {m c : Nat} {cs : List Value} (h : w.ownsRow base e s (.slice a m c) m cs) : ∀ g, ab a = some g → base ≤ g ∧ g < w.heap.size := by
 intro g hg
 refine h.lt g ?_
 cases a with
 | none => simp [ab] at hg
 | some a => simpa [ab, Value.ownBlock] using hg

def Tg (w : World) (t : TypeId) (g : Nat) : Prop := ∃ c z, w.heap[g]? = some (.cells c t z)
theorem Tg.lt {w : World} {t : TypeId} {g : Nat} (h : Tg w t g) : g < w.heap.size := by
 obtain ⟨c, z, h⟩ := h
 exact (Array.getElem?_eq_some_iff.1 h).1
theorem Tg.grown {w w' : World} {t : TypeId} {g : Nat} {row : Option Nat} (h : Tg w t g) (hg : w.grownBy w' row) (hne : row ≠ some g) : Tg w' t g := by
 have hl := h.lt
 obtain ⟨c, z, h⟩ := h
 exact ⟨c, z, by rw [hg.block g hl (fun e => hne e.symm)]; exact h⟩
theorem Tg.heap {w w' : World} {t : TypeId} {g : Nat} (h : Tg w t g) (hh : w'.heap = w.heap) : Tg w' t g := by
 obtain ⟨c, z, h⟩ := h
 exact ⟨c, z, by rw [hh]; exact h⟩
theorem Tg.below {w w' : World} {t : TypeId} {g : Nat} (h : Tg w t g) (hb : Below w.heap.size w w') : Tg w' t g := by
 have hl := h.lt
 obtain ⟨c, z, h⟩ := h
 exact ⟨c, z, by rw [hb.block g hl]; exact h⟩
theorem Bk.tg {w : World} {b : Nat} {t : TypeId} {cs : List Value} (h : Bk w b t cs) : Tg w t b := ⟨_, _, h⟩
theorem Tg.ne {w : World} {t t' : TypeId} {g b : Nat} (h : Tg w t g) (h' : Tg w t' b) (hne : Nat.beq t t' = false) : g ≠ b := by
 rintro rfl
 obtain ⟨c, z, h⟩ := h
 obtain ⟨c', z', h'⟩ := h'
 rw [h] at h'
 cases h'
 simp at hne
theorem own_tag {w : World} {base e s : Nat} {a : Option Addr} {m c : Nat} {cs : List Value} (h : w.ownsRow base e s (.slice a m c) m cs) : ∀ g, ab a = some g → Tg w e g := by
 intro g hg
 rcases h.2 with ⟨h1, h2⟩ | ⟨g', cap, cur, h1, _, h3, _⟩
 ·cases h1; cases hg
 ·cases h1; cases hg; exact ⟨_, _, h3⟩

theorem ownBlock_ab (a : Option Addr) (m c : Nat) : (Value.slice a m c).ownBlock = ab a := by cases a <;> rfl

theorem own_keep {w w' : World} {base e s : Nat} {a : Option Addr} {m c : Nat} {cs : List Value} {row : Option Nat} (h : w.ownsRow base e s (.slice a m c) m cs) (hg : w.grownBy w' row)
  (hne : ∀ g, ab a = some g → row ≠ some g) : w'.ownsRow base e s (.slice a m c) m cs :=
 h.kept hg (by
  rw [ownBlock_ab]
  cases hab : ab a with
  | none => exact .inl rfl
  | some g => exact .inr (fun e => hne g hab e.symm))

def noAgg (u : TypeId → Option TypeDesc) (t : TypeId) : Bool :=
 match u t with
 | some (.struct _) | some (.array ..) | none => false
 | _ => true

theorem run_load_cell {P : Program} (U : Tys P) {t : TypeId} (h : noAgg U.tb.u t = true) {w : World} {p : Addr} {v : Value} (hc : w.cell? p = some v) : (loadVar t p).run P w = .ok v w := by
 unfold noAgg at h
 split at h <;> simp at h
 rename_i d h1 h2 h3
 cases hd : U.tb.u t with
 | none => rw [hd] at h3; exact absurd rfl h3
 | some d' =>
  have hu := run_under (U.hu _ _ hd) w
  have hagg : (isAgg t).run P w = .ok false w := by
   simp only [isAgg, Sem.run_bind, hu, Result.andThen]
   cases d' <;> simp_all
  simp only [loadVar, Sem.run_bind, hagg, Result.andThen]
  simp [load, Sem.run, hc]

section
variable {P : Program} (U : Tys P) {ro : Option Nat} {n : Nat} {ds : List Deferred} {Q : PT} {l l' l1 l2 : Fr} {w w' : World} {arr : Array Oper} {r : List Oper} {k : List It}

theorem put1_some {d : Nat} {v : Value} (h : Nat.blt d n = true) : put1 n l (some d) v = some ((d, v) :: l) := by simp only [put1, h]

theorem ld {dst : Option Nat} {t ty : TypeId} {x : Operand} {ps : String} {af : Array Edge} {g : Option (Nat × Bool)} {p : Addr} {v : Value} (hx : ev l x = some (.pointer (some p))) (ht : noAgg U.tb.u t = true) (hg : gd arr l g = some true)
  (hl : put1 n l dst v = some l') (hc : w.cell? p = some v) (t' : T P ro n ds Q l' w (.ops arr r) k) : T P ro n ds Q l w (.ops arr (⟨dst, .load t x, ty, ps, af, g⟩ :: r)) k :=
 op1 (by intro c h; cases h) hg hl (fun a hf => by
  simp only [execOp, hf.ev hx, Instr.loadAt, Instr.sureAddr]
  simp [run_load_cell U ht hc]) t'

theorem run_index {t e : TypeId} {s : Nat} (ht : U.tb.u t = some (.slice e)) (hs : U.tb.sz e = some s) (a : Addr) (m c j : Nat) (ki : IntKind) (hm : j < m) (w : World) :
  (Instr.indexAt t (.slice (some a) m c) (.int ki (j : Int))).run P w = .ok (.pointer (some (a.add (j * s)))) w := by
 obtain ⟨i, hi, hz⟩ := U.hs _ _ hs
 have h1 : (0 : Int) ≤ (j : Int) ∧ (j : Int) < (m : Int) := by omega
 simp only [Instr.indexAt, Sem.run_bind, asIntOf, Sem.run_pure, Result.andThen, run_under (U.hu _ _ ht), if_pos h1]
 simp [sizeOf, typeInfo, program, hi, hz, Sem.run]

theorem il {x1 d2 : Nat} {t e t2 ty ty2 : TypeId} {x i : Operand} {ps ps2 : String} {af af2 : Array Edge} {g1 g2 : Option (Nat × Bool)} {a : Option Addr} {m c : Nat} {ki : IntKind} {iv : Int} {vs : List Value} {v : Value}
  (hx : ev l x = some (.slice a m c)) (hi : ev l i = some (.int ki iv)) (ht : U.tb.u t = some (.slice e)) (hz : U.tb.sz e = some 1) (h2 : noAgg U.tb.u t2 = true)
  (hg1 : gd arr l g1 = some true) (hx1 : Nat.blt x1 n = true) (hg2 : ∀ p, gd arr ((x1, p) :: l) g2 = some true) (hd2 : Nat.blt d2 n = true)
  (j : Nat) (hj : iv = (j : Int)) (hm : j < m) (hs : Sl w a vs) (hv : vs[j]? = some v)
  (t' : T P ro n ds Q ((d2, v) :: (x1, .pointer (a.map (·.add (j * 1)))) :: l) w (.ops arr r) k) :
  T P ro n ds Q l w (.ops arr (⟨some x1, .indexAddr t x i, ty, ps, af, g1⟩ :: ⟨some d2, .load t2 (.tmp x1), ty2, ps2, af2, g2⟩ :: r)) k := by
 obtain ⟨g, off, rfl, hc⟩ := hs j v hv
 subst hj
 refine op1 (w' := w) (v := .pointer (some ((⟨g, off, none⟩ : Addr).add (j * 1)))) (by intro c h; cases h) hg1 (put1_some hx1) (fun a hf => ?_) ?_
 ·have := run_index U ht hz ⟨g, off, none⟩ m c j ki hm w
  simp [execOp, hf.ev hx, hf.ev hi, this]
 ·refine ld U (p := (⟨g, off, none⟩ : Addr).add (j * 1)) (by simp [ev, look_cons]) h2 (hg2 _) (put1_some hd2) (by rw [Nat.mul_one, add_plain]; exact hc) t'

theorem run_index_own {t e : TypeId} (ht : U.tb.u t = some (.slice e)) (hs : U.tb.sz e = some 1) {base e' : Nat} {a : Option Addr} {m c : Nat} {cs : List Value} (h : w.ownsRow base e' 1 (.slice a m c) m cs) (j : Nat) (hm : j < m) (ki : IntKind) :
  ∃ g, a = some ⟨g, 0, none⟩ ∧ (Instr.indexAt t (.slice a m c) (.int ki (j : Int))).run P w = .ok (.pointer (some ⟨g, j, none⟩)) w := by
 rcases h.2 with ⟨h1, h2⟩ | ⟨g, cap, cur, h1, _⟩
 ·omega
 ·simp at h1; obtain ⟨rfl, rfl⟩ := h1
  refine ⟨g, rfl, ?_⟩
  have := run_index U ht hs ⟨g, 0, none⟩ m c j ki hm w
  rw [Nat.mul_one, add_plain, Nat.zero_add] at this
  exact this

theorem bx {d : Nat} {t ty : TypeId} {x : Operand} {ps : String} {af : Array Edge} {g : Option (Nat × Bool)} {v : Value} (hx : ev l x = some v) (hg : gd arr l g = some true) (hd : Nat.blt d n = true) {cs : List Value} (hcs : v.cells = ⟨cs⟩)
  (t' : ∀ b w1, b = w.heap.size → w1.heap.size = b + 1 → Bk w1 b t cs → w.grownBy w1 none → T P ro n ds Q ((d, .pointer (some ⟨b, 0, none⟩)) :: l) w1 (.ops arr r) k) :
  T P ro n ds Q l w (.ops arr (⟨some d, .box t x, ty, ps, af, g⟩ :: r)) k :=
 op1 (w' := w.alloc (.cells v.cells t)) (by intro c h; cases h) hg (put1_some hd) (fun a hf => by
  simp only [execOp, hf.ev hx, Instr.box, newVar, newRow, newObj]
  rfl) (t' _ _ rfl (by simp) (by rw [hcs]; exact heap_alloc_new w _) (World.grownBy_alloc w _ none))

theorem al {d : Nat} {t ty : TypeId} {ps : String} {af : Array Edge} {g : Option (Nat × Bool)} {v : Value} {s b : Nat} (hz : U.tb.inf t = some (s, b, v)) (hg : gd arr l g = some true) (hd : Nat.blt d n = true) {cs : List Value} (hcs : v.cells = ⟨cs⟩)
  (t' : ∀ b w1, b = w.heap.size → w1.heap.size = b + 1 → Bk w1 b t cs → w.grownBy w1 none → T P ro n ds Q ((d, .pointer (some ⟨b, 0, none⟩)) :: l) w1 (.ops arr r) k) :
  T P ro n ds Q l w (.ops arr (⟨some d, .alloc t, ty, ps, af, g⟩ :: r)) k :=
 op1 (w' := w.alloc (.cells v.cells t)) (by intro c h; cases h) hg (put1_some hd) (fun a hf => by
  obtain ⟨i, hi, _, _, hz'⟩ := U.hi _ _ _ _ hz
  simp only [execOp, Instr.alloc, newVar, newRow, newObj, zeroValue, typeInfo, program]
  simp [Sem.run, hi, hz']) (t' _ _ rfl (by simp) (by rw [hcs]; exact heap_alloc_new w _) (World.grownBy_alloc w _ none))

theorem grownBy_setRow (w : World) (g : Nat) (cs : Array Value) : w.grownBy (w.setRow g cs) (some g) :=
 ⟨rfl, rfl, rfl, by simp [World.setRow], fun k hk hne => by
  simp only [World.setRow, Array.getElem?_modify]
  rw [if_neg (by intro e; exact hne (by rw [e]))]⟩

theorem st {d : Option Nat} {t ty : TypeId} {x y : Operand} {ps : String} {af : Array Edge} {g : Option (Nat × Bool)} {v : Value} {b off : Nat} {bt : TypeId} {cs vs cs' : List Value} {s : Nat}
  (hx : ev l x = some (.pointer (some ⟨b, off, none⟩))) (hy : ev l y = some v) (hs : U.tb.sz t = some s) (hg : gd arr l g = some true) (hl : put1 n l d undef = some l')
  (hvs : v.cells = ⟨vs⟩) (hlen : Nat.beq vs.length s = true) (h1 : vs.all (·.oneCell') = true) (hc : cs.take off ++ vs ++ cs.drop (off + vs.length) = cs') (hle : Nat.ble (off + vs.length) cs.length = true) (hb : Bk w b bt cs)
  (t' : ∀ w1, Bk w1 b bt cs' → w.grownBy w1 (some b) → w1.heap.size = w.heap.size → T P ro n ds Q l' w1 (.ops arr r) k) :
  T P ro n ds Q l w (.ops arr (⟨d, .store t x y, ty, ps, af, g⟩ :: r)) k := by
 obtain ⟨i, hi, hz⟩ := U.hs _ _ hs
 have hle := Nat.le_of_ble_eq_true hle
 have hlen := Nat.eq_of_beq_eq_true hlen
 have hrun := run_storeCells_at P b off bt vs 0 ⟨cs⟩ w hb (by simpa using hle) (fun v hv => List.all_eq_true.1 h1 v hv)
 simp only [Nat.add_zero] at hrun
 rw [hc] at hrun
 refine op0 (w' := w.setRow b cs'.toArray) (by intro c h; cases h) hg hl (fun a hf => ?_) (t' _ (by rw [Bk, setRow_heap w b ⟨cs⟩ _ bt (0, 0) hb]) (grownBy_setRow _ _ _) (by simp [World.setRow]))
 simp only [execOp, hf.ev hx, hf.ev hy, Instr.storeAt, Instr.sureAddr, storeVar, sizeOf, typeInfo, program]
 simp [Sem.run, hi, hz, hvs, hlen, hrun]

theorem ap {d1 d2 : Nat} {t e ty ty2 : TypeId} {x s : Operand} {ps ps2 : String} {af af2 : Array Edge} {g1 g2 : Option (Nat × Bool)} {a : Option Addr} {m c : Nat} {v z : Value} {by_ : Nat} {base : Nat} {cs : List Value} {tt : Array TypeId}
  (hx : ev l x = some v) (ht : U.tb.u t = some (.slice e)) (hi : U.tb.inf e = some (1, by_, z)) (hzc : z.cells.size = 1)
  (hg1 : gd arr l g1 = some true) (hd1 : Nat.blt d1 n = true) (hg2 : ∀ p, gd arr ((d1, p) :: l) g2 = some true) (hd2 : Nat.blt d2 n = true) (hs2 : ∀ p, ev ((d1, p) :: l) s = some (.slice a m c)) (htt : tt = #[t, t])
  (hv : v.cells = #[v]) (h1 : v.oneCell' = true)
  (hown : w.ownsRow base e 1 (.slice a m c) m cs) (hbase : base ≤ w.heap.size) (hlen : (m + 1) * by_ ≤ 140737488355328) (hby : 0 < by_)
  (t' : ∀ a' c' w1, w1.ownsRow base e 1 (.slice a' (m + 1) c') (m + 1) (cs ++ [v]) → w.grownBy w1 (ab a) → T P ro n ds Q ((d2, .slice a' (m + 1) c') :: (d1, .slice (some ⟨w.heap.size, 0, none⟩) 1 1) :: l) w1 (.ops arr r) k) :
  T P ro n ds Q l w (.ops arr (⟨some d1, .buildSlice t 1 #[(0, x)], ty, ps, af, g1⟩ :: ⟨some d2, .call ⟨.builtin .append, #[s, .tmp d1], tt⟩, ty2, ps2, af2, g2⟩ :: r)) k := by
 subst htt
 obtain ⟨i, hi0, hz1, hz2, hz3⟩ := U.hi _ _ _ _ hi
 have hpt := U.hu _ _ ht
 have hmm : m + 1 ≤ maxLen := by
  unfold maxLen
  have : (m + 1) * 1 ≤ (m + 1) * by_ := Nat.mul_le_mul_left _ hby
  omega
 refine op1 (w' := w.alloc (.cells #[v] e)) (v := .slice (some ⟨w.heap.size, 0, none⟩) 1 1) (by intro c h; cases h) hg1 (put1_some hd1) (fun a hf => ?_) ?_
 ·simp only [execOp, Instr.buildSlice]
  simp [hf.ev hx, run_under hpt, sizeOf, typeInfo, program, Sem.run, hi0, hz1, zeroValue, hz3, Instr.fill, hv, newRow, newObj]
  rw [show (Array.map (fun x => z.cells[x % z.cells.size]!) (Array.range 1)).setIfInBounds 0 v = #[v] from by apply Array.toList_inj.1; simp [List.range_succ]]
 ·have hown1 := hown.alloc (.cells #[v] e)
  obtain ⟨v', w1, hrun, ho, hgr, _⟩ := run_append_own (w.alloc (.cells #[v] e)) base t ty2 e i z 1 by_ hpt hi0 hz3 hz1 hz2 hzc (by omega) (.slice a m c) m cs hown1 ⟨w.heap.size, 0, none⟩ 1 1 [v] rfl
   (by
    intro j u hj
    match j, hj with
    | 0, hj =>
     simp at hj; subst hj
     rw [add_plain]
     exact (show Bk (w.alloc (.cells #[v] e)) w.heap.size e [v] from heap_alloc_new w _).cell rfl)
   (by intro u hu; simp at hu; subst hu; exact h1) hmm hlen (by simp; omega)
  obtain ⟨a', c', rfl⟩ : ∃ a' c', v' = .slice a' (m + 1) c' := by
   rcases ho.2 with ⟨_, h⟩ | ⟨g, cap, cur, h, _⟩
   ·omega
   ·exact ⟨_, _, h⟩
  refine op1 (w' := w1) (by intro c h; cases h) (hg2 _) (put1_some hd2) (fun act hf => ?_) (t' a' c' w1 ho ?_)
  ·have e1 := hf.ev (hs2 _)
   have e2 : act.eval (.tmp d1) = .slice (some ⟨w.heap.size, 0, none⟩) 1 1 := hf.ev (by simp [ev, look_cons])
   simp only [execOp, resolve, invoke, builtin]
   simp [e1, e2, hrun]
  ·rw [ownBlock_ab] at hgr
   have h0 := World.grownBy_alloc w (.cells #[v] e) (ab a)
   exact ⟨hgr.os.trans h0.os, hgr.tape.trans h0.tape, hgr.output.trans h0.output, Nat.le_trans h0.size hgr.size, fun k hk hne => (hgr.block k (by simp; omega) hne).trans (h0.block k hk hne)⟩

theorem mk0 {d : Nat} {t e ty : TypeId} {x y : Operand} {ps : String} {af : Array Edge} {g : Option (Nat × Bool)} {kl kc : IntKind} {lv cv : Int} {z : Value} {by_ s : Nat}
  (hx : ev l x = some (.int kl lv)) (hy : ev l y = some (.int kc cv)) (ht : U.tb.u t = some (.slice e)) (hi : U.tb.inf e = some (s, by_, z)) (hg : gd arr l g = some true) (hd : Nat.blt d n = true)
  (c : Nat) (h0 : lv = 0) (hc : cv = (c : Int)) (hle : by_ * c ≤ 140737488355328) (h63 : c ≤ 9223372036854775807) (base : Nat) (hb : base ≤ w.heap.size)
  (t' : ∀ a w1, w1.ownsRow base e s (.slice a 0 c) 0 [] → w.grownBy w1 none → T P ro n ds Q ((d, .slice a 0 c) :: l) w1 (.ops arr r) k) :
  T P ro n ds Q l w (.ops arr (⟨some d, .makeSlice t x y, ty, ps, af, g⟩ :: r)) k := by
 subst h0; subst hc
 obtain ⟨i, hi0, hz1, hz2, hz3⟩ := U.hi _ _ _ _ hi
 obtain ⟨w1, hrun, ho, hgr⟩ := run_make_own w base t e i z s (U.hu _ _ ht) hi0 hz3 hz1 kl kc c (by rw [hz2]; omega) (by unfold maxLen; omega) hb
 exact op1 (by intro c h; cases h) hg (put1_some hd) (fun a hf => by simp [execOp, hf.ev hx, hf.ev hy, hrun]) (t' _ _ ho hgr)

theorem mkn {d : Nat} {t e ty : TypeId} {x y : Operand} {ps : String} {af : Array Edge} {g : Option (Nat × Bool)} {kl kc : IntKind} {lv cv : Int} {z : Value} {by_ : Nat}
  (hx : ev l x = some (.int kl lv)) (hy : ev l y = some (.int kc cv)) (ht : U.tb.u t = some (.slice e)) (hi : U.tb.inf e = some (1, by_, z)) (hz : z.cells = #[z]) (hg : gd arr l g = some true) (hd : Nat.blt d n = true)
  (c : Nat) (h0 : lv = (c : Int)) (hc : cv = (c : Int)) (hle : by_ * c ≤ 140737488355328) (h63 : c ≤ 9223372036854775807) (base : Nat) (hb : base ≤ w.heap.size)
  (t' : ∀ a w1, w1.ownsRow base e 1 (.slice a c c) c (List.replicate c z) → w.grownBy w1 none → T P ro n ds Q ((d, .slice a c c) :: l) w1 (.ops arr r) k) :
  T P ro n ds Q l w (.ops arr (⟨some d, .makeSlice t x y, ty, ps, af, g⟩ :: r)) k := by
 subst h0; subst hc
 obtain ⟨i, hi0, hz1, hz2, hz3⟩ := U.hi _ _ _ _ hi
 obtain ⟨w1, hrun, ho, hgr⟩ := run_make_full w base t e i z 1 (U.hu _ _ ht) hi0 hz3 hz1 kl kc c (by rw [hz2]; omega) (by unfold maxLen; omega) hb
 rw [hz, Nat.mul_one, toList_madeCells_one] at ho
 exact op1 (by intro c h; cases h) hg (put1_some hd) (fun a hf => by simp [execOp, hf.ev hx, hf.ev hy, hrun]) (t' _ _ ho hgr)

theorem own_set {w : World} {base e g m c : Nat} {cs : List Value} (h : w.ownsRow base e 1 (.slice (some ⟨g, 0, none⟩) m c) m cs) (j : Nat) (hj : j < m) (v : Value) :
  ∃ cur, w.heap[g]? = some (.cells cur e (0, 0)) ∧ j < cur.size ∧ (w.setRow g (cur.toList.set j v).toArray).ownsRow base e 1 (.slice (some ⟨g, 0, none⟩) m c) m (cs.set j v) := by
 obtain ⟨hl, h | ⟨g', cap, cur, h1, hb, hg, hm, hcap, hsz, htk⟩⟩ := h
 ·omega
 ·simp at h1; obtain ⟨rfl, rfl⟩ := h1
  refine ⟨cur, hg, by omega, by simpa using hl, .inr ⟨g, c, (cur.toList.set j v).toArray, rfl, hb, setRow_heap w g cur _ e (0, 0) hg, hm, hcap, by simpa using hsz, ?_⟩⟩
  rw [← htk]
  simp [List.take_set]

theorem is {x1 : Nat} {d2 : Option Nat} {t e t2 ty ty2 : TypeId} {x i y : Operand} {ps ps2 : String} {af af2 : Array Edge} {g1 g2 : Option (Nat × Bool)} {a : Option Addr} {m c : Nat} {ki : IntKind} {iv : Int} {cs : List Value} {v : Value} {base e' : Nat} {lp : Value → Fr}
  (hx : ev l x = some (.slice a m c)) (hi : ev l i = some (.int ki iv)) (ht : U.tb.u t = some (.slice e)) (hz : U.tb.sz e = some 1) (h2 : U.tb.sz t2 = some 1)
  (hg1 : gd arr l g1 = some true) (hx1 : Nat.blt x1 n = true) (hg2 : ∀ p, gd arr ((x1, p) :: l) g2 = some true) (hy : ∀ p, ev ((x1, p) :: l) y = some v) (hl : ∀ p, put1 n ((x1, p) :: l) d2 undef = some (lp p))
  (hvc : v.cells = #[v]) (h1 : v.oneCell' = true)
  (j : Nat) (hj : iv = (j : Int)) (hm : j < m) (ho : w.ownsRow base e' 1 (.slice a m c) m cs)
  (t' : ∀ p w1, w1.ownsRow base e' 1 (.slice a m c) m (cs.set j v) → w.grownBy w1 (ab a) → w1.heap.size = w.heap.size → T P ro n ds Q (lp p) w1 (.ops arr r) k) :
  T P ro n ds Q l w (.ops arr (⟨some x1, .indexAddr t x i, ty, ps, af, g1⟩ :: ⟨d2, .store t2 (.tmp x1) y, ty2, ps2, af2, g2⟩ :: r)) k := by
 subst hj
 obtain ⟨g, rfl, hrun⟩ := run_index_own (P := P) U ht hz ho j hm ki
 obtain ⟨cur, hg, hlt, ho1⟩ := own_set ho j hm v
 obtain ⟨ii, hi0, hz0⟩ := U.hs _ _ h2
 have hst := run_storeCells_at P g j e' [v] 0 cur w hg (by simp; omega) (by intro u hu; simp at hu; subst hu; exact h1)
 have hset : (List.take (j + 0) cur.toList ++ [v] ++ List.drop (j + 0 + [v].length) cur.toList) = cur.toList.set j v := by
  rw [List.set_eq_take_append_cons_drop, if_pos (by simpa using hlt)]; simp
 rw [hset] at hst
 refine op1 (w' := w) (v := .pointer (some ⟨g, j, none⟩)) (by intro c h; cases h) hg1 (put1_some hx1) (fun a hf => ?_) ?_
 ·simp [execOp, hf.ev hx, hf.ev hi, hrun]
 ·refine op0 (w' := w.setRow g (cur.toList.set j v).toArray) (by intro c h; cases h) (hg2 _) (hl _) (fun a hf => ?_) (t' _ _ ho1 (grownBy_setRow _ _ _) (by simp [World.setRow]))
  have e1 : a.eval (.tmp x1) = .pointer (some ⟨g, j, none⟩) := hf.ev (by simp [ev, look_cons])
  simp only [execOp, e1, hf.ev (hy _), Instr.storeAt, Instr.sureAddr, storeVar, sizeOf, typeInfo, program]
  simp [Sem.run, hi0, hz0, hvc, hst]

def cal (l : Fr) : Op → Option (FuncId × List Value)
 | .call ⟨.value f, ⟨xs⟩, _⟩ => match ev l f with
  | some (.func (.func g) ⟨fs⟩ ⟨cs⟩) => match xs.mapM (ev l) with
   | some vs => some (g, fs ++ (vs ++ cs))
   | none => none
  | _ => none
 | _ => none

def Callable (P : Program) (f : FuncId) : Prop := ∃ fn, P.funcs[f]? = some fn ∧ (fn.name == "runtime.NumGoroutine") = false ∧ fn.body.isNone = false

theorem call {o : Oper} {f : FuncId} {vs : List Value} {Post : Value → World → Prop} (e : cal l o.op = some (f, vs)) (hg : gd arr l o.guard = some true) (hcb : Callable P f)
  (hc : Calls P f vs.toArray w (Ret Post)) (t' : ∀ v w1, Post v w1 → ∃ l', put1 n l o.dst v = some l' ∧ T P ro n ds Q l' w1 (.ops arr r) k) : T P ro n ds Q l w (.ops arr (o :: r)) k := by
 intro a hf
 show wpListIn _ _ _ _ _ _ _ _
 unfold wpListIn
 rw [gd_wanted hf hg, if_pos rfl]
 refine ⟨fun _ _ => trivial, ?_⟩
 obtain ⟨dst, op, type, pos, after, guard⟩ := o
 dsimp only at e hg t' ⊢
 cases op with
 | call c =>
  obtain ⟨callee, ⟨xs⟩, tys⟩ := c
  cases callee with
  | value x =>
   simp only [cal] at e
   split at e
   ·rename_i g fs cs hx
    split at e
    ·rename_i us hus
     simp at e; obtain ⟨rfl, rfl⟩ := e
     obtain ⟨fn, hfn, hname, hbody⟩ := hcb
     have hargs : (Array.map a.eval ⟨xs⟩) = us.toArray := by
      apply Array.toList_inj.1; simpa using mapM_ev hf hus
     have hrun : (execOp a.eval ⟨dst, .call ⟨.value x, ⟨xs⟩, tys⟩, type, pos, after, guard⟩).run P w = .ok (.enter g (fs ++ (us ++ cs)).toArray) w := by
      simp only [execOp, resolve, hargs, hf.ev hx, Deferred.ofValue]
      have h1 : ¬ fn.name = "runtime.NumGoroutine" := by simpa using hname
      have h2 : ¬ fn.body = none := by intro h; rw [h] at hbody; cases hbody
      simp [invoke, callFunc, program, Sem.run, hfn, h1, h2]
     rw [Oper.semAt_eq _ _ _ (by intro c h; cases h)]
     show Oper.uponIn (FW ro) 0 P _ a _ _ ((execOp a.eval _).run P w)
     rw [hrun]
     refine ⟨fun h => by simp [FW] at h, ?_⟩
     have hc' : CallsIn (FW ro) (0 - 1) P g (fs ++ (us ++ cs)).toArray w (Ret Post) := by
      have h1 := (callsIn_wide (n := 0)).2 hc
      cases ro with
      | none => exact h1
      | some i => exact h1.inRound i
     refine hc'.mono ?_
     rintro e' w' ⟨v, rfl, hp⟩
     obtain ⟨l', hl, t'⟩ := t' v w' hp
     exact t' _ (hf.put1 hl)
    ·simp at e
   ·simp at e
  | _ => simp [cal] at e
 | _ => simp [cal] at e
end
end
end Go.Proofs.YtejlpdbiacmfcaaGreatDoor
