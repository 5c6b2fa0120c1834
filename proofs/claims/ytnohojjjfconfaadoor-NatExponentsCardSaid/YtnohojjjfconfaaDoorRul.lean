/-
  The engine's rules for tests, memory, calls, loops and returns, proved over the kit's laws.
  No conditions: each theorem names its own premises.
-/
import Derived.Test.YtnohojjjfconfaaDoorEng
namespace Go.Proofs.YtnohojjjfconfaaDoor
open Go.RowKit

def u64 (n : Nat) : Value := .int .u64 n
def i64 (n : Int) : Value := .int .i64 n

def Ret (Post : Value → World → Prop) : Ending → World → Prop := fun e w => ∃ v, e = .returned v ∧ Post v w

section
variable {P : Program} {ro : Option Nat} {n : Nat} {ds : List Deferred} {Q : PT} {l l' : Fr} {w w' : World} {arr : Array Oper} {o : Oper} {r : List Oper} {k : List It}

/-- One operation that yields a value. -/
theorem op1 {v : Value} (hd : ∀ c, o.op ≠ .defer c) (hg : gd arr l o.guard = some true) (hl : put1 n l o.dst v = some l')
    (hrun : ∀ a, Fit n ds l a → (execOp a.eval o).run P w = .ok (.value v) w') (t : T P ro n ds Q l' w' (.ops arr r) k) : T P ro n ds Q l w (.ops arr (o :: r)) k := by
  intro a hf
  show wpListIn _ _ _ _ _ _ _ _
  unfold wpListIn
  rw [gd_wanted hf hg, if_pos rfl]
  exact uponIn_value hd (hrun a hf) (t _ (hf.put1 hl))

/-- One operation that yields nothing. -/
theorem op0 (hd : ∀ c, o.op ≠ .defer c) (hg : gd arr l o.guard = some true) (hl : put1 n l o.dst undef = some l')
    (hrun : ∀ a, Fit n ds l a → (execOp a.eval o).run P w = .ok .skip w') (t : T P ro n ds Q l' w' (.ops arr r) k) : T P ro n ds Q l w (.ops arr (o :: r)) k := by
  intro a hf
  show wpListIn _ _ _ _ _ _ _ _
  unfold wpListIn
  rw [gd_wanted hf hg, if_pos rfl]
  refine ⟨fun _ _ => trivial, ?_⟩
  rw [Oper.semAt_eq _ _ _ hd]
  show o.uponIn (FW ro) 0 P a _ _ ((execOp a.eval o).run P w)
  rw [hrun a hf]
  exact t _ (hf.put1 hl)

/-- A test: the proposition that it asks. -/
def dec (l : Fr) : Op → Option Prop
  | .binOp op _ x y _ => match ev l x with
    | some (.int k m) => match ev l y with
      | some (.int k' q) => match decide (k = k') with
        | false => none
        | true => match op with
          | .eql => some (m = q)
          | .neq => some (m ≠ q)
          | .lss => some (m < q)
          | .leq => some (m ≤ q)
          | .gtr => some (q < m)
          | .geq => some (q ≤ m)
          | _ => none
      | _ => none
    | some (.string ⟨⟨a⟩⟩) => match ev l y with
      | some (.string ⟨⟨b⟩⟩) => match op with
        | .eql => some (a = b)
        | .neq => some (a ≠ b)
        | .lss => some (Op.bytesLess a b = true)
        | _ => none
      | _ => none
    | _ => none
  | _ => none

theorem dec_run {p : Prop} {a : Act} (hf : Fit n ds l a) (e : dec l o.op = some p) : ∃ b, (b = true ↔ p) ∧ (execOp a.eval o).run P w = .ok (.value (.bool b)) w := by
  obtain ⟨dst, op, type, pos, after, guard⟩ := o
  dsimp only at e
  cases op with
  | binOp op t x y t' =>
    simp only [dec] at e
    split at e
    · rename_i k m hx
      split at e
      · rename_i k' q hy
        split at e
        · simp at e
        · rename_i hk
          have hk : k = k' := by simpa using hk
          subst hk
          split at e <;> simp only [Option.some.injEq, reduceCtorEq] at e
          · subst e; exact ⟨m == q, by simp, by simp [execOp, hf.ev hx, hf.ev hy, eqGuard, binOp, Op.intCmp]⟩
          · subst e; exact ⟨m != q, by simp, by simp [execOp, hf.ev hx, hf.ev hy, eqGuard, binOp, Op.intCmp]⟩
          · subst e; exact ⟨decide (m < q), by simp, by simp [execOp, hf.ev hx, hf.ev hy, eqGuard, binOp, Op.intCmp]⟩
          · subst e; exact ⟨decide (m ≤ q), by simp, by simp [execOp, hf.ev hx, hf.ev hy, eqGuard, binOp, Op.intCmp]⟩
          · subst e; exact ⟨decide (q < m), by simp, by simp [execOp, hf.ev hx, hf.ev hy, eqGuard, binOp, Op.intCmp]⟩
          · subst e; exact ⟨decide (q ≤ m), by simp, by simp [execOp, hf.ev hx, hf.ev hy, eqGuard, binOp, Op.intCmp]⟩
      · simp at e
    · rename_i m hx
      split at e
      · rename_i q hy
        have h1 : (ByteArray.mk ⟨m⟩).toList = m := by rw [ByteArray.toList_eq]
        have h2 : (ByteArray.mk ⟨q⟩).toList = q := by rw [ByteArray.toList_eq]
        split at e <;> simp only [Option.some.injEq, reduceCtorEq] at e
        · subst e; exact ⟨m == q, by simp, by simp [execOp, hf.ev hx, hf.ev hy, eqGuard, binOp, Op.stringOp, h1, h2]⟩
        · subst e; exact ⟨!(m == q), by simp, by simp [execOp, hf.ev hx, hf.ev hy, eqGuard, binOp, Op.stringOp, h1, h2]⟩
        · subst e; exact ⟨Op.bytesLess m q, by simp, by simp [execOp, hf.ev hx, hf.ev hy, eqGuard, binOp, Op.stringOp, h1, h2]⟩
      · simp at e
    · simp at e
  | _ => simp [dec] at e

theorem not_defer_of_dec {p : Prop} (e : dec l o.op = some p) : ∀ c, o.op ≠ .defer c := by
  intro c hc; rw [hc] at e; simp [dec] at e

theorem cT {p : Prop} (e : dec l o.op = some p) (hg : gd arr l o.guard = some true) (hl : put1 n l o.dst (.bool true) = some l') (hp : p)
    (t : T P ro n ds Q l' w (.ops arr r) k) : T P ro n ds Q l w (.ops arr (o :: r)) k :=
  op1 (not_defer_of_dec e) hg hl (fun a hf => by
    obtain ⟨b, hb, hr⟩ := dec_run (P := P) (w := w) hf e
    rw [hb.2 hp] at hr; exact hr) t

theorem cF {p : Prop} (e : dec l o.op = some p) (hg : gd arr l o.guard = some true) (hl : put1 n l o.dst (.bool false) = some l') (hp : ¬ p)
    (t : T P ro n ds Q l' w (.ops arr r) k) : T P ro n ds Q l w (.ops arr (o :: r)) k :=
  op1 (not_defer_of_dec e) hg hl (fun a hf => by
    obtain ⟨b, hb, hr⟩ := dec_run (P := P) (w := w) hf e
    have : b = false := by cases b; rfl; exact absurd (hb.1 rfl) hp
    rw [this] at hr; exact hr) t

theorem cS {p : Prop} {l'' : Fr} (e : dec l o.op = some p) (hg : gd arr l o.guard = some true) (hl : put1 n l o.dst (.bool true) = some l') (hl' : put1 n l o.dst (.bool false) = some l'')
    (t : p → T P ro n ds Q l' w (.ops arr r) k) (f : ¬ p → T P ro n ds Q l'' w (.ops arr r) k) : T P ro n ds Q l w (.ops arr (o :: r)) k :=
  (Classical.em p).elim (fun h => cT e hg hl h (t h)) (fun h => cF e hg hl' h (f h))

/-- Structure that the driver stops at. -/
theorem cond_split {c : Operand} {x y : Code} {b : Bool} (hc : ev l c = some (.bool b)) (t : b = true → T P ro n ds Q l w (.code x) k) (f : b = false → T P ro n ds Q l w (.code y) k) :
    T P ro n ds Q l w (.code (.cond c x y)) k :=
  fun a hf => wpIn_cond_split (hf.ev hc) (fun h => t h a hf) (fun h => f h a hf)

/-- Less is known. -/
theorem less {h : Hd} (l' : Fr) (hs : Subf l l') (t : T P ro n ds Q l' w h k) : T P ro n ds Q l w h k :=
  fun a hf => t a (hf.less (fun _ _ e => hs.look _ _ e))

theorem least (p : Nat → Prop) (h : ∃ m, p m) : ∃ m, p m ∧ ∀ j, p j → m ≤ j := by
  obtain ⟨m, hm⟩ := h
  induction m using Nat.strongRecOn with
  | _ m ih =>
    by_cases h : ∃ j, j < m ∧ p j
    · obtain ⟨j, h1, h2⟩ := h; exact ih j h1 h2
    · exact ⟨m, hm, fun j hj => by
        rcases Nat.lt_or_ge j m with h1 | h1
        · exact absurd ⟨j, h1, hj⟩ h
        · exact h1⟩

theorem loopR (I : Fr → World → Nat → Prop) {body : Code} {l0 : Fr} {m0 : Nat} (h0 : I l0 w m0) (hs : Subf l l0)
    (round : ∀ l w m, I l w m → T P ro n ds Q l w (.code body) (.inv (fun a w' => ∃ l' m', I l' w' m' ∧ m' < m ∧ Fit n ds l' a) :: k)) :
    T P ro n ds Q l w (.code (.loop body)) k := by
  intro a hf
  have key : ∀ m a w, (∃ l', I l' w m ∧ Fit n ds l' a) → (Code.loop body).wpIn (FW ro) 0 P (KQ P ro k Q) a w := by
    intro m a w h
    obtain ⟨μ, hμ⟩ : ∃ μ : Act → World → Nat, ∀ a w, (∃ l' m, I l' w m ∧ Fit n ds l' a) → ∃ l', I l' w (μ a w) ∧ Fit n ds l' a ∧ ∀ l'' m', I l'' w m' → Fit n ds l'' a → μ a w ≤ m' := by
      refine ⟨fun a w => Classical.epsilon fun m => (∃ l', I l' w m ∧ Fit n ds l' a) ∧ ∀ m', (∃ l', I l' w m' ∧ Fit n ds l' a) → m ≤ m', fun a w h => ?_⟩
      have h' : ∃ m, ∃ l', I l' w m ∧ Fit n ds l' a := by obtain ⟨l', m, h1, h2⟩ := h; exact ⟨m, l', h1, h2⟩
      obtain ⟨⟨l', h1, h2⟩, h3⟩ := Classical.epsilon_spec (least _ h')
      exact ⟨l', h1, h2, fun l'' m' h4 h5 => h3 m' ⟨l'', h4, h5⟩⟩
    refine wpIn_loop (fun a w => ∃ l' m, I l' w m ∧ Fit n ds l' a) μ (by obtain ⟨l', h1, h2⟩ := h; exact ⟨l', m, h1, h2⟩) ?_
    intro a w hI
    obtain ⟨l', h1, h2, h3⟩ := hμ a w hI
    refine wpIn_mono (round l' w _ h1 a h2) ?_
    intro e a' w' hq
    cases e with
    | normal =>
      obtain ⟨l'', m', i1, i2, i3⟩ := hq
      refine ⟨⟨l'', m', i1, i3⟩, ?_⟩
      obtain ⟨_, _, _, j3⟩ := hμ a' w' ⟨l'', m', i1, i3⟩
      exact Nat.lt_of_le_of_lt (j3 _ _ i1 i3) i2
    | _ => exact hq
  exact key m0 a w ⟨l0, h0, hf.less (fun _ _ e => hs.look _ _ e)⟩

/-- The end of a round. -/
theorem rend {I : Fr → World → Nat → Prop} {m : Nat} (l' : Fr) (m' : Nat) (hI : I l' w m') (hm : m' < m) (hs : Subf l l') :
    T P ro n ds Q l w .nrm (.inv (fun a w' => ∃ l' m', I l' w' m' ∧ m' < m ∧ Fit n ds l' a) :: k) :=
  fun _ hf => ⟨l', m', hI, hm, hf.less (fun _ _ e => hs.look _ _ e)⟩

/-- A function is entered. -/
def enumF : Nat → List Value → Fr
  | _, [] => []
  | i, v :: r => (i, v) :: enumF (i + 1) r

theorem look_enumF : ∀ (vs : List Value) (i t : Nat) (v : Value), look (enumF i vs) t = some v → i ≤ t ∧ vs[t - i]? = some v
  | [], _, _, _, e => by simp [enumF, look] at e
  | u :: r, i, t, v, e => by
    rw [enumF, look_cons] at e
    by_cases h : i = t
    · subst h; simp at e; subst e; simp
    · rw [if_neg h] at e
      obtain ⟨h1, h2⟩ := look_enumF r (i + 1) t v e
      refine ⟨by omega, ?_⟩
      have : t - i = (t - (i + 1)) + 1 := by omega
      rw [this, List.getElem?_cons_succ]; exact h2

theorem enter {f : FuncId} {fn : Func} {c : Code} {args : List Value} {R : Ending → World → Prop} (hf : P.funcs[f]? = some fn) (hb : fn.body = some c) (hn : fn.ntmps = n) (hle : args.length ≤ n)
    (t : T P none n [] (bodyPost P fn R) (enumF 0 args) w (.code c) []) : Calls P f args.toArray w R := by
  rw [← callsIn_wide (n := 0), ← FW_wide]
  refine callsIn_of_wp hf hb trivial (t _ ⟨by simp [hn]; omega, rfl, fun t v e => ?_⟩) rfl
  obtain ⟨_, h⟩ := look_enumF args 0 t v e
  simp only [Nat.sub_zero] at h
  have hlt : t < args.length := by
    rcases Nat.lt_or_ge t args.length with h' | h'
    · exact h'
    · rw [List.getElem?_eq_none h'] at h; cases h
  show (args.toArray ++ _)[t]? = _
  rw [Array.getElem?_append_left (by simpa using hlt)]
  simpa using h

theorem KQ_ret : ∀ (k : List It) (Q : PT) (a : Act) (w : World), KQ P ro k Q .ret a w ↔ Q .ret a w
  | [], _, _, _ => Iff.rfl
  | .c _ :: k, Q, a, w => KQ_ret k Q a w
  | .blk _ :: k, Q, a, w => KQ_ret k Q a w
  | .inv _ :: k, Q, a, w => KQ_ret k Q a w

def resv (l : Fr) : List ResultVar → Option (List Value)
  | [] => some []
  | .tmp t :: r => match look l t with
    | some v => match resv l r with
      | some vs => some (v :: vs)
      | none => none
    | none => none
  | .cell .. :: _ => none

def pack : List Value → Value
  | [v] => v
  | vs => .tuple ⟨vs⟩

theorem pack_eq (vs : Array Value) : (if h : vs.size = 1 then vs[0] else Value.tuple vs) = pack vs.toList := by
  obtain ⟨vs⟩ := vs
  match vs with
  | [] => simp [pack]
  | [v] => simp [pack]
  | _ :: _ :: _ => simp [pack]

theorem run_resv (f : ResultVar → Sem Value) (hf : ∀ t v, look l t = some v → (f (.tmp t)).run P w = .ok v w) : ∀ (rs : List ResultVar) (vs : List Value), resv l rs = some vs →
    (rs.mapM f).run P w = .ok vs w
  | [], vs, e => by simp only [resv, Option.some.injEq] at e; subst e; simp
  | .tmp t :: r, vs, e => by
    simp only [resv] at e
    split at e
    · rename_i v hv
      split at e
      · rename_i us hu
        simp at e; subst e
        have := run_resv f hf r us hu
        simp only [List.mapM_cons]
        simp [hf t v hv, this]
      · simp at e
    · simp at e
  | .cell .. :: _, vs, e => by simp [resv] at e

theorem ret {fn : Func} {R : Ending → World → Prop} {rs : List ResultVar} {vs : List Value} (hr : fn.results = ⟨rs⟩) (hv : resv l rs = some vs) (hR : R (.returned (pack vs)) w) :
    T P ro n [] (bodyPost P fn R) l w (.code .ret) k := by
  intro a hf
  refine wpIn_ret ((KQ_ret k _ a w).2 ⟨hf.df, pack vs, ?_, hR⟩)
  unfold results
  rw [hr, Array.mapM_eq_mapM_toList]
  simp only [Sem.run_bind, Sem.run_map]
  rw [run_resv (l := l) (P := P) (w := w) _ (fun t v e => by simp [hf.rd t v e]) rs vs hv]
  simp [pack_eq]
end
end Go.Proofs.YtnohojjjfconfaaDoor
