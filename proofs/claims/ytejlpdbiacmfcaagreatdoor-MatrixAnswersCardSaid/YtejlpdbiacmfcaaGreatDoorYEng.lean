/-
  The engine of these proofs, proved: frames as association lists, plain operations run by reflection, everything over the kit's fenced calculus.
  No conditions: each theorem names its own premises.
-/
import Derived.RangeFuncNested
import Derived.RangeFuncBound
import Derived.RangeFuncCalls
import Derived.RangeFuncLeaves
import Derived.WalkKit
import Derived.OwnWalkIn
import Derived.TacticsInMore
import Derived.LoopNIn
import Derived.LoopIn
import Derived.Orders
namespace Go.Proofs.YtejlpdbiacmfcaaGreatDoor
open Go.RowKit

abbrev Fr := List (Nat × Value)

def look : Fr → Nat → Option Value
 | [], _ => none
 | (k, v) :: r, t => match Nat.beq k t with
  | true => some v
  | false => look r t

theorem look_cons (k : Nat) (v : Value) (r : Fr) (t : Nat) : look ((k, v) :: r) t = if k = t then some v else look r t := by
 simp only [look]
 by_cases h : k = t
 ·subst h; simp [Nat.beq_refl]
 ·have : Nat.beq k t = false := by
   cases hb : Nat.beq k t
   ·rfl
   ·exact absurd (Nat.eq_of_beq_eq_true hb) h
  simp [this, h]

structure Fit (n : Nat) (ds : List Deferred) (l : Fr) (a : Act) : Prop where
 sz : a.tmps.size = n
 df : a.defers = ds
 rd : ∀ t v, look l t = some v → a.tmps[t]? = some v

def ev (l : Fr) : Operand → Option Value
 | .tmp t => look l t
 | .const v => some v
 | .global g => some (.pointer (some ⟨g, 0, none⟩))
 | .func f => some (.func (.func f) #[] #[])

theorem Fit.ev {n : Nat} {ds : List Deferred} {l : Fr} {a : Act} {x : Operand} {v : Value} (h : Fit n ds l a) (e : ev l x = some v) : a.eval x = v := by
 cases x with
 | tmp t => have := h.rd t v e; simp [Act.eval, this]
 | const u => simpa [YtejlpdbiacmfcaaGreatDoor.ev, Act.eval] using e
 | global g => simpa [YtejlpdbiacmfcaaGreatDoor.ev, Act.eval] using e
 | func f => simpa [YtejlpdbiacmfcaaGreatDoor.ev, Act.eval] using e

theorem Fit.put {n : Nat} {ds : List Deferred} {l : Fr} {a : Act} {d : Nat} (h : Fit n ds l a) (hd : d < n) (v : Value) : Fit n ds ((d, v) :: l) (a.put (some d) v) := by
 refine ⟨by simp [Act.put, h.sz], by simp [Act.put, h.df], fun t u e => ?_⟩
 rw [look_cons] at e
 simp only [Act.put]
 by_cases hk : d = t
 ·subst hk
  simp only [if_true] at e
  have : d < a.tmps.size := by rw [h.sz]; exact hd
  rw [Array.getElem?_setIfInBounds_self_of_lt this]
  exact e
 ·rw [if_neg hk] at e
  rw [Array.getElem?_setIfInBounds_ne hk]
  exact h.rd t u e

theorem Fit.less {n : Nat} {ds : List Deferred} {l l' : Fr} {a : Act} (h : Fit n ds l a) (hl : ∀ t v, look l' t = some v → look l t = some v) : Fit n ds l' a :=
 ⟨h.sz, h.df, fun t v e => h.rd t v (hl t v e)⟩

def Subf (l : Fr) : Fr → Prop
 | [] => True
 | (t, v) :: r => look l t = some v ∧ Subf l r

theorem Subf.look {l : Fr} : ∀ {l' : Fr}, Subf l l' → ∀ t v, look l' t = some v → look l t = some v
 | [], _, _, _, e => by simp [YtejlpdbiacmfcaaGreatDoor.look] at e
 | (k, u) :: r, h, t, v, e => by
  rw [look_cons] at e
  by_cases hk : k = t
  ·subst hk; simp at e; subst e; exact h.1
  ·rw [if_neg hk] at e; exact h.2.look t v e

def InR : IntKind → Int → Prop
 | .i64, x => -9223372036854775808 ≤ x ∧ x ≤ 9223372036854775807
 | .u64, x => 0 ≤ x ∧ x ≤ 18446744073709551615
 | .i32, x => -2147483648 ≤ x ∧ x ≤ 2147483647
 | .u32, x => 0 ≤ x ∧ x ≤ 4294967295
 | .u8, x => 0 ≤ x ∧ x ≤ 255
 | .i8, x => -128 ≤ x ∧ x ≤ 127
 | .u16, x => 0 ≤ x ∧ x ≤ 65535
 | .i16, x => -32768 ≤ x ∧ x ≤ 32767

theorem wrap_in {k : IntKind} {x : Int} (h : InR k x) : k.wrap x = x := by
 cases k <;> simp only [InR] at h
 ·exact IntWalk.i8_in x h
 ·exact IntWalk.i16_in x h
 ·exact IntWalk.i32_in x h
 ·exact IntWalk.i64_in x h
 ·exact IntWalk.u8_in x h
 ·exact IntWalk.u16_in x h
 ·exact IntWalk.u32_in x h
 ·exact IntWalk.u64_in x h

def str (l : List UInt8) : Value := .string ⟨⟨l⟩⟩

structure Tab where
 u : TypeId → Option TypeDesc
 sz : TypeId → Option Nat
 inf : TypeId → Option (Nat × Nat × Value)
 fo : TypeId → Nat → Option Nat
 fl : TypeId → Nat → Option Nat
 bd : TypeId → Option (List (Nat × Nat) × List Value)

def plainD : TypeDesc → Bool
 | .struct _ | .array .. => false
 | _ => true

structure Tys (P : Program) where
 tb : Tab
 hu : ∀ t d, tb.u t = some d → P.underlying t = some d
 hs : ∀ t s, tb.sz t = some s → ∃ i, P.info? t = some i ∧ i.size = s
 hi : ∀ t s b z, tb.inf t = some (s, b, z) → ∃ i, P.info? t = some i ∧ i.size = s ∧ i.bytes = b ∧ i.zero = some z
 hf : ∀ t f off, tb.fo t f = some off → ∃ fs fd i, P.underlying t = some (.struct fs) ∧ fs[f]? = some fd ∧ fd.offset = off ∧ P.info? fd.type = some i ∧ i.size ≠ 0
 hl : ∀ t f off, tb.fl t f = some off → ∃ fs fd d, P.underlying t = some (.struct fs) ∧ fs[f]? = some fd ∧ fd.offset = off ∧ P.underlying fd.type = some d ∧ plainD d = true
 hb : ∀ t pl z, tb.bd t = some (pl, z) → ∃ it zz fs, P.info? t = some it ∧ it.zero = some zz ∧ zz.cells = ⟨z⟩ ∧ P.underlying t = some (.struct fs) ∧ fs.toList.mapM (fun f => (P.info? f.type).map fun i => (f.offset, i.size)) = some pl

def one1 : Value → Bool
 | .agg _ => false
 | _ => true
theorem one1_cells {v : Value} (h : one1 v = true) : v.cells = #[v] := by cases v <;> first | rfl | cases h

def buildL (l : Fr) (pl : List (Nat × Nat)) : List Value → List (Nat × Operand) → Option (List Value)
 | z, [] => some z
 | z, (i, x) :: r => match pl[i]? with
  | some (off, 1) => match ev l x with
   | some v => match one1 v with
    | true => match Nat.blt off z.length with
     | true => buildL l pl (z.set off v) r
     | false => none
    | false => none
   | none => none
  | _ => none

def sadd (a : Option Addr) (c l sz : Nat) : Option Addr := if c = l then a else a.map (·.add (l * sz))

def pure1 (tb : Tab) (l : Fr) : Op → Option (Value × List Prop)
 | .move x | .assign x => match ev l x with | some v => some (v, []) | none => none
 | .pick c a b => match ev l c with
  | some (.bool true) => match ev l a with | some v => some (v, []) | none => none
  | some (.bool false) => match ev l b with | some v => some (v, []) | none => none
  | _ => none
 | .binOp op t x y _ => match ev l x with
  | some (.int k m) => match ev l y with
   | some (.int k' n) => match decide (k = k') with
    | false => none
    | true => match op with
     | .add => some (.int k (m + n), [InR k (m + n)])
     | .sub => some (.int k (m - n), [InR k (m - n)])
     | .mul => some (.int k (m * n), [InR k (m * n)])
     | .quo => some (.int k (m / n), [InR k (m / n), 0 ≤ m, 0 < n])
     | .rem => some (.int k (m % n), [0 ≤ m, 0 < n])
     | _ => none
   | _ => none
  | some (.string ⟨⟨m⟩⟩) => match ev l y with
   | some (.string ⟨⟨n⟩⟩) => match op with
    | .add => some (str (m ++ n), [m.length + n.length ≤ 9223372036854775807])
    | _ => none
   | _ => none
  | some (.bool a) => match ev l y with
   | some (.bool b) => match tb.u t with
    | some .bool => match op with
     | .eql => some (.bool (a == b), [])
     | .neq => some (.bool (a != b), [])
     | _ => none
    | _ => none
   | _ => none
  | _ => none
 | .unOp op _ x => match ev l x with
  | some (.bool true) => match op with | .not => some (.bool false, []) | _ => none
  | some (.bool false) => match op with | .not => some (.bool true, []) | _ => none
  | some (.int k n) => match op with | .neg => some (.int k (0 - n), [InR k (0 - n)]) | _ => none
  | _ => none
 | .convert s d x => match tb.u s with
  | none => none
  | some _ => match tb.u d with
   | some (.int k) => match ev l x with
    | some (.int _ n) => some (.int k n, [InR k n])
    | _ => none
   | some .string => match ev l x with
    | some (.string b) => some (.string b, [])
    | _ => none
   | _ => none
 | .nilCheck x => match ev l x with
  | some (.pointer (some a)) => some (.pointer (some a), [])
  | some (.func (.func f) b c) => some (.func (.func f) b c, [])
  | _ => none
 | .makeFunc f p c => match p.toList.mapM (ev l) with
  | some vs => match c.toList.mapM (ev l) with
   | some ws => some (.func f vs.toArray ws.toArray, [])
   | none => none
  | none => none
 | .extract x i => match ev l x with
  | some (.tuple ⟨vs⟩) => match vs[i]? with
   | some v => some (v, [])
   | none => none
  | _ => none
 | .fieldAddr s x f => match tb.fo s f with
  | some off => match ev l x with
   | some (.pointer (some a)) => some (.pointer (some (a.add off)), [])
   | _ => none
  | none => none
 | .field t x f => match tb.fl t f with
  | some off => match ev l x with
   | some (.agg ⟨cs⟩) => match cs[off]? with
    | some v => some (v, [])
    | none => none
   | _ => none
  | none => none
 | .build t ⟨ps⟩ => match tb.bd t with
  | some (pl, z) => match buildL l pl z ps with
   | some cs => some (.agg ⟨cs⟩, [])
   | none => none
  | none => none
 | .slice t x lo hi none => match tb.u t with
  | some (.slice e) => match tb.sz e with
   | some s => match ev l x with
    | some (.slice a n c) => match lo with
     | none => match hi with
      | none => some (.slice a n c, [])
      | some hi => match ev l hi with
       | some (.int _ h) => some (.slice a h.toNat c, [0 ≤ h, h ≤ c])
       | _ => none
     | some lo => match ev l lo with
      | some (.int _ o) => match hi with
       | none => some (.slice (sadd a c o.toNat s) (n - o.toNat) (c - o.toNat), [0 ≤ o, o ≤ n])
       | some hi => match ev l hi with
        | some (.int _ h) => some (.slice (sadd a c o.toNat s) (h.toNat - o.toNat) (c - o.toNat), [0 ≤ o, o ≤ h, h ≤ c])
        | _ => none
      | _ => none
    | _ => none
   | none => none
  | some .string => match ev l x with
   | some (.string ⟨⟨b⟩⟩) => match lo with
    | none => match hi with
     | none => some (str b, [])
     | some hi => match ev l hi with
      | some (.int _ h) => some (str (b.take h.toNat), [0 ≤ h, h ≤ b.length])
      | _ => none
    | some lo => match ev l lo with
     | some (.int _ o) => match hi with
      | none => some (str (b.drop o.toNat), [0 ≤ o, o ≤ b.length])
      | some hi => match ev l hi with
       | some (.int _ h) => some (str ((b.take h.toNat).drop o.toNat), [0 ≤ o, o ≤ h, h ≤ b.length])
       | _ => none
     | _ => none
   | _ => none
  | _ => none
 | .index t x i => match tb.u t with
  | some .string => match ev l x with
   | some (.string ⟨⟨b⟩⟩) => match ev l i with
    | some (.int _ j) => some (.int .u8 (b.getD j.toNat 0).toNat, [0 ≤ j, j < b.length])
    | _ => none
   | _ => none
  | _ => none
 | .call ⟨.builtin .len, ⟨[x]⟩, ⟨[t]⟩⟩ => match ev l x with
  | some (.slice _ n _) => match tb.u t with
   | some (.slice _) => some (.int .i64 n, [])
   | _ => none
  | some (.string ⟨⟨b⟩⟩) => match tb.u t with
   | some .string => some (.int .i64 b.length, [])
   | _ => none
  | _ => none
 | .call ⟨.builtin .max, ⟨[x, y]⟩, _⟩ => match ev l x with
  | some (.int k m) => match ev l y with
   | some (.int k' n) => match decide (k = k') with
    | true => some (.int k (max m n), [])
    | false => none
   | _ => none
  | _ => none
 | .call ⟨.builtin .min, ⟨[x, y]⟩, _⟩ => match ev l x with
  | some (.int k m) => match ev l y with
   | some (.int k' n) => match decide (k = k') with
    | true => some (.int k (min m n), [])
    | false => none
   | _ => none
  | _ => none
 | _ => none

def AllP : List Prop → Prop
 | [] => True
 | p :: r => p ∧ AllP r

theorem AllP.append : ∀ {a b : List Prop}, AllP (a ++ b) → AllP a ∧ AllP b
 | [], _, h => ⟨trivial, h⟩
 | _ :: _, _, h => ⟨⟨h.1, (AllP.append h.2).1⟩, (AllP.append h.2).2⟩

theorem mapM_ev {n : Nat} {ds : List Deferred} {l : Fr} {a : Act} (h : Fit n ds l a) : ∀ {xs : List Operand} {vs : List Value}, xs.mapM (ev l) = some vs → xs.map a.eval = vs
 | [], vs, e => by simp at e; simp [← e]
 | x :: xs, vs, e => by
  simp only [List.mapM_cons, Option.pure_def, Option.bind_eq_bind, Option.bind_eq_some_iff] at e
  obtain ⟨v, hv, ws, hw, e⟩ := e
  simp at e
  subst e
  simp [h.ev hv, mapM_ev h hw]

theorem run_under {P : Program} {t : TypeId} {d : TypeDesc} (h : P.underlying t = some d) (w : World) : (underlying t).run P w = .ok d w := run_underlying h w

theorem maxI (m n : Int) : (if n > m then n else m) = max m n := by rw [Int.max_def]; split <;> split <;> omega
theorem minI (m n : Int) : (if n < m then n else m) = min m n := by rw [Int.min_def]; split <;> split <;> omega

theorem buildL_fill {n : Nat} {ds : List Deferred} {l : Fr} {a : Act} (h : Fit n ds l a) (pl : List (Nat × Nat)) : ∀ {ps : List (Nat × Operand)} {z cs : List Value}, buildL l pl z ps = some cs →
  Instr.fill (pl.toArray[·]?) ⟨z⟩ (ps.map fun (i, x) => (i, a.eval x)) = some ⟨cs⟩
 | [], z, cs, e => by simp only [buildL, Option.some.injEq] at e; subst e; rfl
 | (i, x) :: r, z, cs, e => by
  simp only [buildL] at e
  split at e
  ·rename_i off hp
   split at e
   ·rename_i v hv
    split at e
    ·rename_i h1
     split at e
     ·rename_i hb
      have hlt : off < z.length := by simpa using hb
      have hc := one1_cells h1
      have ih := buildL_fill h pl e
      have hp' : pl.toArray[i]? = some (off, 1) := by simpa using hp
      have hg : ¬ off + 1 > z.length := by omega
      simp only [List.map_cons, Instr.fill, hp', h.ev hv, hc]
      simpa [hg] using ih
     ·simp at e
    ·simp at e
   ·simp at e
  ·simp at e

theorem pure1_sound {P : Program} (T : Tys P) {n : Nat} {ds : List Deferred} {l : Fr} {a : Act} (h : Fit n ds l a) {o : Oper} {v : Value} {ps : List Prop}
  (e : pure1 T.tb l o.op = some (v, ps)) (hp : AllP ps) (w : World) : (execOp a.eval o).run P w = .ok (.value v) w := by
 obtain ⟨dst, op, type, pos, after, guard⟩ := o
 dsimp only at e
 cases op with
 | move x => simp only [pure1] at e; split at e <;> simp at e; rename_i u hu; obtain ⟨rfl, rfl⟩ := e; simp [execOp, h.ev hu]
 | assign x => simp only [pure1] at e; split at e <;> simp at e; rename_i u hu; obtain ⟨rfl, rfl⟩ := e; simp [execOp, h.ev hu]
 | pick c x y =>
  simp only [pure1] at e
  split at e
  ·rename_i hc; split at e <;> simp at e; rename_i u hu; obtain ⟨rfl, rfl⟩ := e; simp [execOp, h.ev hu, h.ev hc, asBool]
  ·rename_i hc; split at e <;> simp at e; rename_i u hu; obtain ⟨rfl, rfl⟩ := e; simp [execOp, h.ev hu, h.ev hc, asBool]
  ·simp at e
 | binOp op t x y t' =>
  simp only [pure1] at e
  split at e
  ·rename_i k m hx
   split at e
   ·rename_i k' q hy
    split at e
    ·simp at e
    ·rename_i hk
     have hk : k = k' := by simpa using hk
     subst hk
     split at e <;> simp only [Option.some.injEq, Prod.mk.injEq, reduceCtorEq] at e
     ·obtain ⟨rfl, rfl⟩ := e; simp [execOp, h.ev hx, h.ev hy, eqGuard, binOp, Op.intArith, wrap_in hp.1]
     ·obtain ⟨rfl, rfl⟩ := e; simp [execOp, h.ev hx, h.ev hy, eqGuard, binOp, Op.intArith, wrap_in hp.1]
     ·obtain ⟨rfl, rfl⟩ := e; simp [execOp, h.ev hx, h.ev hy, eqGuard, binOp, Op.intArith, wrap_in hp.1]
     ·obtain ⟨rfl, rfl⟩ := e
      obtain ⟨h1, h2, h3, _⟩ := hp
      have h4 : ¬ q = 0 := by omega
      simp [execOp, h.ev hx, h.ev hy, eqGuard, binOp, Op.intDiv, h4, Int.tdiv_eq_ediv_of_nonneg h2, wrap_in h1]
     ·obtain ⟨rfl, rfl⟩ := e
      obtain ⟨h2, h3, _⟩ := hp
      have h4 : ¬ q = 0 := by omega
      simp [execOp, h.ev hx, h.ev hy, eqGuard, binOp, Op.intDiv, h4, Int.tmod_eq_emod_of_nonneg h2]
   ·simp at e
  ·rename_i m hx
   split at e
   ·rename_i q hy
    split at e <;> simp only [Option.some.injEq, Prod.mk.injEq, reduceCtorEq] at e
    obtain ⟨rfl, rfl⟩ := e
    have h1 := hp.1
    have h5 : ¬ (((ByteArray.mk ⟨m⟩).size + (ByteArray.mk ⟨q⟩).size : Nat) : Int) > IntKind.i64.max := by
     have : IntKind.i64.max = 9223372036854775807 := by decide
     rw [this]; simp [ByteArray.size]; omega
    have h6 : (ByteArray.mk ⟨m⟩) ++ (ByteArray.mk ⟨q⟩) = ⟨⟨m ++ q⟩⟩ := by
     apply ByteArray.ext; simp
    simp only [execOp, h.ev hx, h.ev hy, eqGuard, binOp, Op.stringOp, h5, if_false, h6, str]
    rfl
   ·simp at e
  ·rename_i m hx
   split at e
   ·rename_i q hy
    split at e
    ·rename_i ht
     have h1 := run_equal_bool (P := P) w t m q (T.hu _ _ ht)
     split at e <;> simp only [Option.some.injEq, Prod.mk.injEq, reduceCtorEq] at e
     ·obtain ⟨rfl, rfl⟩ := e; simp [execOp, h.ev hx, h.ev hy, eqGuard, binOp, h1]
     ·obtain ⟨rfl, rfl⟩ := e; simp [execOp, h.ev hx, h.ev hy, eqGuard, binOp, h1, bne]
    ·simp at e
   ·simp at e
  ·simp at e
 | unOp op t x =>
  simp only [pure1] at e
  split at e
  ·rename_i hx; split at e <;> simp at e; obtain ⟨rfl, rfl⟩ := e; simp [execOp, h.ev hx, Op.unary]
  ·rename_i hx; split at e <;> simp at e; obtain ⟨rfl, rfl⟩ := e; simp [execOp, h.ev hx, Op.unary]
  ·rename_i k m hx; split at e <;> simp at e; obtain ⟨rfl, rfl⟩ := e
   simp [execOp, h.ev hx, Op.unary, Op.intArith, wrap_in hp.1]
  ·simp at e
 | convert s d x =>
  simp only [pure1] at e
  split at e
  ·simp at e
  ·rename_i ds' hs
   split at e
   ·rename_i k hd
    split at e
    ·rename_i k' m hx
     simp at e; obtain ⟨rfl, rfl⟩ := e
     simp [execOp, h.ev hx, convert, run_under (T.hu _ _ hs), run_under (T.hu _ _ hd), Conv.intToInt, wrap_in hp.1]
    ·simp at e
   ·rename_i hd
    split at e
    ·rename_i b hx
     simp at e; obtain ⟨rfl, rfl⟩ := e
     simp [execOp, h.ev hx, convert, run_under (T.hu _ _ hs), run_under (T.hu _ _ hd)]
    ·simp at e
   ·simp at e
 | nilCheck x =>
  simp only [pure1] at e
  split at e
  ·rename_i b hx; simp at e; obtain ⟨rfl, rfl⟩ := e; simp [execOp, h.ev hx]
  ·rename_i f b c hx; simp at e; obtain ⟨rfl, rfl⟩ := e; simp [execOp, h.ev hx]
  ·simp at e
 | makeFunc f p c =>
  simp only [pure1] at e
  split at e
  ·rename_i vs hv
   split at e
   ·rename_i ws hw
    simp at e; obtain ⟨rfl, rfl⟩ := e
    have h1 := mapM_ev h hv
    have h2 := mapM_ev h hw
    have h3 : p.map a.eval = vs.toArray := by apply Array.toList_inj.1; simpa using h1
    have h4 : c.map a.eval = ws.toArray := by apply Array.toList_inj.1; simpa using h2
    simp [execOp, Instr.makeFunc, h3, h4]
   ·simp at e
  ·simp at e
 | extract x i =>
  simp only [pure1] at e
  split at e
  ·rename_i vs hx
   split at e
   ·rename_i u hu
    simp at e; obtain ⟨rfl, rfl⟩ := e
    simp [execOp, h.ev hx, Instr.extract, hu]
   ·simp at e
  ·simp at e
 | fieldAddr s x f =>
  simp only [pure1] at e
  split at e
  ·rename_i off hf
   split at e
   ·rename_i b hx
    simp at e; obtain ⟨rfl, rfl⟩ := e
    obtain ⟨fs, fd, i, h1, h2, h3, h4, h5⟩ := T.hf _ _ _ hf
    simp [execOp, h.ev hx, Instr.fieldAt, run_under h1, h2, Instr.sureAddr, fieldPlace, sizeOf, typeInfo, program, h4, h5, h3, Sem.run]
   ·simp at e
  ·simp at e
 | slice t x lo hi mx =>
  cases mx with
  | some m => simp [pure1] at e
  | none =>
   simp only [pure1] at e
   split at e
   ·rename_i el ht
    split at e
    ·rename_i s hs
     obtain ⟨i, hi0, hz'⟩ := T.hs _ _ hs
     split at e
     ·rename_i b q c hx
      cases lo with
      | none =>
       cases hi with
       | none =>
        simp at e; obtain ⟨rfl, rfl⟩ := e
        have hadd : (if c = 0 then b else Option.map (fun a : Addr => a.add 0) b) = b := by
         split
         ·rfl
         ·cases b <;> simp [Addr.add]
        simp [execOp, h.ev hx, Instr.sliceAt, Instr.slice, run_under (T.hu _ _ ht), Instr.sliceBounds, sizeOf, typeInfo, program, hi0, Sem.run, hadd]
       | some hi =>
        simp only at e
        split at e
        ·rename_i ki hh hy
         simp at e; obtain ⟨rfl, rfl⟩ := e
         obtain ⟨h1, h2, _⟩ := hp
         have hadd : (if c = 0 then b else Option.map (fun a : Addr => a.add 0) b) = b := by
          split
          ·rfl
          ·cases b <;> simp [Addr.add]
         simp [execOp, h.ev hx, h.ev hy, Instr.sliceAt, Instr.slice, run_under (T.hu _ _ ht), Instr.sliceBounds, Instr.sliceBound, asIntOf, sizeOf, typeInfo, program, hi0, Sem.run, hadd, h1, h2]
        ·simp at e
      | some lo =>
       simp only at e
       split at e
       ·rename_i ko oo ho
        cases hi with
        | none =>
         simp at e; obtain ⟨rfl, rfl⟩ := e
         obtain ⟨h1, h2, _⟩ := hp
         simp [execOp, h.ev hx, h.ev ho, Instr.sliceAt, Instr.slice, run_under (T.hu _ _ ht), Instr.sliceBounds, Instr.sliceBound, asIntOf, sizeOf, typeInfo, program, hi0, hz', Sem.run, h1, h2, sadd]
        | some hi =>
         simp only at e
         split at e
         ·rename_i ki hh hy
          simp at e; obtain ⟨rfl, rfl⟩ := e
          obtain ⟨h1, h2, h3, _⟩ := hp
          have h4 : 0 ≤ hh := by omega
          have h5 : oo ≤ max hh 0 := by omega
          simp [execOp, h.ev hx, h.ev ho, h.ev hy, Instr.sliceAt, Instr.slice, run_under (T.hu _ _ ht), Instr.sliceBounds, Instr.sliceBound, asIntOf, sizeOf, typeInfo, program, hi0, hz', Sem.run, h1, h3, h4, h5, sadd]
         ·simp at e
       ·simp at e
     ·simp at e
    ·simp at e
   ·rename_i ht
    split at e
    ·rename_i b hx
     have hsz : (ByteArray.mk ⟨b⟩).size = b.length := rfl
     have hex : ∀ x y : Nat, x ≤ y → y ≤ b.length → (ByteArray.mk ⟨b⟩).extract x y = ⟨⟨(b.take y).drop x⟩⟩ := by
      intro x y _ _
      apply ByteArray.ext
      apply Array.toList_inj.1
      simp [List.extract_eq_take_drop, List.drop_take]
     cases lo with
     | none =>
      cases hi with
      | none =>
       simp at e; obtain ⟨rfl, rfl⟩ := e
       simp [execOp, h.ev hx, Instr.sliceAt, Instr.slice, run_under (T.hu _ _ ht), Instr.sliceBounds, str]
      | some hi =>
       simp only at e
       split at e
       ·rename_i ki hh hy
        simp at e; obtain ⟨rfl, rfl⟩ := e
        obtain ⟨h1, h2, _⟩ := hp
        simp [execOp, h.ev hx, h.ev hy, Instr.sliceAt, Instr.slice, run_under (T.hu _ _ ht), Instr.sliceBounds, Instr.sliceBound, asIntOf, hsz, h1, h2, hex 0 hh.toNat (by omega) (by omega), str]
       ·simp at e
     | some lo =>
      simp only at e
      split at e
      ·rename_i ko oo ho
       cases hi with
       | none =>
        simp at e; obtain ⟨rfl, rfl⟩ := e
        obtain ⟨h1, h2, _⟩ := hp
        simp [execOp, h.ev hx, h.ev ho, Instr.sliceAt, Instr.slice, run_under (T.hu _ _ ht), Instr.sliceBounds, Instr.sliceBound, asIntOf, hsz, h1, h2, hex oo.toNat b.length (by omega) (by omega), str]
       | some hi =>
        simp only at e
        split at e
        ·rename_i ki hh hy
         simp at e; obtain ⟨rfl, rfl⟩ := e
         obtain ⟨h1, h2, h3, _⟩ := hp
         have h4 : 0 ≤ hh := by omega
         have h5 : oo ≤ max hh 0 := by omega
         simp [execOp, h.ev hx, h.ev ho, h.ev hy, Instr.sliceAt, Instr.slice, run_under (T.hu _ _ ht), Instr.sliceBounds, Instr.sliceBound, asIntOf, hsz, h1, h3, h4, h5, hex oo.toNat hh.toNat (by omega) (by omega), str]
        ·simp at e
      ·simp at e
    ·simp at e
   ·simp at e
 | field t x f =>
  simp only [pure1] at e
  split at e
  ·rename_i off ht
   split at e
   ·rename_i cs hx
    split at e
    ·rename_i v hv
     simp at e; obtain ⟨rfl, rfl⟩ := e
     obtain ⟨fs, fd, d, h1, h2, h3, h4, h5⟩ := T.hl _ _ _ ht
     have hagg : (isAgg fd.type).run P w = .ok false w := by
      simp only [isAgg, Sem.run_bind, run_under h4, Result.andThen]
      cases d <;> first | rfl | cases h5
     have hv' : (⟨cs⟩ : Array Value)[fd.offset]? = some v := by rw [h3]; simpa using hv
     have hpart : (part fd.type ⟨cs⟩ fd.offset).run P w = .ok v w := by
      simp only [part, Sem.run_bind, hagg, Result.andThen, hv']; rfl
     simp [execOp, h.ev hx, Instr.field, run_under h1, h2, asAgg, hpart]
    ·simp at e
   ·simp at e
  ·simp at e
 | build t ps =>
  obtain ⟨ps⟩ := ps
  simp only [pure1] at e
  split at e
  ·rename_i pl z ht
   split at e
   ·rename_i cs hb
    simp at e; obtain ⟨rfl, rfl⟩ := e
    obtain ⟨it, zz, fs, h1, h2, h3, h4, h5⟩ := T.hb _ _ _ ht
    have hfill := buildL_fill h pl hb
    have hrun := run_build (P := P) w t (ps.map fun (i, x) => (i, a.eval x)).toArray ⟨cs⟩ (by
     simp only [Program.built, h1, h4, h2, h5, h3]
     exact hfill)
    simp only [execOp, List.map_toArray] at hrun ⊢
    simp [hrun]
   ·simp at e
  ·simp at e
 | index t x i =>
  simp only [pure1] at e
  split at e
  ·rename_i ht
   split at e
   ·rename_i b hx
    split at e
    ·rename_i k j hj
     simp at e; obtain ⟨rfl, rfl⟩ := e
     obtain ⟨h1, h2, _⟩ := hp
     have h3 : j.toNat < b.length := by omega
     have hget : (ByteArray.mk ⟨b⟩)[j.toNat]? = some b[j.toNat] := by
      have hlt : j.toNat < (ByteArray.mk ⟨b⟩).size := h3
      exact getElem?_pos (ByteArray.mk ⟨b⟩) j.toNat hlt
     simp [execOp, h.ev hx, h.ev hj, Instr.index, run_under (T.hu _ _ ht), asIntOf, h1, hget, h3]
    ·simp at e
   ·simp at e
  ·simp at e
 | call c =>
  obtain ⟨callee, args, argTypes⟩ := c
  cases callee with
  | builtin b =>
   obtain ⟨args⟩ := args
   obtain ⟨argTypes⟩ := argTypes
   cases b with
   | len =>
    match args, argTypes with
    | [x], [t] =>
     simp only [pure1] at e
     split at e
     ·rename_i b q c hx
      split at e <;> simp at e
      rename_i ht; obtain ⟨rfl, rfl⟩ := e
      simp [execOp, resolve, invoke, builtin, Builtin.len_, h.ev hx, run_under (T.hu _ _ ht), goInt]
     ·rename_i b hx
      split at e <;> simp at e
      rename_i ht; obtain ⟨rfl, rfl⟩ := e
      simp [execOp, resolve, invoke, builtin, Builtin.len_, h.ev hx, run_under (T.hu _ _ ht), goInt]
      rfl
     ·simp at e
    | [], _ => simp [pure1] at e
    | [_], [] => simp [pure1] at e
    | [_], _ :: _ :: _ => simp [pure1] at e
    | _ :: _ :: _, _ => simp [pure1] at e
   | max =>
    match args with
    | [x, y] =>
     simp only [pure1] at e
     split at e
     ·rename_i k m hx
      split at e
      ·rename_i k' q hy
       split at e
       ·rename_i hk
        simp at e; obtain ⟨rfl, rfl⟩ := e
        simp [execOp, resolve, invoke, builtin, Builtin.max_, Builtin.max2, h.ev hx, h.ev hy]
        exact maxI m q
       ·simp at e
      ·simp at e
     ·simp at e
    | [] => simp [pure1] at e
    | [_] => simp [pure1] at e
    | _ :: _ :: _ :: _ => simp [pure1] at e
   | min =>
    match args with
    | [x, y] =>
     simp only [pure1] at e
     split at e
     ·rename_i k m hx
      split at e
      ·rename_i k' q hy
       split at e
       ·rename_i hk
        simp at e; obtain ⟨rfl, rfl⟩ := e
        simp [execOp, resolve, invoke, builtin, Builtin.min_, Builtin.min2, h.ev hx, h.ev hy]
        exact minI m q
       ·simp at e
      ·simp at e
     ·simp at e
    | [] => simp [pure1] at e
    | [_] => simp [pure1] at e
    | _ :: _ :: _ :: _ => simp [pure1] at e
   | _ => simp [pure1] at e
  | _ => simp [pure1] at e
 | _ => simp [pure1] at e

def FW (ro : Option Nat) : Fence := { fn := fun _ => True, depth := none, alive := false, round := ro }
theorem FW_wide : FW none = Fence.wide := rfl

abbrev PT := Exit → Act → World → Prop

inductive It where
 | c (c : Code)
 | blk (id : Nat)
 | inv (J : Act → World → Prop)

inductive Hd where
 | code (c : Code)
 | ops (arr : Array Oper) (rest : List Oper)
 | nrm
 | exi (id : Nat)

def KQ (P : Program) (ro : Option Nat) : List It → PT → PT
 | [], Q => Q
 | .c y :: k, Q => Exit.then (y.wpIn (FW ro) 0 P (KQ P ro k Q)) (KQ P ro k Q)
 | .blk id :: k, Q => Exit.inBlock id (KQ P ro k Q)
 | .inv J :: k, Q => Exit.then J (KQ P ro k Q)

def TT (P : Program) (ro : Option Nat) (k : List It) (Q : PT) : Hd → Act → World → Prop
 | .code c => c.wpIn (FW ro) 0 P (KQ P ro k Q)
 | .ops arr rest => wpListIn (FW ro) 0 P arr (KQ P ro k Q) rest
 | .nrm => KQ P ro k Q .normal
 | .exi id => KQ P ro k Q (.exit id)

def T (P : Program) (ro : Option Nat) (n : Nat) (ds : List Deferred) (Q : PT) (l : Fr) (w : World) (h : Hd) (k : List It) : Prop :=
 ∀ a, Fit n ds l a → TT P ro k Q h a w

theorem uponIn_value {ro : Option Nat} {P : Program} {o : Oper} {a : Act} {w : World} {K : Act → World → Prop} {Q : PT} {v : Value} {w' : World}
  (hd : ∀ c, o.op ≠ .defer c) (h : (execOp a.eval o).run P w = .ok (.value v) w') (k : K (a.put o.dst v) w') : o.wpIn (FW ro) 0 P a w K Q := by
 refine ⟨fun _ _ => trivial, ?_⟩
 rw [Oper.semAt_eq _ _ _ hd]
 show o.uponIn (FW ro) 0 P a K Q ((execOp a.eval o).run P w)
 rw [h]; exact k

def gd (arr : Array Oper) (l : Fr) : Option (Nat × Bool) → Option Bool
 | none => some true
 | some (j, b) => match arr[j]? with
  | some o => match o.dst with
   | some d => match look l d with
    | some (.bool true) => some b
    | some (.bool false) => some (!b)
    | some (.tuple _) => some false
    | _ => none
   | none => none
  | none => none

theorem gd_wanted {n : Nat} {ds : List Deferred} {l : Fr} {a : Act} (h : Fit n ds l a) {arr : Array Oper} {o : Oper} {b : Bool} (e : gd arr l o.guard = some b) :
  Region.wanted o (yielded arr a.tmps) = b := by
 unfold Region.wanted
 cases hg : o.guard with
 | none => rw [hg] at e; simp [gd] at e; simpa using e
 | some p =>
  obtain ⟨j, c⟩ := p
  rw [hg] at e
  simp only [gd] at e
  split at e
  ·rename_i o' ho
   split at e
   ·rename_i d hd
    dsimp only
    have hy : ∀ v, a.tmps[d]? = some v → yielded arr a.tmps j = match (some v : Option Value) with | some (.bool b) => some b | _ => none := by
     intro v hv
     simp only [yielded, ho, hd, Option.bind_some]
     rw [show a.tmps[d]? = some v from hv]
     cases v <;> rfl
    split at e
    ·rename_i hv; rw [hy _ (h.rd _ _ hv)]; simp at e; subst e; simp
    ·rename_i hv; rw [hy _ (h.rd _ _ hv)]; simp at e; subst e; simp
    ·rename_i hv; rw [hy _ (h.rd _ _ hv)]; simp at e; subst e; simp
    ·simp at e
   ·simp at e
  ·simp at e

def put1 (n : Nat) (l : Fr) (d : Option Nat) (v : Value) : Option Fr :=
 match d with
 | some d => match Nat.blt d n with
  | true => some ((d, v) :: l)
  | false => none
 | none => some l

theorem Fit.put1 {n : Nat} {ds : List Deferred} {l l' : Fr} {a : Act} {d : Option Nat} {v : Value} (h : Fit n ds l a) (e : put1 n l d v = some l') : Fit n ds l' (a.put d v) := by
 cases d with
 | none => simp [YtejlpdbiacmfcaaGreatDoor.put1] at e; subst e; exact h
 | some d =>
  simp only [YtejlpdbiacmfcaaGreatDoor.put1] at e
  split at e
  ·rename_i hd; simp at e; subst e; exact h.put (by simpa using hd) v
  ·simp at e

theorem not_defer_of_pure1 {tb : Tab} {l : Fr} {op : Op} {r : Value × List Prop} (e : pure1 tb l op = some r) : ∀ c, op ≠ .defer c := by
 intro c hc; subst hc; simp [pure1] at e

def drive (tb : Tab) (n : Nat) : Nat → Hd → List It → Fr → List Prop → Hd × List It × Fr × List Prop
 | 0, h, k, l, ps => (h, k, l, ps)
 | f + 1, h, k, l, ps => match h with
  | .code c => match c with
   | .skip => drive tb n f .nrm k l ps
   | .seq x y => drive tb n f (.code x) (.c y :: k) l ps
   | .block id b => drive tb n f (.code b) (.blk id :: k) l ps
   | .region _ arr false => drive tb n f (.ops arr arr.toList) k l ps
   | .cond c x y => match ev l c with
    | some (.bool true) => drive tb n f (.code x) k l ps
    | some (.bool false) => drive tb n f (.code y) k l ps
    | _ => (h, k, l, ps)
   | .exit id => drive tb n f (.exi id) k l ps
   | _ => (h, k, l, ps)
  | .ops _ [] => drive tb n f .nrm k l ps
  | .ops arr (o :: r) => match gd arr l o.guard with
   | some true => match pure1 tb l o.op with
    | some (v, p) => match put1 n l o.dst v with
     | some l' => match p with
      | [] => drive tb n f (.ops arr r) k l' ps
      | q :: qs => drive tb n f (.ops arr r) k l' (q :: (qs ++ ps))
     | none => (h, k, l, ps)
    | none => (h, k, l, ps)
   | some false => match put1 n l o.dst undef with
    | some l' => drive tb n f (.ops arr r) k l' ps
    | none => (h, k, l, ps)
   | none => (h, k, l, ps)
  | .nrm => match k with
   | .c y :: k' => drive tb n f (.code y) k' l ps
   | .blk _ :: k' => drive tb n f .nrm k' l ps
   | _ => (h, k, l, ps)
  | .exi id => match k with
   | .c _ :: k' => drive tb n f (.exi id) k' l ps
   | .inv _ :: k' => drive tb n f (.exi id) k' l ps
   | .blk id' :: k' => match Nat.beq id id' with
    | true => drive tb n f .nrm k' l ps
    | false => drive tb n f (.exi id) k' l ps
   | [] => (h, k, l, ps)

theorem drive_sound {P : Program} (U : Tys P) {ro : Option Nat} {n : Nat} {ds : List Deferred} {Q : PT} {w : World} :
  ∀ (f : Nat) {h h' : Hd} {k k' : List It} {l l' : Fr} {ps ps' : List Prop}, drive U.tb n f h k l ps = (h', k', l', ps') →
   AllP ps' → (T P ro n ds Q l' w h' k' → T P ro n ds Q l w h k) ∧ AllP ps := by
 intro f
 induction f with
 | zero => intro h h' k k' l l' ps ps' e hp; simp only [drive, Prod.mk.injEq] at e; obtain ⟨rfl, rfl, rfl, rfl⟩ := e; exact ⟨id, hp⟩
 | succ f ih =>
  intro h h' k k' l l' ps ps' e hp
  have stop : (h, k, l, ps) = (h', k', l', ps') → (T P ro n ds Q l' w h' k' → T P ro n ds Q l w h k) ∧ AllP ps := by
   intro e; simp only [Prod.mk.injEq] at e; obtain ⟨rfl, rfl, rfl, rfl⟩ := e; exact ⟨id, hp⟩
  unfold drive at e
  split at e
  ·rename_i c
   split at e
   ·obtain ⟨h1, h2⟩ := ih e hp
    exact ⟨fun t a hf => wpIn_skip (h1 t a hf), h2⟩
   ·obtain ⟨h1, h2⟩ := ih e hp
    exact ⟨fun t a hf => wpIn_seq (h1 t a hf), h2⟩
   ·obtain ⟨h1, h2⟩ := ih e hp
    exact ⟨fun t a hf => wpIn_block (h1 t a hf), h2⟩
   ·obtain ⟨h1, h2⟩ := ih e hp
    exact ⟨fun t a hf => wpIn_region_list (h1 t a hf), h2⟩
   ·split at e
    ·rename_i hc
     obtain ⟨h1, h2⟩ := ih e hp
     exact ⟨fun t a hf => wpIn_cond_true (hf.ev hc) (h1 t a hf), h2⟩
    ·rename_i hc
     obtain ⟨h1, h2⟩ := ih e hp
     exact ⟨fun t a hf => wpIn_cond_false (hf.ev hc) (h1 t a hf), h2⟩
    ·exact stop e
   ·obtain ⟨h1, h2⟩ := ih e hp
    exact ⟨fun t a hf => wpIn_exit (h1 t a hf), h2⟩
   ·exact stop e
  ·obtain ⟨h1, h2⟩ := ih e hp
   exact ⟨fun t a hf => by
    show wpListIn _ _ _ _ _ _ _ _
    exact h1 t a hf, h2⟩
  ·rename_i arr o r
   split at e
   ·rename_i hg
    split at e
    ·rename_i v p hv
     split at e
     ·rename_i l1 hl
      have key : (T P ro n ds Q l' w h' k' → T P ro n ds Q l1 w (.ops arr r) k) → AllP p → AllP ps → (T P ro n ds Q l' w h' k' → T P ro n ds Q l w (.ops arr (o :: r)) k) ∧ AllP ps := by
       intro h1 h3 h4
       refine ⟨fun t a hf => ?_, h4⟩
       show wpListIn _ _ _ _ _ _ _ _
       unfold wpListIn
       rw [gd_wanted hf hg, if_pos rfl]
       exact uponIn_value (not_defer_of_pure1 hv) (pure1_sound U hf hv h3 w) (h1 t _ (hf.put1 hl))
      split at e
      ·obtain ⟨h1, h2⟩ := ih e hp
       exact key h1 trivial h2
      ·obtain ⟨h1, h2⟩ := ih e hp
       obtain ⟨h3, h4⟩ := AllP.append (a := _ :: _) h2
       exact key h1 h3 h4
     ·exact stop e
    ·exact stop e
   ·rename_i hg
    split at e
    ·rename_i l1 hl
     obtain ⟨h1, h2⟩ := ih e hp
     refine ⟨fun t a hf => ?_, h2⟩
     show wpListIn _ _ _ _ _ _ _ _
     unfold wpListIn
     rw [gd_wanted hf hg, if_neg (by simp)]
     exact ⟨fun _ _ => trivial, h1 t _ (hf.put1 hl)⟩
    ·exact stop e
   ·exact stop e
  ·split at e
   ·obtain ⟨h1, h2⟩ := ih e hp
    exact ⟨fun t a hf => h1 t a hf, h2⟩
   ·obtain ⟨h1, h2⟩ := ih e hp
    exact ⟨fun t a hf => h1 t a hf, h2⟩
   ·exact stop e
  ·rename_i id
   split at e
   ·obtain ⟨h1, h2⟩ := ih e hp
    exact ⟨fun t a hf => h1 t a hf, h2⟩
   ·obtain ⟨h1, h2⟩ := ih e hp
    exact ⟨fun t a hf => h1 t a hf, h2⟩
   ·rename_i id' k''
    split at e
    ·rename_i hb
     obtain rfl := Nat.eq_of_beq_eq_true hb
     obtain ⟨h1, h2⟩ := ih e hp
     refine ⟨fun t a hf => ?_, h2⟩
     show Exit.inBlock id (KQ P ro k'' Q) (.exit id) a w
     simp only [Exit.inBlock, if_true]
     exact h1 t a hf
    ·rename_i hb
     have hne : ¬ id = id' := fun he => by subst he; rw [Nat.beq_refl] at hb; cases hb
     obtain ⟨h1, h2⟩ := ih e hp
     refine ⟨fun t a hf => ?_, h2⟩
     show Exit.inBlock id' (KQ P ro k'' Q) (.exit id) a w
     simp only [Exit.inBlock, hne, if_false]
     exact h1 t a hf
   ·exact stop e

theorem dr {P : Program} (U : Tys P) (f : Nat) {ro : Option Nat} {n : Nat} {ds : List Deferred} {Q : PT} {w : World} {h h' : Hd} {k k' : List It} {l l' : Fr} {ps : List Prop}
  (e : drive U.tb n f h k l [] = (h', k', l', ps)) (hp : AllP ps) (t : T P ro n ds Q l' w h' k') : T P ro n ds Q l w h k :=
 (drive_sound U f e hp).1 t
end Go.Proofs.YtejlpdbiacmfcaaGreatDoor
