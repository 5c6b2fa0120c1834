/-
  More rules of the engine: stores through a pointer into an owned row, and stores into a written-out block by index.
  No conditions: each theorem names its own premises.
  Walks of slices.Backward and its iterator, and of cmp.Compare.
  No conditions but the ones each theorem names.
  Walks of cmp.Compare and of package limbs: Cmp, small.
  Conditions: the numbers take fewer than 2^40 limbs; small divides by a number below the base that is not 0.
  Walk of package limbs: small, which divides by a number below the base.
  Conditions: fewer than 2^40 limbs; the divisor is below the base and not 0.
-/
import Derived.Test.YtejlpdbiacmfcaaGreatDoorYDrw
import Derived.Test.YtejlpdbiacmfcaaGreatDoorYLmC
set_option linter.unusedSimpArgs false
set_option linter.unusedVariables false
namespace Go.Proofs.YtejlpdbiacmfcaaGreatDoor
section
open Go.RowKit

theorem Bk.sl {w : World} {g t : Nat} {cs : List Value} (h : Bk w g t cs) (off : Nat) : Sl w (some ⟨g, off, none⟩) (cs.drop off) := fun j v hv =>
 ⟨g, off, rfl, h.cell (by simpa using hv)⟩

theorem own_bk {w : World} {base e : Nat} {a : Option Addr} {m c : Nat} {cs : List Value} (h : w.ownsRow base e 1 (.slice a m c) m cs) (hm : 0 < m) :
  ∃ g cur, a = some ⟨g, 0, none⟩ ∧ base ≤ g ∧ Bk w g e cur ∧ cur.take m = cs ∧ cur.length = c ∧ m ≤ c := by
 have hl := own_len h
 rcases h.2 with ⟨h1, h2⟩ | ⟨g, cap, cur, h1, h2, h3, h4, h5, h6, h7⟩
 ·omega
 ·simp at h1; obtain ⟨rfl, rfl⟩ := h1
  refine ⟨g, cur.toList, rfl, h2, h3, ?_, ?_, h4⟩
  ·rw [← h7]; simp
  ·simpa using h6
theorem own_mono {w : World} {base base' e s : Nat} {a : Option Addr} {m c : Nat} {cs : List Value} (h : w.ownsRow base e s (.slice a m c) m cs) (hb : base' ≤ base) : w.ownsRow base' e s (.slice a m c) m cs := by
 refine ⟨h.1, ?_⟩
 rcases h.2 with h1 | ⟨g, cap, cur, h1, h2, h3⟩
 ·exact .inl h1
 ·exact .inr ⟨g, cap, cur, h1, Nat.le_trans hb h2, h3⟩
section
variable {P : Program} (U : Tys P) {ro : Option Nat} {n : Nat} {ds : List Deferred} {Q : PT} {l l' : Fr} {w w' : World} {arr : Array Oper} {r : List Oper} {k : List It}

theorem d3 {C : World → Prop} {last f : Nat} {listed : Array Bool} {K : Act → World → Prop} (t : TA P ro n ds arr C last K f listed l w) : T P ro n ds Q l w .nrm [.inv (fun a w' => anyC P ro arr C last K f listed a w')] :=
 fun a hf => t a hf

theorem sx {d : Option Nat} {t ty : TypeId} {x y : Operand} {ps : String} {af : Array Edge} {g : Option (Nat × Bool)} {v : Value} {b bt : Nat} {p : Addr} {cs : List Value}
  (hx : ev l x = some (.pointer (some p))) (hy : ev l y = some v) (hs : U.tb.sz t = some 1) (hg : gd arr l g = some true) (hl : put1 n l d undef = some l')
  (hvs : v.cells = #[v]) (h1 : v.oneCell' = true) (j : Nat) (hp : p = ⟨b, j, none⟩) (hj : j < cs.length) (hb : Bk w b bt cs)
  (t' : ∀ w1, Bk w1 b bt (cs.set j v) → w.grownBy w1 (some b) → w1.heap.size = w.heap.size → T P ro n ds Q l' w1 (.ops arr r) k) :
  T P ro n ds Q l w (.ops arr (⟨d, .store t x y, ty, ps, af, g⟩ :: r)) k := by
 subst hp
 obtain ⟨i, hi, hz⟩ := U.hs _ _ hs
 have hrun := run_storeCells_at P b j bt [v] 0 ⟨cs⟩ w hb (by simp; omega) (fun u hu => by simp at hu; subst hu; exact h1)
 have hset : (List.take (j + 0) cs ++ [v] ++ List.drop (j + 0 + [v].length) cs) = cs.set j v := by
  rw [List.set_eq_take_append_cons_drop, if_pos hj]; simp
 rw [hset] at hrun
 try simp only [Nat.add_zero] at hrun
 refine op0 (w' := w.setRow b (cs.set j v).toArray) (by intro c h; cases h) hg hl (fun a hf => ?_) (t' _ (by rw [Bk, setRow_heap w b ⟨cs⟩ _ bt (0, 0) hb]) (grownBy_setRow _ _ _) (by simp [World.setRow]))
 simp only [execOp, hf.ev hx, hf.ev hy, Instr.storeAt, Instr.sureAddr, storeVar, sizeOf, typeInfo, program]
 simp [Sem.run, hi, hz, hvs, hrun]

theorem ix {x1 : Nat} {d2 : Option Nat} {t e t2 ty ty2 : TypeId} {x i y : Operand} {ps ps2 : String} {af af2 : Array Edge} {g1 g2 : Option (Nat × Bool)} {b off m c bt : Nat} {ki : IntKind} {iv : Int} {cs : List Value} {v : Value} {lp : Value → Fr}
  (hx : ev l x = some (.slice (some ⟨b, off, none⟩) m c)) (hi : ev l i = some (.int ki iv)) (ht : U.tb.u t = some (.slice e)) (hz : U.tb.sz e = some 1) (h2 : U.tb.sz t2 = some 1)
  (hg1 : gd arr l g1 = some true) (hx1 : Nat.blt x1 n = true) (hg2 : ∀ p, gd arr ((x1, p) :: l) g2 = some true) (hy : ∀ p, ev ((x1, p) :: l) y = some v) (hl : ∀ p, put1 n ((x1, p) :: l) d2 undef = some (lp p))
  (hvc : v.cells = #[v]) (h1 : v.oneCell' = true)
  (j : Nat) (hj : iv = (j : Int)) (hm : j < m) (hlt : off + j < cs.length) (hb : Bk w b bt cs)
  (t' : ∀ p w1, Bk w1 b bt (cs.set (off + j) v) → w.grownBy w1 (some b) → w1.heap.size = w.heap.size → T P ro n ds Q (lp p) w1 (.ops arr r) k) :
  T P ro n ds Q l w (.ops arr (⟨some x1, .indexAddr t x i, ty, ps, af, g1⟩ :: ⟨d2, .store t2 (.tmp x1) y, ty2, ps2, af2, g2⟩ :: r)) k := by
 subst hj
 refine op1 (w' := w) (v := .pointer (some ⟨b, off + j, none⟩)) (by intro c h; cases h) hg1 (put1_some hx1) (fun a hf => ?_) ?_
 ·have := run_index U ht hz ⟨b, off, none⟩ m c j ki hm w
  simp [execOp, hf.ev hx, hf.ev hi, this, add_plain]
 ·exact sx U (by simp [ev, look_cons]) (hy _) h2 (hg2 _) (hl _) hvc h1 _ rfl hlt hb (t' _)

theorem bs1 {d1 : Nat} {t e ty : TypeId} {x : Operand} {ps : String} {af : Array Edge} {g1 : Option (Nat × Bool)} {v z : Value} {by_ : Nat}
  (hx : ev l x = some v) (ht : U.tb.u t = some (.slice e)) (hi : U.tb.inf e = some (1, by_, z)) (hzc : z.cells.size = 1) (hg1 : gd arr l g1 = some true) (hd1 : Nat.blt d1 n = true) (hv : v.cells = #[v])
  (t' : ∀ w1, Bk w1 w.heap.size e [v] → w1.heap.size = w.heap.size + 1 → w.grownBy w1 none → T P ro n ds Q ((d1, .slice (some ⟨w.heap.size, 0, none⟩) 1 1) :: l) w1 (.ops arr r) k) :
  T P ro n ds Q l w (.ops arr (⟨some d1, .buildSlice t 1 #[(0, x)], ty, ps, af, g1⟩ :: r)) k := by
 obtain ⟨i, hi0, hz1, hz2, hz3⟩ := U.hi _ _ _ _ hi
 have hpt := U.hu _ _ ht
 refine op1 (w' := w.alloc (.cells #[v] e)) (v := .slice (some ⟨w.heap.size, 0, none⟩) 1 1) (by intro c h; cases h) hg1 (put1_some hd1) (fun a hf => ?_) (t' _ (heap_alloc_new w _) (by simp) (World.grownBy_alloc w _ none))
 simp only [execOp, Instr.buildSlice]
 simp [hf.ev hx, run_under hpt, sizeOf, typeInfo, program, Sem.run, hi0, hz1, zeroValue, hz3, Instr.fill, hv, newRow, newObj]
 rw [show (Array.map (fun x => z.cells[x % z.cells.size]!) (Array.range 1)).setIfInBounds 0 v = #[v] from by apply Array.toList_inj.1; simp [List.range_succ]]

theorem so {d : Option Nat} {t ty : TypeId} {x y : Operand} {ps : String} {af : Array Edge} {gg : Option (Nat × Bool)} {v : Value} {g : Nat} {p : Addr} {base e m c : Nat} {cs : List Value}
  (hx : ev l x = some (.pointer (some p))) (hy : ev l y = some v) (hs : U.tb.sz t = some 1) (hg : gd arr l gg = some true) (hl : put1 n l d undef = some l')
  (hvs : v.cells = #[v]) (h1 : v.oneCell' = true) (j : Nat) (hp : p = ⟨g, j, none⟩) (hj : j < m) (ho : w.ownsRow base e 1 (.slice (some ⟨g, 0, none⟩) m c) m cs)
  (t' : ∀ w1, w1.ownsRow base e 1 (.slice (some ⟨g, 0, none⟩) m c) m (cs.set j v) → w.grownBy w1 (some g) → w1.heap.size = w.heap.size → T P ro n ds Q l' w1 (.ops arr r) k) :
  T P ro n ds Q l w (.ops arr (⟨d, .store t x y, ty, ps, af, gg⟩ :: r)) k := by
 subst hp
 obtain ⟨cur, hg2, hlt, ho1⟩ := own_set ho j hj v
 obtain ⟨i, hi, hz⟩ := U.hs _ _ hs
 have hrun := run_storeCells_at P g j e [v] 0 cur w hg2 (by simp; omega) (fun u hu => by simp at hu; subst hu; exact h1)
 have hset : (List.take (j + 0) cur.toList ++ [v] ++ List.drop (j + 0 + [v].length) cur.toList) = cur.toList.set j v := by
  rw [List.set_eq_take_append_cons_drop, if_pos (by simpa using hlt)]; simp
 rw [hset] at hrun
 try simp only [Nat.add_zero] at hrun
 refine op0 (w' := w.setRow g (cur.toList.set j v).toArray) (by intro c h; cases h) hg hl (fun a hf => ?_) (t' _ ho1 (grownBy_setRow _ _ _) (by simp [World.setRow]))
 simp only [execOp, hf.ev hx, hf.ev hy, Instr.storeAt, Instr.sureAddr, storeVar, sizeOf, typeInfo, program]
 simp [Sem.run, hi, hz, hvs, hrun]
end
end
section
open Go Go.Proofs Go.RowKit

theorem l2 {k : IntKind} {x y : Int} {v : Value} (h : x = y) : [Value.int k x, v] = [Value.int k y, v] := by rw [h]

theorem back_calls (a : Option Addr) (m c : Nat) (w : World) : Calls Tryz.prog 123 #[.slice a m c] w
  (Ret fun v w' => v = .func (.func 156) ⟨[]⟩ ⟨[.pointer (some ⟨w.heap.size, 0, none⟩)]⟩ ∧ w'.heap.size = w.heap.size + 1 ∧ Bk w' w.heap.size 74 [.slice a m c] ∧ w.grownBy w' none) := by
 refine enter Tryz.func123 rfl Tryz.ntmps123 (Nat.le_of_ble_eq_true rfl) ?_
 refine dT rfl ?_
 refine bx rfl rfl rfl rfl ?_
 rintro b w1 rfl hs hb hg
 refine dT rfl ?_
 refine ret Tryz.results123 rfl ⟨_, rfl, rfl, hs, hb, hg⟩

theorem back_seq (a : Option Addr) (m c b : Nat) (okv : Nat → Value → Prop) (G : World → Prop) (hm : m ≤ 1099511627776)
  (hG : ∀ w, G w → Bk w b 74 [.slice a m c] ∧ ∃ vs, Sl w a vs ∧ vs.length = m ∧ ∀ i v, vs[i]? = some v → okv i v) :
  SeqN Tryz.prog 156 [.pointer (some ⟨b, 0, none⟩)] m (fun k vs => ∃ v, vs = [.int .i64 ((m - 1 - k : Nat) : Int), v] ∧ okv (m - 1 - k) v) G := by
 intro L J Jx W hY h0 hg0
 refine enter Tryz.func156 rfl Tryz.ntmps156 (Nat.le_of_ble_eq_true rfl) ?_
 refine dT rfl ?_
 refine ld U rfl rfl rfl rfl ((hG _ hg0).1.cell rfl) ?_
 refine dS rfl ?_
 refine loopR (fun l w' j => ∃ k, l = [(0, .func (.yield L) ⟨[]⟩ ⟨[]⟩), (1, .pointer (some ⟨b, 0, none⟩)), (3, .int .i64 ((j : Int) - 1))] ∧ k + j = m ∧ J k w' ∧ G w') (m0 := m) ⟨0, rfl, by omega, h0, hg0⟩ ⟨rfl, rfl, rfl, trivial⟩ ?_
 rintro l w' j ⟨k, rfl, hk, hJ, hg⟩
 refine dT rfl ?_
 refine cS rfl rfl rfl rfl (fun hq => ?_) (fun hq => ?_)
 ·obtain ⟨j, rfl⟩ : ∃ i, j = i + 1 := ⟨j - 1, by omega⟩
  obtain ⟨hb, vs, hsl, hlen, hok⟩ := hG _ hg
  have hj : j < vs.length := by omega
  refine dT rfl ?_
  refine ld U rfl rfl rfl rfl (hb.cell rfl) ?_
  refine dT rfl ?_
  refine il U rfl rfl rfl rfl rfl rfl rfl (fun _ => rfl) rfl j (by omega) (by omega) hsl (List.getElem?_eq_getElem hj) ?_
  refine dT rfl ?_
  refine yld rfl rfl (hY k w' _ (by omega) hJ hg ⟨vs[j], l2 (by omega), ?_⟩) ?_
  ·exact hok _ _ (by rw [show m - 1 - k = j by omega]; exact List.getElem?_eq_getElem hj)
  rintro bb w1 ⟨h1, h2⟩
  refine ⟨_, rfl, ?_⟩
  cases bb with
  | true =>
   obtain ⟨hJ1, hg1⟩ := h1 rfl
   refine dS rfl ?_
   exact rend _ j ⟨k + 1, rfl, by omega, hJ1, hg1⟩ (by omega) ⟨rfl, rfl, iv (by omega), trivial⟩
  | false =>
   refine dT rfl ?_
   exact ret Tryz.results156 rfl ⟨_, rfl, .inr (h2 rfl)⟩
 ·obtain rfl : j = 0 := by omega
  obtain rfl : k = m := by omega
  refine dT rfl ?_
  exact retN Tryz.results156 rfl ⟨_, rfl, .inl hJ⟩
end
section
open Go Go.Proofs Go.RowKit

def cmpI (a b : Int) : Int := if a < b then -1 else if b < a then 1 else 0
def cmpN (m n : Nat) : Int := if m < n then -1 else if n < m then 1 else 0


theorem isNaN_int_calls (a : Int) (w : World) : Calls Tryz.prog 155 #[.int .i64 a] w (Ret fun v w' => v = .bool false ∧ w = w') := by
 refine enter Tryz.func155 rfl Tryz.ntmps155 (Nat.le_of_ble_eq_true rfl) ?_
 refine dT rfl ?_
 refine cF rfl rfl rfl (fun h => h rfl) ?_
 refine dT rfl ?_
 exact ret Tryz.results155 rfl ⟨_, rfl, rfl, rfl⟩
theorem isNaN_uint64_calls (a : Int) (w : World) : Calls Tryz.prog 157 #[.int .u64 a] w (Ret fun v w' => v = .bool false ∧ w = w') := by
 refine enter Tryz.func157 rfl Tryz.ntmps157 (Nat.le_of_ble_eq_true rfl) ?_
 refine dT rfl ?_
 refine cF rfl rfl rfl (fun h => h rfl) ?_
 refine dT rfl ?_
 exact ret Tryz.results157 rfl ⟨_, rfl, rfl, rfl⟩
theorem compare_int_calls (a b : Int) (w : World) : Calls Tryz.prog 122 #[.int .i64 a, .int .i64 b] w (Ret fun v w' => v = .int .i64 (cmpI a b) ∧ w = w') := by
 refine enter Tryz.func122 rfl Tryz.ntmps122 (Nat.le_of_ble_eq_true rfl) ?_
 refine dT rfl ?_
 refine call (f := 155) rfl rfl cb155 (isNaN_int_calls a w) ?_
 rintro v w1 ⟨rfl, rfl⟩
 refine ⟨_, rfl, ?_⟩
 refine dT rfl ?_
 refine call (f := 155) rfl rfl cb155 (isNaN_int_calls b w) ?_
 rintro v w1 ⟨rfl, rfl⟩
 refine ⟨_, rfl, ?_⟩
 refine dT rfl ?_
 refine cS rfl rfl rfl rfl (fun hq => ?_) (fun hq => ?_)
 ·refine dT rfl ?_
  refine ret Tryz.results122 rfl ⟨_, rfl, ?_, rfl⟩
  simp [cmpI, hq, pack]
 ·refine dT rfl ?_
  have hq1 := hq
  refine cS rfl rfl rfl rfl (fun hq => ?_) (fun hq => ?_)
  ·refine dT rfl ?_
   refine ret Tryz.results122 rfl ⟨_, rfl, ?_, rfl⟩
   simp only [cmpI]; rw [if_neg hq1, if_pos hq]; rfl
  ·refine dT rfl ?_
   have hq2 := hq1
   refine ret Tryz.results122 rfl ⟨_, rfl, ?_, rfl⟩
   simp only [cmpI]; rw [if_neg hq2, if_neg hq]; rfl
theorem compare_uint64_calls (a b : Int) (w : World) : Calls Tryz.prog 124 #[.int .u64 a, .int .u64 b] w (Ret fun v w' => v = .int .i64 (cmpI a b) ∧ w = w') := by
 refine enter Tryz.func124 rfl Tryz.ntmps124 (Nat.le_of_ble_eq_true rfl) ?_
 refine dT rfl ?_
 refine call (f := 157) rfl rfl cb157 (isNaN_uint64_calls a w) ?_
 rintro v w1 ⟨rfl, rfl⟩
 refine ⟨_, rfl, ?_⟩
 refine dT rfl ?_
 refine call (f := 157) rfl rfl cb157 (isNaN_uint64_calls b w) ?_
 rintro v w1 ⟨rfl, rfl⟩
 refine ⟨_, rfl, ?_⟩
 refine dT rfl ?_
 refine cS rfl rfl rfl rfl (fun hq => ?_) (fun hq => ?_)
 ·refine dT rfl ?_
  refine ret Tryz.results124 rfl ⟨_, rfl, ?_, rfl⟩
  simp [cmpI, hq, pack]
 ·refine dT rfl ?_
  have hq1 := hq
  refine cS rfl rfl rfl rfl (fun hq => ?_) (fun hq => ?_)
  ·refine dT rfl ?_
   refine ret Tryz.results124 rfl ⟨_, rfl, ?_, rfl⟩
   simp only [cmpI]; rw [if_neg hq1, if_pos hq]; rfl
  ·refine dT rfl ?_
   have hq2 := hq1
   refine ret Tryz.results124 rfl ⟨_, rfl, ?_, rfl⟩
   simp only [cmpI]; rw [if_neg hq2, if_neg hq]; rfl

theorem cmpI_nat (m n : Nat) : cmpI (m : Int) (n : Int) = cmpN m n := by
 unfold cmpI cmpN
 split <;> (try split) <;> (try split) <;> omega

theorem cmp_len {p q : Nat} (h : (lim p).length ≠ (lim q).length) : cmpN (lim p).length (lim q).length = cmpN p q := by
 rcases Nat.lt_or_ge p q with h1 | h1
 ·have := lim_len_mono (Nat.le_of_lt h1)
  unfold cmpN; rw [if_pos (by omega), if_pos h1]
 ·have := lim_len_mono h1
  have h2 : q ≠ p := by rintro rfl; exact h rfl
  unfold cmpN; rw [if_neg (by omega), if_pos (by omega), if_neg (by omega), if_pos (by omega)]

theorem split_at (xs : List Nat) (i : Nat) (h : i < xs.length) : xs = xs.take i ++ xs.getD i 0 :: xs.drop (i + 1) := by
 have := List.take_append_drop i xs
 rw [List.drop_eq_getElem_cons h] at this
 simp [List.getD, h]

theorem cmp_at {xs ys : List Nat} (hx : Lm xs) (hy : Lm ys) (hl : xs.length = ys.length) (i : Nat) (hi : i < xs.length) (hd : xs.drop (i + 1) = ys.drop (i + 1)) (hne : xs.getD i 0 ≠ ys.getD i 0) :
  cmpN (xs.getD i 0) (ys.getD i 0) = cmpN (val xs) (val ys) := by
 have h1 := split_at xs i hi
 have h2 := split_at ys i (by omega)
 have hlt : (xs.take i).length = (ys.take i).length := by simp; omega
 rcases Nat.lt_or_ge (xs.getD i 0) (ys.getD i 0) with h | h
 ·have := val_cmp_top (hx.take i) (hy.take i) hlt h (xs.drop (i + 1))
  rw [← h1, hd, ← h2] at this
  unfold cmpN; rw [if_pos h, if_pos this]
 ·have h' : ys.getD i 0 < xs.getD i 0 := by omega
  have := val_cmp_top (hy.take i) (hx.take i) hlt.symm h' (ys.drop (i + 1))
  rw [← h2, ← hd, ← h1] at this
  unfold cmpN; rw [if_neg (by omega), if_pos h', if_neg (by omega), if_pos this]

theorem cmp_self (n : Nat) : cmpN n n = 0 := by unfold cmpN; rw [if_neg (by omega), if_neg (by omega)]

theorem heap_bk {w w' : World} (h : w'.heap = w.heap) {b t : Nat} {cs : List Value} (hb : Bk w b t cs) : Bk w' b t cs := by unfold Bk at *; rw [h]; exact hb
theorem heap_sl {w w' : World} (h : w'.heap = w.heap) {a : Option Addr} {vs : List Value} (hb : Sl w a vs) : Sl w' a vs := fun j v hv => by
 obtain ⟨g, off, h1, h2⟩ := hb j v hv
 exact ⟨g, off, h1, cell_heap h h2⟩

theorem cmp_calls (p q : Nat) (a b : Option Addr) (c d : Nat) (w : World) (ha : Rd w a c (lim p)) (hb : Rd w b d (lim q)) (hpl : (lim p).length ≤ 1099511627776) (hql : (lim q).length ≤ 1099511627776) :
  Calls Tryz.prog 92 #[.slice a (lim p).length c, .slice b (lim q).length d] w (Ret fun v w' => v = .int .i64 (cmpN p q) ∧ Below w.heap.size w w') := by
 have hxl := lim_Lm p
 have hyl := lim_Lm q
 have hvp := val_lim p
 have hvq := val_lim q
 have hres1 := @cmp_len p q
 generalize hxs : lim p = xs at *
 generalize hys : lim q = ys at *
 refine enterM Tryz.func92 rfl Tryz.ntmps92 (Nat.le_of_ble_eq_true rfl) ?_
 refine dT rfl ?_
 refine bx rfl rfl rfl rfl ?_
 intro b2 w2 hb2 hs2 hk2 hg2
 refine bx rfl rfl rfl rfl ?_
 intro b3 w3 hb3 hs3 hk3 hg3
 refine al U rfl rfl rfl rfl ?_
 intro b4 w4 hb4 hs4 hk4 hg4
 have hk2 := (hk2.keep hg3 (by simp)).keep hg4 (by simp)
 have hk3 := hk3.keep hg4 (by simp)
 have hB4 : Below w.heap.size w w4 := (((Below.refl _ _).grown hg2 (Nat.le_refl _) (fun k e => by cases e)).grown hg3 (by omega) (fun k e => by cases e)).grown hg4 (by omega) (fun k e => by cases e)
 refine dT rfl ?_
 refine ld U rfl rfl rfl rfl ((hk2).cell rfl) ?_
 refine dT rfl ?_
 refine ld U rfl rfl rfl rfl ((hk3).cell rfl) ?_
 refine dT rfl ?_
 refine cS rfl rfl rfl rfl (fun hq => ?_) (fun hq => ?_)
 ·refine dT rfl ?_
  refine ld U rfl rfl rfl rfl ((hk2).cell rfl) ?_
  refine dT rfl ?_
  refine ld U rfl rfl rfl rfl ((hk3).cell rfl) ?_
  refine dT rfl ?_
  refine call (f := 122) rfl rfl cb122 (compare_int_calls _ _ w4) ?_
  rintro v w5 ⟨rfl, rfl⟩
  refine ⟨_, rfl, ?_⟩
  refine dT rfl ?_
  refine st U rfl rfl rfl rfl rfl rfl rfl rfl rfl rfl (hk4) ?_
  intro w5 hk5 hg5 hs5
  refine dT rfl ?_
  refine retM0 U Tryz.results92 (vs := [_]) ⟨⟨_, rfl, rfl, hk5.cell rfl⟩, trivial⟩ ⟨_, rfl, ?_, hB4.grown hg5 (by omega) (fun k e => by cases e; omega)⟩
  show Value.int .i64 (cmpI _ _) = _
  rw [cmpI_nat, hres1 (by omega)]
 ·have hl : xs.length = ys.length := by omega
  refine dT rfl ?_
  refine ld U rfl rfl rfl rfl ((hk2).cell rfl) ?_
  refine dT rfl ?_
  refine call (f := 123) rfl rfl cb123 (back_calls _ _ _ w4) ?_
  rintro v w5 ⟨rfl, hs5, hk5, hg5⟩
  refine ⟨_, rfl, ?_⟩
  refine dT rfl ?_
  have hk2 := hk2.keep hg5 (by simp)
  have hk3 := hk3.keep hg5 (by simp)
  have hk4 := hk4.keep hg5 (by simp)
  have hB5 := hB4.grown hg5 (by omega) (fun k e => by cases e)
  have ha5 := (ha.below hB5).1
  have hb5 := (hb.below hB5).1
  refine rng rfl cb156 rfl (back_seq a xs.length c w4.heap.size (fun _ _ => True) (fun w => Bk w w4.heap.size 74 [.slice a xs.length c] ∧ Sl w a (xs.map u64)) (by omega) (fun w h => ⟨h.1, _, h.2, by simp, fun _ _ _ => trivial⟩))
   (fun k vs h => by obtain ⟨v, rfl, _⟩ := h; rfl)
   (fun j W => xs.drop (xs.length - j) = ys.drop (xs.length - j) ∧ j ≤ xs.length ∧ Bk W b2 74 [.slice a xs.length c] ∧ Bk W b3 74 [.slice b ys.length d] ∧ Bk W b4 3 [.int .i64 0] ∧ Sl W b (ys.map u64) ∧ Below w.heap.size w W)
   (fun cd W => cd = .ret ∧ Bk W b4 3 [.int .i64 (cmpN p q)] ∧ Below w.heap.size w W)
   (fun j => (OwnB.pure _ _).and ((OwnB.pure _ _).and ((OwnB.bk _ _ _ _).and ((OwnB.bk _ _ _ _).and ((OwnB.bk _ _ _ _).and ((OwnB.sl _ _ _).and (OwnB.below _ (by omega) (Nat.le_refl _))))))))
   (fun cd => (OwnB.pure _ _).and ((OwnB.bk _ _ _ _).and (OwnB.below _ (by omega) (Nat.le_refl _))))
   ((OwnB.bk _ _ _ _).and (OwnB.sl _ _ _)) ⟨by simp [hl], by omega, hk2, hk3, hk4, hb5, hB5⟩ ⟨hk5, ha5⟩
   (fun vs => [(5, vs.headD undef), (2, .pointer (some ⟨b2, 0, none⟩)), (3, .pointer (some ⟨b3, 0, none⟩)), (4, .pointer (some ⟨b4, 0, none⟩))]) ?_ ?_ ?_ ?_
  ·rintro L j vs W ⟨v, rfl, _⟩
   refine dT rfl ?_
   exact asg ⟨rfl, rfl, rfl, rfl, trivial⟩
  ·rintro L j vs W hj ⟨v, rfl, _⟩ ⟨hd, hj2, hk2, hk3, hk4, hby, hB⟩ ⟨hk5, hax⟩ hsz
   have hi : xs.length - 1 - j < xs.length := by omega
   have hi2 : xs.length - 1 - j < ys.length := by omega
   rw [show xs.length - j = xs.length - 1 - j + 1 by omega] at hd
   have hcmp := cmp_at hxl hyl hl _ hi hd
   have hdn : xs.getD (xs.length - 1 - j) 0 = ys.getD (xs.length - 1 - j) 0 → xs.drop (xs.length - 1 - j) = ys.drop (xs.length - 1 - j) := fun e => by
    rw [List.drop_eq_getElem_cons hi, List.drop_eq_getElem_cons hi2, hd]
    simp [List.getD, hi, hi2] at e
    rw [e]
   generalize hii : xs.length - 1 - j = i at *
   obtain ⟨g1, o1, rfl, hc1⟩ := hax i _ (getU hi)
   obtain ⟨g2, o2, rfl, hc2⟩ := hby i _ (getU hi2)
   have hq2 := hk2.cell (off := 0) rfl
   have hq3 := hk3.cell (off := 0) rfl
   refine dT rfl ?_
   refine dwn 8 (fun w' => w'.heap = W.heap) hmo ?_
   intro w6 hh6 hg6
   refine dqS [0,1,2,3,4,5,6,7] [(0, .slice (some ⟨g1, o1, none⟩) xs.length c), (3, u64 (xs.getD i 0)), (4, .slice (some ⟨g2, o2, none⟩) ys.length d), (7, u64 (ys.getD i 0))] rfl rfl hh6 ?_
   refine d1 rfl rfl (fun _ => hh6) ?_
   refine cS rfl rfl rfl rfl (fun hq => ?_) (fun hq => ?_)
   ·refine d2 ?_; refine dend rfl (fun h => by cases h) ?_
    refine dT rfl ?_
    refine dwn 9 (fun w' => w'.heap = W.heap) hmo ?_
    intro w7 hh7 hg7
    have hh7 := hh7.trans hh6
    refine dqS [0,1,2,3,4,5,6,7] [(0, .slice (some ⟨g1, o1, none⟩) xs.length c), (3, u64 (xs.getD i 0)), (4, .slice (some ⟨g2, o2, none⟩) ys.length d), (7, u64 (ys.getD i 0))] rfl rfl hh7 ?_
    refine d1 rfl rfl (fun _ => hh7) ?_
    refine call (f := 124) rfl rfl cb124 (compare_uint64_calls _ _ w7) ?_
    rintro v w8 ⟨rfl, rfl⟩
    refine ⟨_, rfl, d2 ?_⟩
    refine d1 rfl rfl (fun _ => hh7) ?_
    have hk47 := heap_bk hh7 hk4
    refine st U rfl rfl rfl rfl rfl rfl rfl rfl rfl rfl (hk47) ?_
    intro w8 hk8 hg8 hs8
    refine d2 ?_; refine dend rfl (fun h => by cases h) ?_
    refine dT rfl ?_
    refine rndR ⟨ko_grown (ko_grown (ko_grown (KeepsOthers.refl W) hg6 (fun k e => by cases e)) hg7 (fun k e => by cases e)) hg8 (fun k e => by cases e; exact ⟨_, _, _, hk47⟩), rfl, ?_, ?_⟩
    ·rw [cmpI_nat, hcmp (by intro e; rw [e] at hq; exact hq rfl), hvp, hvq] at hk8
     exact hk8
    ·have hb4' : w.heap.size ≤ b4 := by omega
     exact ((hB.grown hg6 hB.size (fun k e => by cases e)).grown hg7 (by rw [hh6]; exact hB.size) (fun k e => by cases e)).grown hg8 (by rw [hh7]; exact hB.size) (fun k e => by cases e; exact hb4')
   ·refine d2 ?_; refine dend rfl (fun h => by cases h) ?_
    refine dT rfl ?_
    have hdd := hdn (by omega)
    refine rnd ⟨ko_grown (KeepsOthers.refl W) hg6 (fun k e => by cases e), ⟨by rw [show xs.length - (j + 1) = i by omega]; exact hdd, by omega, heap_bk hh6 hk2, heap_bk hh6 hk3, heap_bk hh6 hk4, heap_sl hh6 hby, hB.grown hg6 hB.size (fun k e => by cases e)⟩, heap_bk hh6 hk5, heap_sl hh6 hax⟩
  ·rintro D W hD ⟨hd, hj2, hk2, hk3, hk4, hby, hB⟩ hK
   refine dT rfl ?_
   refine st U rfl rfl rfl rfl rfl rfl rfl rfl rfl rfl (hk4) ?_
   intro w6 hk6 hg6 hs6
   refine dT rfl ?_
   have hK6 : w6.heap[D]? = some (.deferred (some [])) := by rw [hg6.block D (Array.getElem?_eq_some_iff.1 hK).1 (by intro e; cases e; omega)]; exact hK
   have hgp := grownBy_putObj' w6 D (.deferred none)
   refine retM1 U Tryz.results92 (vs := [_]) hK6 ⟨⟨_, rfl, rfl, (hk6.keep hgp (by simp; omega)).cell rfl⟩, trivial⟩ ⟨_, rfl, ?_, (hB.grown hg6 hB.size (fun k e => by cases e; omega)).grown hgp (by have := hB.size; omega) (fun k e => by cases e; omega)⟩
   simp at hd
   rw [← hvp, ← hvq, hd, cmp_self]; rfl
  ·rintro D cd W hD ⟨rfl, hk4, hB⟩ hK
   have hgp := grownBy_putObj' W D (.deferred none)
   refine retM1 U Tryz.results92 (vs := [_]) hK ⟨⟨_, rfl, rfl, (hk4.keep hgp (by simp; omega)).cell rfl⟩, trivial⟩ ⟨_, rfl, rfl, hB.grown hgp hB.size (fun k e => by cases e; omega)⟩
end
section
open Go Go.Proofs Go.RowKit

theorem small_set (i q : Nat) (qs : List Nat) : (List.replicate (i + 1) 0 ++ qs).set i q = List.replicate i 0 ++ (q :: qs) := by
 rw [List.replicate_succ', List.append_assoc]
 rw [List.set_append_right _ _ (by simp)]
 simp

theorem small_step {xs qs : List Nat} {i d r x : Nat} (hd : 0 < d) (hr : r < d) (hi : i < xs.length) (hx : xs.getD i 0 = x) (h : val (xs.drop (i + 1)) = val qs * d + r) :
  val (xs.drop i) = val ((r * 1000000000 + x) / d :: qs) * d + (r * 1000000000 + x) % d := by
 rw [List.drop_eq_getElem_cons hi, val_cons, h, val_cons]
 simp [List.getD, hi] at hx
 rw [hx, Nat.add_mul, Nat.add_right_comm, Nat.mul_comm ((r * 1000000000 + x) / d), Nat.div_add_mod, Nat.mul_add, Nat.mul_assoc]
 omega

theorem small_lt {d r x : Nat} (hd : 0 < d) (hr : r < d) (hx : x < 1000000000) : (r * 1000000000 + x) / d < 1000000000 := by
 rw [Nat.div_lt_iff_lt_mul hd]
 have : (r + 1) * 1000000000 ≤ d * 1000000000 := Nat.mul_le_mul_right _ hr
 omega

theorem small_calls (n d : Nat) (hd : 0 < d) (hdb : d < 1000000000) (a : Option Addr) (c : Nat) (w : World) (ha : Rd w a c (lim n)) (hl : (lim n).length ≤ 1099511627776) :
  Calls Tryz.prog 158 #[.slice a (lim n).length c, u64 d] w (Ret fun v w' => ∃ v1, v = .tuple ⟨[v1, u64 (n % d)]⟩ ∧ Own w w' v1 (lim (n / d))) := by
 have hxl := lim_Lm n
 have hvn := val_lim n
 generalize hxs : lim n = xs at *
 refine enterM Tryz.func158 rfl Tryz.ntmps158 (Nat.le_of_ble_eq_true rfl) ?_
 refine dT rfl ?_
 refine bx rfl rfl rfl rfl ?_
 intro b2 w2 hb2 hs2 hk2 hg2
 refine bx rfl rfl rfl rfl ?_
 intro b3 w3 hb3 hs3 hk3 hg3
 have hk2 := hk2.keep hg3 (by simp)
 have hB3 : Below w.heap.size w w3 := ((Below.refl _ _).grown hg2 (Nat.le_refl _) (fun k e => by cases e)).grown hg3 (by omega) (fun k e => by cases e)
 refine dT rfl ?_
 refine ld U rfl rfl rfl rfl ((hk2).cell rfl) ?_
 refine dT rfl ?_
 refine mkn U rfl rfl rfl rfl rfl rfl rfl xs.length rfl rfl (by omega) (by omega) w3.heap.size (Nat.le_refl _) ?_
 intro a0 w4 ho4 hg4
 rw [rep_u64] at ho4
 have hk2 := hk2.keep hg4 (by simp)
 have hk3 := hk3.keep hg4 (by simp)
 have hB4 := hB3.grown hg4 hB3.size (fun k e => by cases e)
 refine al U rfl rfl rfl rfl ?_
 intro b6 w6 hb6 hs6 hk6 hg6
 have hk2 := hk2.keep hg6 (by simp)
 have hk3 := hk3.keep hg6 (by simp)
 have ho6 := own_keep ho4 hg6 (by simp)
 have hB6 := hB4.grown hg6 hB4.size (fun k e => by cases e)
 refine al U rfl rfl rfl rfl ?_
 intro b7 w7 hb7 hs7 hk7 hg7
 have hk2 := hk2.keep hg7 (by simp)
 have hk3 := hk3.keep hg7 (by simp)
 have hk6 := hk6.keep hg7 (by simp)
 have ho7 := own_keep ho6 hg7 (by simp)
 have hB7 := hB6.grown hg7 hB6.size (fun k e => by cases e)
 have hz2 := hB3.size
 have hz4 := hB4.size
 have hsz4 : w3.heap.size ≤ w4.heap.size := hg4.size
 have hab : ∀ g, ab a0 = some g → g < b6 := fun g hg => by rw [hb6]; exact (own_block ho4 g hg).2
 refine st U rfl rfl rfl rfl rfl rfl rfl rfl rfl rfl (hk6) ?_
 intro w8 hk6 hg8 hs8
 have hne2 : b2 ≠ b6 := by omega
 have hk2 := hk2.keep hg8 (by simp; omega)
 have hk3 := hk3.keep hg8 (by simp; omega)
 have hk7 := hk7.keep hg8 (by simp; omega)
 have ho8 := own_keep ho7 hg8 (fun g hg => by have := hab g hg; simp; omega)
 have hB8 := hB7.grown hg8 hB7.size (fun k e => by cases e; omega)
 refine st U rfl rfl rfl rfl rfl rfl rfl rfl rfl rfl (hk7) ?_
 intro w9 hk7 hg9 hs9
 have hk2 := hk2.keep hg9 (by simp; omega)
 have hk3 := hk3.keep hg9 (by simp; omega)
 have hk6 := hk6.keep hg9 (by simp; omega)
 have ho9 := own_keep ho8 hg9 (fun g hg => by have := hab g hg; simp; omega)
 have hB9 := hB8.grown hg9 hB8.size (fun k e => by cases e; omega)
 refine dT rfl ?_
 refine ld U rfl rfl rfl rfl ((hk2).cell rfl) ?_
 refine dT rfl ?_
 refine call (f := 123) rfl rfl cb123 (back_calls _ _ _ w9) ?_
 rintro v w10 ⟨rfl, hs10, hk10, hg10⟩
 refine ⟨_, rfl, ?_⟩
 refine dT rfl ?_
 have hk2 := hk2.keep hg10 (by simp)
 have hk3 := hk3.keep hg10 (by simp)
 have hk6 := hk6.keep hg10 (by simp)
 have hk7 := hk7.keep hg10 (by simp)
 have ho10 := own_keep ho9 hg10 (by simp)
 have hB10 := hB9.grown hg10 hB9.size (fun k e => by cases e)
 have ha10 := (ha.below hB10).1
 refine rng rfl cb156 rfl (back_seq a xs.length c w9.heap.size (fun _ _ => True) (fun w => Bk w w9.heap.size 74 [.slice a xs.length c] ∧ Sl w a (xs.map u64)) (by omega) (fun w h => ⟨h.1, _, h.2, by simp, fun _ _ _ => trivial⟩))
  (fun k vs h => by obtain ⟨v, rfl, _⟩ := h; rfl)
  (fun j W => ∃ qs r, j ≤ xs.length ∧ qs.length = j ∧ Lm qs ∧ r < d ∧ val (xs.drop (xs.length - j)) = val qs * d + r ∧ Bk W b2 74 [.slice a xs.length c] ∧ Bk W b3 79 [u64 d] ∧ Bk W b6 74 [.slice a0 xs.length xs.length] ∧ Bk W b7 79 [u64 r] ∧
   W.ownsRow w3.heap.size 79 1 (.slice a0 xs.length xs.length) xs.length ((List.replicate (xs.length - j) 0 ++ qs).map u64) ∧ Below w.heap.size w W)
  (fun cd W => False)
  (fun j => OwnB.ex fun qs => OwnB.ex fun r => (OwnB.pure _ _).and ((OwnB.pure _ _).and ((OwnB.pure _ _).and ((OwnB.pure _ _).and ((OwnB.pure _ _).and ((OwnB.bk _ _ _ _).and ((OwnB.bk _ _ _ _).and ((OwnB.bk _ _ _ _).and ((OwnB.bk _ _ _ _).and ((OwnB.own _ _ _ _ _ _ _ _).and (OwnB.below _ hB10.size (Nat.le_refl _))))))))))))
  (fun cd => OwnB.pure _ _)
  ((OwnB.bk _ _ _ _).and (OwnB.sl _ _ _)) ⟨[], 0, by omega, rfl, Lm.nil, hd, by simp [val], hk2, hk3, hk6, hk7, by simpa using ho10, hB10⟩ ⟨hk10, ha10⟩
  (fun vs => [(8, vs.headD undef), (2, .pointer (some ⟨b2, 0, none⟩)), (3, .pointer (some ⟨b3, 0, none⟩)), (6, .pointer (some ⟨b6, 0, none⟩)), (7, .pointer (some ⟨b7, 0, none⟩))]) ?_ ?_ ?_ (fun _ _ _ _ h => h.elim)
 ·rintro L j vs W ⟨v, rfl, _⟩
  refine dT rfl ?_
  exact asg ⟨rfl, rfl, rfl, rfl, rfl, trivial⟩
 ·rintro L j vs W hj ⟨v, rfl, _⟩ ⟨qs, r, hj2, hql, hqm, hr, hv, hk2, hk3, hk6, hk7, ho, hB⟩ ⟨hk10, hax⟩ hsz
  have hi : xs.length - 1 - j < xs.length := by omega
  rw [show xs.length - j = xs.length - 1 - j + 1 by omega] at hv ho
  have hx1 := hxl.getD (xs.length - 1 - j)
  have hstep := small_step hd hr hi rfl hv
  have hji : xs.length - (j + 1) = xs.length - 1 - j := by omega
  generalize hii : xs.length - 1 - j = i at *
  obtain ⟨g1, o1, rfl, hc1⟩ := hax i _ (getU hi)
  generalize hxx : xs.getD i 0 = x at *
  have hq2 := hk2.cell (off := 0) rfl
  have hq3 := hk3.cell (off := 0) rfl
  have hq6 := hk6.cell (off := 0) rfl
  have hq7 := hk7.cell (off := 0) rfl
  refine dT rfl ?_
  refine dwn 7 (fun w' => w'.heap = W.heap) hmo ?_
  intro w11 hh hg11
  refine dqS [0,1,2,3,4,5,6] [(0, u64 r), (2, .slice (some ⟨g1, o1, none⟩) xs.length c), (5, u64 x)] rfl rfl hh ?_
  refine d1 rfl rfl (fun _ => hh) ?_
  refine dT rfl ?_
  refine d3 ?_; refine dend rfl (fun h => by cases h) ?_
  refine dT rfl ?_
  have hlt := small_lt hd hr hx1
  have hN : ((r : Int) * 1000000000 + x) = ((r * 1000000000 + x : Nat) : Int) := by omega
  have hQ : ((r : Int) * 1000000000 + x) / d = (((r * 1000000000 + x) / d : Nat) : Int) := by rw [hN]; rfl
  have hR : ((r : Int) * 1000000000 + x) % d = (((r * 1000000000 + x) % d : Nat) : Int) := by rw [hN]; rfl
  have hrlt : (r * 1000000000 + x) % d < d := Nat.mod_lt _ hd
  generalize hqq : (r * 1000000000 + x) / d = q at *
  generalize hrr : (r * 1000000000 + x) % d = r' at *
  obtain ⟨g0, cur, rfl, hgb, hgk, _, _, _⟩ := own_bk ho (by omega)
  have hg0 : g0 ≠ b2 ∧ g0 ≠ b3 ∧ g0 ≠ b6 ∧ g0 ≠ b7 := by
   have := hab g0 rfl
   have hg1 := (own_block ho4 g0 rfl).1
   omega
  refine dwn 10 (fun w' => w'.cell? ⟨b3, 0, none⟩ = some (u64 d) ∧ w'.cell? ⟨b6, 0, none⟩ = some (.slice (some ⟨g0, 0, none⟩) xs.length xs.length)) hmo ?_
  intro w12 hh2 hg12
  have hh2 := hh2.trans hh
  have hC12 : w12.cell? ⟨b3, 0, none⟩ = some (u64 d) ∧ w12.cell? ⟨b6, 0, none⟩ = some (.slice (some ⟨g0, 0, none⟩) xs.length xs.length) := ⟨cell_heap hh2 hq3, cell_heap hh2 hq6⟩
  refine dqS [0,1,2,3,4,5,6,7,8] [(0, .slice (some ⟨g0, 0, none⟩) xs.length xs.length), (3, u64 d), (6, u64 d)] rfl rfl hC12 ?_
  have ho12 := own_keep (own_keep ho hg11 (by simp)) hg12 (by simp)
  refine d1 rfl rfl (fun _ => hC12) ?_
  refine so U (v := (u64 q)) rfl (iv hQ) rfl rfl rfl rfl rfl i (by simp [add_plain]) hi ho12 ?_
  intro w13 ho13 hg13 hs13
  refine d2 ?_
  obtain ⟨hg02, hg03, hg06, hg07⟩ := hg0
  have hk2n := (heap_bk hh2 hk2).keep hg13 (by simpa using hg02)
  have hk3n := (heap_bk hh2 hk3).keep hg13 (by simpa using hg03)
  have hk6n := (heap_bk hh2 hk6).keep hg13 (by simpa using hg06)
  have hk7n := (heap_bk hh2 hk7).keep hg13 (by simpa using hg07)
  refine d1 rfl rfl (fun _ => ⟨hk3n.cell rfl, hk6n.cell rfl⟩) ?_
  refine st U (v := u64 r') rfl (iv hR) rfl rfl rfl rfl rfl rfl rfl rfl hk7n ?_
  intro w14 hk7m hg14 hs14
  refine d2 ?_; refine dend rfl (fun h => by cases h) ?_
  refine dT rfl ?_
  have hKO : KeepsOthers W w14 := ko_grown (ko_grown (ko_grown (ko_grown (KeepsOthers.refl W) hg11 (fun k e => by cases e)) hg12 (fun k e => by cases e)) hg13 (fun k e => by cases e; exact own_cells ho12 _ rfl)) hg14 (fun k e => by cases e; exact ⟨_, _, _, hk7n⟩)
  have hB12 := (hB.grown hg11 hB.size (fun k e => by cases e)).grown hg12 (by rw [hh]; exact hB.size) (fun k e => by cases e)
  have hB13 := hB12.grown hg13 hB12.size (fun k e => by cases e; have := (own_block ho4 g0 rfl).1; have := hB3.size; omega)
  have hB14 := hB13.grown hg14 hB13.size (fun k e => by cases e; omega)
  have hk10n := ((heap_bk hh2 hk10).keep hg13 (by have := hab g0 rfl; simp; omega)).keep hg14 (by simp; omega)
  refine rnd ⟨hKO, ⟨q :: qs, r', by omega, by simp [hql], Lm.cons hlt hqm, hrlt, by rw [hji]; exact hstep, hk2n.keep hg14 (by simp; omega), hk3n.keep hg14 (by simp; omega), hk6n.keep hg14 (by simp; omega), hk7m, ?_, hB14⟩, hk10n, ?_⟩
  ·rw [set_u64, small_set] at ho13
   rw [hji]
   exact own_keep ho13 hg14 (by simp [ab]; omega)
  ·exact ((heap_sl hh2 hax).keep hg13 (fun g hg => by have := (ha.2.2 g hg).lt; have := (own_block ho4 g0 rfl).1; have := hB3.size; simp; omega)).keep hg14 (fun g hg => by have := (ha.2.2 g hg).lt; simp; omega)
 ·rintro D W hD ⟨qs, r, hj2, hql, hqm, hr, hv, hk2, hk3, hk6, hk7, ho, hB⟩ hK
  refine dT rfl ?_
  rw [Nat.sub_self] at hv ho
  simp at hv ho
  rw [hvn] at hv
  have hnd : n / d = val qs ∧ n % d = r := by
   rw [hv]
   constructor
   ·rw [Nat.mul_comm, Nat.mul_add_div hd, Nat.div_eq_of_lt hr]; rfl
   ·rw [Nat.mul_comm, Nat.mul_add_mod, Nat.mod_eq_of_lt hr]
  have hq6 := hk6.cell (off := 0) rfl
  have hq7 := hk7.cell (off := 0) rfl
  refine dwn 4 (fun w' => w'.heap = W.heap) hmo ?_
  intro w11 hh hg11
  refine dqS [0,2] [(0, .slice a0 xs.length xs.length), (2, u64 r)] rfl rfl hh ?_
  refine d1 rfl rfl (fun _ => hh) ?_
  have ho11 := own_keep ho hg11 (by simp)
  refine call (f := 121) rfl rfl cb121 (trim_ownN xs.length qs hql a0 xs.length w3.heap.size w11 (by simpa using ho11) hqm (by omega)) ?_
  rintro v w12 ⟨rfl, rfl, ho12⟩
  refine ⟨_, rfl, d2 ?_⟩
  refine dqS [3] [] rfl rfl hh ?_
  refine d1 rfl rfl (fun _ => hh) ?_
  refine dT rfl ?_
  refine d3 ?_; refine dend rfl (fun h => by cases h) ?_
  refine dT rfl ?_
  have hK6 : w11.heap[D]? = some (.deferred (some [])) := by rw [hh]; exact hK
  have hgp := grownBy_putObj' w11 D (.deferred none)
  have hDne : ∀ g, ab a0 = some g → some D ≠ some g := fun g hg e => by
   cases e
   obtain ⟨_, _, _, hc⟩ := own_cells ho D hg
   rw [hc] at hK; cases hK
  have ho13 := (OwnB.own 0 _ _ _ _ _ _ _) w11 _ (some D) ho12 hgp (fun r e => by cases e; exact ⟨Nat.zero_le _, _, hK6, rfl⟩)
  have hB11 := hB.grown hg11 hB.size (fun k e => by cases e)
  refine retM1 U Tryz.results158 (vs := [_, _]) hK6 ⟨rfl, rfl, trivial⟩ ⟨_, rfl, _, by rw [hnd.2]; rfl, _, _, by rw [hnd.1], ?_, hB11.grown hgp hB11.size (fun k e => by cases e; have := hB10.size; omega)⟩
  rw [hnd.1]
  exact own_mono ho13 hB3.size
end
end Go.Proofs.YtejlpdbiacmfcaaGreatDoor
