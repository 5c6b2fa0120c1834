/-
  Walks of the laws NatPowers and NatCalls: they return true.
  Conditions: texts are no longer than an int can tell; the library's table of powers of ten is laid, and its error of range.

  Walk of the law NatInts: it returns true.
  Conditions: the library's table of powers of ten is laid, and its error of range.

  Walk of the law NatNames: it returns true.
  Conditions: the library's table of powers of ten is laid, and its error of range.
-/
import Derived.Test.YtabplbmbnakalaaGreatDoorYRng
import Derived.Test.YtabplbmbnakalaaGreatDoorYNatE
import Derived.Test.YtabplbmbnakalaaGreatDoorYSum
import Derived.Test.YtabplbmbnakalaaGreatDoorYPick
section
set_option linter.unusedSimpArgs false
set_option linter.unusedVariables false
set_option maxHeartbeats 2000000
namespace Go.Proofs.YtabplbmbnakalaaGreatDoor
open Go Go.Proofs Go.RowKit Go.Lib

theorem chk_uniq {x : List UInt8} {e e' : Int} (h : Chk x e) (h' : Chk x e') : e = e' := by
  rcases h with ⟨h1, h2, rfl⟩ | ⟨h1, h2, rfl⟩ | ⟨h1, rfl⟩ <;> rcases h' with ⟨h3, h4, rfl⟩ | ⟨h3, h4, rfl⟩ | ⟨h3, rfl⟩ <;> first | rfl | (exfalso; omega) | (exact absurd h1 h3) | (exact absurd h3 h1)
theorem chk2_uniq {x y : List UInt8} {e e' : Int} (h : Chk2 x y e) (h' : Chk2 x y e') : e = e' := by
  obtain ⟨a, b, h1, h2, rfl⟩ := h
  obtain ⟨c, d, h3, h4, rfl⟩ := h'
  rw [chk_uniq h1 h3, chk_uniq h2 h4]
def Tup2 (v : Value) : Prop := ∃ (s : List UInt8) (e : Int), v = .tuple ⟨[.string ⟨⟨s⟩⟩, .int .i64 e]⟩
def Tup3 (v : Value) : Prop := ∃ (s t : List UInt8) (e : Int), v = .tuple ⟨[.string ⟨⟨s⟩⟩, .string ⟨⟨t⟩⟩, .int .i64 e]⟩
def TupI (v : Value) : Prop := ∃ (s e : Int), v = .tuple ⟨[.int .i64 s, .int .i64 e]⟩
theorem Res.t2 {n : Nat} {v : Value} (h : Res n v) : Tup2 v := by
  rcases h with ⟨_, rfl⟩ | ⟨_, rfl⟩ <;> exact ⟨_, _, rfl⟩
theorem Res.uniq {n : Nat} {v v' : Value} (h : Res n v) (h' : Res n v') : v = v' := by
  rcases h with ⟨h1, rfl⟩ | ⟨h1, rfl⟩ <;> rcases h' with ⟨h2, rfl⟩ | ⟨h2, rfl⟩ <;> first | rfl | (exfalso; omega)
theorem Out.t2 {x y : List UInt8} {n : Nat} {v : Value} (h : Out x y n v) : Tup2 v := by
  rcases h with ⟨e, _, _, rfl⟩ | ⟨_, h⟩
  · exact ⟨_, _, rfl⟩
  · exact h.t2
theorem Out.uniq {x y : List UInt8} {n : Nat} {v v' : Value} (h : Out x y n v) (h' : Out x y n v') : v = v' := by
  rcases h with ⟨e, h0, h1, rfl⟩ | ⟨h1, h2⟩ <;> rcases h' with ⟨e', h0', h3, rfl⟩ | ⟨h3, h4⟩
  · rw [chk2_uniq h1 h3]
  · exact absurd (chk2_uniq h1 h3) h0
  · exact absurd (chk2_uniq h3 h1) h0'
  · exact h2.uniq h4
theorem OutS.t2 {x y : List UInt8} {v : Value} (h : OutS x y v) : Tup2 v := by
  rcases h with ⟨e, _, _, rfl⟩ | ⟨_, ⟨_, rfl⟩ | ⟨_, h⟩⟩
  · exact ⟨_, _, rfl⟩
  · exact ⟨_, _, rfl⟩
  · exact h.t2
theorem OutS.uniq {x y : List UInt8} {v v' : Value} (h : OutS x y v) (h' : OutS x y v') : v = v' := by
  rcases h with ⟨e, h0, h1, rfl⟩ | ⟨h1, h2⟩ <;> rcases h' with ⟨e', h0', h3, rfl⟩ | ⟨h3, h4⟩
  · rw [chk2_uniq h1 h3]
  · exact absurd (chk2_uniq h1 h3) h0
  · exact absurd (chk2_uniq h3 h1) h0'
  · rcases h2 with ⟨h5, rfl⟩ | ⟨h5, h6⟩ <;> rcases h4 with ⟨h7, rfl⟩ | ⟨h7, h8⟩
    · rfl
    · omega
    · omega
    · exact h6.uniq h8
theorem OutD.t3 {x y : List UInt8} {v : Value} (h : OutD x y v) : Tup3 v := by
  rcases h with ⟨e, _, _, rfl⟩ | ⟨_, _, rfl⟩ | ⟨_, _, rfl⟩ <;> exact ⟨_, _, _, rfl⟩
theorem OutD.uniq {x y : List UInt8} {v v' : Value} (h : OutD x y v) (h' : OutD x y v') : v = v' := by
  rcases h with ⟨e, h0, h1, rfl⟩ | ⟨h1, h2, rfl⟩ | ⟨h1, h2, rfl⟩ <;> rcases h' with ⟨e', h0', h3, rfl⟩ | ⟨h3, h4, rfl⟩ | ⟨h3, h4, rfl⟩ <;> first
    | rfl
    | (rw [chk2_uniq h1 h3]; done)
    | exact absurd (chk2_uniq h1 h3) h0
    | exact absurd (chk2_uniq h3 h1) h0'
    | exact absurd h2 h4
    | exact absurd h4 h2
theorem OutP.t2 {x : List UInt8} {n : Int} {v : Value} (h : OutP x n v) : Tup2 v := by
  rcases h with ⟨e, _, _, rfl⟩ | ⟨_, _, rfl⟩ | ⟨_, _, h⟩
  · exact ⟨_, _, rfl⟩
  · exact ⟨_, _, rfl⟩
  · exact h.t2
theorem OutP.uniq {x : List UInt8} {n : Int} {v v' : Value} (h : OutP x n v) (h' : OutP x n v') : v = v' := by
  rcases h with ⟨e, h0, h1, rfl⟩ | ⟨h1, h2, rfl⟩ | ⟨h1, h2, h5⟩ <;> rcases h' with ⟨e', h0', h3, rfl⟩ | ⟨h3, h4, rfl⟩ | ⟨h3, h4, h6⟩ <;> first
    | rfl
    | (rw [chk_uniq h1 h3]; done)
    | exact absurd (chk_uniq h1 h3) h0
    | exact absurd (chk_uniq h3 h1) h0'
    | (exfalso; omega)
    | exact h5.uniq h6
theorem OutF.t2 {n : Int} {v : Value} (h : OutF n v) : Tup2 v := by
  rcases h with ⟨_, rfl⟩ | ⟨_, rfl⟩ <;> exact ⟨_, _, rfl⟩
theorem OutF.uniq {n : Int} {v v' : Value} (h : OutF n v) (h' : OutF n v') : v = v' := by
  rcases h with ⟨h1, rfl⟩ | ⟨h1, rfl⟩ <;> rcases h' with ⟨h2, rfl⟩ | ⟨h2, rfl⟩ <;> first | rfl | (exfalso; omega)
theorem OutT.t {x : List UInt8} {v : Value} (h : OutT x v) : TupI v := by
  rcases h with ⟨e, _, _, rfl⟩ | ⟨_, _, rfl⟩ | ⟨_, _, rfl⟩ <;> exact ⟨_, _, rfl⟩
theorem OutT.uniq {x : List UInt8} {v v' : Value} (h : OutT x v) (h' : OutT x v') : v = v' := by
  rcases h with ⟨e, h0, h1, rfl⟩ | ⟨h1, h2, rfl⟩ | ⟨h1, h2, rfl⟩ <;> rcases h' with ⟨e', h0', h3, rfl⟩ | ⟨h3, h4, rfl⟩ | ⟨h3, h4, rfl⟩ <;> first
    | rfl
    | (rw [chk_uniq h1 h3]; done)
    | exact absurd (chk_uniq h1 h3) h0
    | exact absurd (chk_uniq h3 h1) h0'
    | (exfalso; omega)
theorem OutB.t {x : List UInt8} {v : Value} (h : OutB x v) : TupI v := by
  rcases h with ⟨e, _, _, rfl⟩ | ⟨_, rfl⟩ <;> exact ⟨_, _, rfl⟩
theorem OutB.uniq {x : List UInt8} {v v' : Value} (h : OutB x v) (h' : OutB x v') : v = v' := by
  rcases h with ⟨e, h0, h1, rfl⟩ | ⟨h1, rfl⟩ <;> rcases h' with ⟨e', h0', h3, rfl⟩ | ⟨h3, rfl⟩ <;> first
    | rfl
    | (rw [chk_uniq h1 h3]; done)
    | exact absurd (chk_uniq h1 h3) h0
    | exact absurd (chk_uniq h3 h1) h0'


end Go.Proofs.YtabplbmbnakalaaGreatDoor
end
section
set_option linter.unusedSimpArgs false
set_option linter.unusedVariables false
set_option maxHeartbeats 2000000
namespace Go.Proofs.YtabplbmbnakalaaGreatDoor
open Go Go.Proofs Go.RowKit Go.Lib

section
variable {P : Program} (U : Tys P) {ro : Option Nat} {n : Nat} {ds : List Deferred} {Q : PT} {l l' : Fr} {w w' : World} {arr : Array Oper} {o : Oper} {r : List Oper} {k : List It}
/-- A test whose answer is carried on. -/
theorem cD {p : Prop} {lp : Bool → Fr} (e : dec l o.op = some p) (hg : gd arr l o.guard = some true) (hl : ∀ b, put1 n l o.dst (.bool b) = some (lp b))
    (t : ∀ b : Bool, (b = true ↔ p) → T P ro n ds Q (lp b) w (.ops arr r) k) : T P ro n ds Q l w (.ops arr (o :: r)) k :=
  (Classical.em p).elim (fun h => cT e hg (hl true) h (t true ⟨fun _ => h, fun _ => rfl⟩)) (fun h => cF e hg (hl false) h (t false ⟨fun h' => (by cases h'), fun h' => absurd h' h⟩))
/-- Two answers that agree are compared. -/
theorem neqB {d : Nat} {t t2 ty : TypeId} {x y : Operand} {ps : String} {af : Array Edge} {g : Option (Nat × Bool)} {a b : Bool} (hx : ev l x = some (.bool a)) (hy : ev l y = some (.bool b)) (hab : a = b) (ht : U.tb.u t = some .bool) (hg : gd arr l g = some true) (hd : Nat.blt d n = true)
    (t' : T P ro n ds Q ((d, .bool false) :: l) w (.ops arr r) k) : T P ro n ds Q l w (.ops arr (⟨some d, .binOp .neq t x y t2, ty, ps, af, g⟩ :: r)) k := by
  subst hab
  exact op1 (v := .bool false) (by intro c h; cases h) hg (put1_some hd) (fun act hf => by
    have h1 := run_equal_bool (P := P) w t a a (U.hu _ _ ht)
    simp [execOp, hf.ev hx, hf.ev hy, eqGuard, binOp, h1]) t'
end

theorem num_chk {k : Nat} {x : List UInt8} {n : Nat} (h : Num k x n) (hk : k ≤ 4000) : Chk x 0 := by
  have := h.form hk; exact .inl ⟨this.1, this.2.1, rfl⟩
theorem num19 {n : Nat} (h : n ≤ 9223372036854775807) : Num 19 (decDigits n) n := Num.dec (nD_le 19 n (by omega) (by omega))
theorem cmpN_pos {p q : Nat} : 0 < cmpN p q ↔ q < p := by
  unfold cmpN
  split
  · omega
  · split <;> omega

end Go.Proofs.YtabplbmbnakalaaGreatDoor
end
section
set_option linter.unusedSimpArgs false
set_option linter.unusedVariables false
set_option maxHeartbeats 2000000
set_option maxRecDepth 10000
namespace Go.Proofs.YtabplbmbnakalaaGreatDoor
open Go Go.Proofs Go.RowKit Go.Lib

section
variable {P : Program} (U : Tys P) {ro : Option Nat} {n : Nat} {ds : List Deferred} {Q : PT} {l l' : Fr} {w w' : World} {arr : Array Oper} {r : List Oper} {k : List It}
/-- A string is appended to bytes that the call owns. -/
theorem apr1 {d : Nat} {t t2 e ty : TypeId} {x y : Operand} {ps : String} {af : Array Edge} {g : Option (Nat × Bool)} {a : Option Addr} {m c base : Nat} {bs s : List UInt8}
    (hx : ev l x = some (.slice a m c)) (hy : ev l y = some (.string ⟨⟨s⟩⟩)) (ht : U.tb.u t = some (.slice e)) (h2 : U.tb.u t2 = some .string) (hi : U.tb.inf e = some (1, 1, .int .u8 0)) (hg : gd arr l g = some true) (hd : Nat.blt d n = true)
    (hm : bs.length = m) (hlen : m + s.length ≤ 140737488355328) (ho : w.ownsRow base e 1 (.slice a m c) m (byteCells bs)) (hb : base ≤ w.heap.size)
    (t' : ∀ a' c' w1, w1.ownsRow base e 1 (.slice a' (m + s.length) c') (m + s.length) (byteCells (bs ++ s)) → w.grownBy w1 (ab a) → T P ro n ds Q ((d, .slice a' (m + s.length) c') :: l) w1 (.ops arr r) k) :
    T P ro n ds Q l w (.ops arr (⟨some d, .call ⟨.builtin .append, #[x, y], #[t, t2]⟩, ty, ps, af, g⟩ :: r)) k := by
  subst hm
  obtain ⟨i, hi0, hz1, hz2, hz3⟩ := U.hi _ _ _ _ hi
  obtain ⟨v', w1, hrun, ho1, hg1, _⟩ := run_append_own_string (P := P) (w := w) base t t2 ty e i (U.hu _ _ ht) (U.hu _ _ h2) hi0 hz3 hz1 hz2 (.slice a bs.length c) bs.length (byteCells bs) ho ⟨⟨s⟩⟩
    (by unfold maxLen; show bs.length + s.length ≤ _; omega) (by show bs.length + s.length ≤ _; omega) hb
  have hss : (ByteArray.mk ⟨s⟩).size = s.length := rfl
  have hcells : byteCells bs ++ strCells ⟨⟨s⟩⟩ = byteCells (bs ++ s) := by simp [byteCells, strCells]
  rw [hss, hcells] at ho1
  rw [ownBlock_ab] at hg1
  obtain ⟨a2, m2, c2, rfl⟩ : ∃ a' m' c', v' = .slice a' m' c' := by
    rcases ho1.2 with ⟨h, _⟩ | ⟨g, cap, cur, h, _⟩
    · exact ⟨_, _, _, h⟩
    · exact ⟨_, _, _, h⟩
  have hm2 : m2 = bs.length + s.length := by
    rcases ho1.2 with ⟨h, h'⟩ | ⟨g, cap, cur, h, _⟩
    · simp at h; omega
    · simp at h; omega
  subst hm2
  refine op1 (w' := w1) (v := .slice a2 (bs.length + s.length) c2) (by intro c h; cases h) hg (put1_some hd) (fun act hf => ?_) (t' _ _ _ ho1 hg1)
  simp only [execOp, resolve, invoke, builtin]
  simp [hf.ev hx, hf.ev hy, hrun]
end

/-- A text repeated. -/
def reps (s : List UInt8) : Nat → List UInt8
  | 0 => []
  | i + 1 => reps s i ++ s
theorem reps_length (s : List UInt8) : ∀ i, (reps s i).length = i * s.length
  | 0 => by simp [reps]
  | i + 1 => by rw [reps, List.length_append, reps_length s i, Nat.add_mul, Nat.one_mul]
theorem times_str (s : List UInt8) (n : Nat) (hs : 0 < s.length) (hn : 0 < n) (hl : n * s.length ≤ 1000000000) (w : World) :
    Calls Tryz.prog 12 #[.string ⟨⟨s⟩⟩, .int .i64 (n : Nat)] w (Ret fun v w' => v = .string ⟨⟨reps s n⟩⟩ ∧ Below w.heap.size w w') := by
  have hmI : (max 0 (n : Int)) * (s.length : Int) = ((n * s.length : Nat) : Int) := by
    rw [show max 0 (n : Int) = (n : Int) by omega]; exact (Int.natCast_mul n s.length).symm
  have hle : ∀ i, i ≤ n → i * s.length ≤ 1000000000 := fun i hi => Nat.le_trans (Nat.mul_le_mul_right _ hi) hl
  have hnn : n ≤ 1000000000 := Nat.le_trans (Nat.le_mul_of_pos_right _ hs) hl
  have hsn : s.length ≤ 1000000000 := Nat.le_trans (Nat.le_mul_of_pos_left _ hn) hl
  refine enter Tryz.func12 rfl Tryz.ntmps12 (Nat.le_of_ble_eq_true rfl) ?_
  refine dr U 600 rfl ?_ ?_
  · simp only [AllP, InR, List.nil_append, List.cons_append, and_true, hmI]
    omega
  refine mk0 U rfl rfl rfl rfl rfl rfl (n * s.length) rfl hmI (by omega) (by omega) w.heap.size (Nat.le_refl _) ?_
  intro a0 w0 ho0 hg0
  refine dr U 600 rfl trivial ?_
  refine loopR (fun l w' m => ∃ (i : Nat) (a : Option Addr) (c : Nat), l = [(0, .string ⟨⟨s⟩⟩), (1, .int .i64 (n : Nat)), (5, .slice a (reps s i).length c), (6, .int .i64 (i : Nat))] ∧ i ≤ n ∧ w'.ownsRow w.heap.size 5 1 (.slice a (reps s i).length c) (reps s i).length (byteCells (reps s i)) ∧ Below w.heap.size w w' ∧ m = n - i)
    ⟨0, a0, n * s.length, rfl, by omega, ho0, (Below.refl _ _).grown hg0 (Nat.le_refl _) (fun k e => by cases e), rfl⟩ ⟨rfl, rfl, rfl, rfl, trivial⟩ ?_
  rintro l w1 m ⟨i, a, c, rfl, hi, ho, hB, rfl⟩
  have hil := reps_length s i
  have hle1 := hle i hi
  refine dr U 600 rfl trivial ?_
  refine cS rfl rfl rfl rfl (fun hq => ?_) (fun hq => ?_)
  · refine dr U 600 rfl (by first | exact True.intro | (simp only [AllP, InR, List.nil_append, List.cons_append, and_true]; omega)) ?_
    refine apr1 U (bs := reps s i) rfl rfl rfl rfl rfl rfl rfl rfl (by omega) ho hB.size ?_
    intro a1 c1 w2 ho2 hg2
    refine dr U 600 rfl (by first | exact True.intro | (simp only [AllP, InR, List.nil_append, List.cons_append, and_true]; omega)) ?_
    have hl2 : (reps s (i + 1)).length = (reps s i).length + s.length := by rw [reps, List.length_append]
    refine rend _ _ ⟨i + 1, a1, c1, rfl, by omega, by rw [hl2]; exact ho2, hB.grown hg2 hB.size (fun g hg => (own_block ho g hg).1), rfl⟩ (by omega) ⟨rfl, rfl, by rw [hl2]; rfl, iv (by omega), trivial⟩
  · obtain rfl : i = n := by omega
    refine dr U 600 rfl trivial ?_
    refine bstrS U rfl rfl rfl rfl rfl rfl rfl (fun e => ?_) (own_sl ho) ?_
    · rw [e] at hil
      have := Nat.mul_pos hn hs
      simp at hil
      omega
    refine dr U 600 rfl trivial ?_
    exact ret Tryz.results12 rfl ⟨_, rfl, rfl, hB⟩
theorem reps_one (c : UInt8) : ∀ k, reps [c] k = List.replicate k c
  | 0 => rfl
  | k + 1 => by rw [reps, reps_one c k, List.replicate_succ']
theorem dval_nines : ∀ k, dval (List.replicate k 57) + 1 = 10 ^ k
  | 0 => rfl
  | k + 1 => by
    have h := dval_nines k
    rw [List.replicate_succ', dval_snoc, Nat.pow_succ, ← h]
    show dval (List.replicate k 57) * 10 + (57 - 48) + 1 = _
    omega
theorem nines_form (k : Nat) (hk : 0 < k) : Form (List.replicate k 57) := by
  refine ⟨fun e => by have := congrArg List.length e; simp at this; omega, .inr (fun e => ?_), fun c hc => ?_⟩
  · obtain ⟨j, rfl⟩ : ∃ j, k = j + 1 := ⟨k - 1, by omega⟩
    rw [List.replicate_succ] at e
    exact absurd (Option.some.inj e) (by decide)
  · rw [List.mem_replicate] at hc
    rw [hc.2]; exact ⟨by decide, by decide⟩
theorem nines_num (k : Nat) (hk : 0 < k) : Num k (List.replicate k 57) (dval (List.replicate k 57)) := by
  have h := nines_form k hk
  have h1 := dec_of h.2.2 h.1 h.2.1
  exact ⟨h1, by rw [← decDigits_length, ← h1]; simp⟩
theorem nines_over (k : Nat) (hk : 4000 < k) : Chk (List.replicate k 57) 5 := .inr (.inl ⟨nines_form k (by omega), by rw [List.length_replicate]; exact hk, rfl⟩)
theorem nD_ten (k : Nat) : nDigits (10 ^ k) = k + 1 := by
  have := nD_pad k 1 0 (by omega) (Nat.pow_pos (by omega))
  have h1 : nDigits 1 = 1 := nDigits_small (by omega)
  rw [Nat.one_mul, Nat.add_zero, h1] at this
  omega
theorem nD_two (n d : Nat) (h : 4 * d ≤ n) : d < nDigits (2 ^ n) := by
  rcases Nat.lt_or_ge d (nDigits (2 ^ n)) with h1 | h1
  · exact h1
  · exfalso
    have h2 := Nat.lt_of_lt_of_le (lt_pow_nDigits (2 ^ n)) (Nat.pow_le_pow_right (n := 10) (by omega) h1)
    have h3 : 10 ^ d ≤ 16 ^ d := Nat.pow_le_pow_left (by omega) d
    have h4 : (16 : Nat) ^ d = 2 ^ (4 * d) := by rw [Nat.pow_mul]
    have h5 : 2 ^ (4 * d) ≤ 2 ^ n := Nat.pow_le_pow_right (by omega) h
    omega

theorem num_ok2 {j k : Nat} {x y : List UInt8} {m n : Nat} (hx : Num j x m) (hy : Num k y n) (hj : j ≤ 4000) (hk : k ≤ 4000) : Chk2 x y 0 :=
  ⟨0, 0, num_chk hx hj, num_chk hy hk, by simp⟩

/-- A power of ten, its exponent open. -/
theorem npow10_calls (k : Nat) (hk : (k : Int) ≤ 9223372036854775807) (hd : k + 1 ≤ 4000) (w : World) (ht : TabOk w) :
    Calls Tryz.prog 59 #[.string ⟨⟨[49, 48]⟩⟩, .int .i64 (k : Nat)] w (Ret fun v w' => (∃ s : List UInt8, s.length = k + 1 ∧ v = .tuple ⟨[.string ⟨⟨s⟩⟩, .int .i64 0]⟩) ∧ Below w.heap.size w w') := by
  have hten : dval [49, 48] = 10 := by decide
  have h1 := nD_ten k
  have hl : Num 2 [49, 48] 10 := hten ▸ lit_num (l := [49, 48]) (by decide)
  refine (npow_calls hl (by omega) hk (by omega) w ht).mono ?_
  rintro e w' ⟨v, rfl, rfl, hB⟩
  exact ⟨_, rfl, ⟨_, by rw [decDigits_length]; exact h1, rfl⟩, hB⟩
theorem npow10_over (k : Nat) (hk : (k : Int) ≤ 9223372036854775807) (hd : 4000 < k + 1) (w : World) (ht : TabOk w) :
    Calls Tryz.prog 59 #[.string ⟨⟨[49, 48]⟩⟩, .int .i64 (k : Nat)] w (Ret fun v w' => v = .tuple ⟨[.string ⟨⟨[]⟩⟩, .int .i64 5]⟩ ∧ Below w.heap.size w w') := by
  have hten : dval [49, 48] = 10 := by decide
  have h1 := nD_ten k
  have hl : Num 2 [49, 48] 10 := hten ▸ lit_num (l := [49, 48]) (by decide)
  refine (natPow_calls [49, 48] k (by decide) hk w ht).mono ?_
  rintro e w' ⟨v, rfl, h, hB⟩
  refine ⟨v, rfl, h.uniq (.inr (.inr ⟨num_chk hl (by omega), by omega, .inr ⟨?_, rfl⟩⟩)), hB⟩
  rw [Int.toNat_natCast, hten]; omega
theorem npow2_over (k : Nat) (hk : (k : Int) ≤ 9223372036854775807) (hd : 16000 ≤ k) (w : World) (ht : TabOk w) :
    Calls Tryz.prog 59 #[.string ⟨⟨[50]⟩⟩, .int .i64 (k : Nat)] w (Ret fun v w' => v = .tuple ⟨[.string ⟨⟨[]⟩⟩, .int .i64 5]⟩ ∧ Below w.heap.size w w') := by
  have hten : dval [50] = 2 := by decide
  have h1 := nD_two k 4000 (by omega)
  have hl : Num 1 [50] 2 := hten ▸ lit_num (l := [50]) (by decide)
  refine (natPow_calls [50] k (by decide) hk w ht).mono ?_
  rintro e w' ⟨v, rfl, h, hB⟩
  refine ⟨v, rfl, h.uniq (.inr (.inr ⟨num_chk hl (by omega), by omega, .inr ⟨?_, rfl⟩⟩)), hB⟩
  rw [Int.toNat_natCast, hten]; exact h1
theorem npow01_calls (b k : Nat) (hb : b ≤ 1) (hk : (k : Int) ≤ 9223372036854775807) (hk0 : 0 < k) (w : World) (ht : TabOk w) :
    Calls Tryz.prog 59 #[.string ⟨⟨decDigits b⟩⟩, .int .i64 (k : Nat)] w (Ret fun v w' => v = .tuple ⟨[.string ⟨⟨decDigits b⟩⟩, .int .i64 0]⟩ ∧ Below w.heap.size w w') := by
  have hp : b ^ k = b := by
    rcases (show b = 0 ∨ b = 1 by omega) with h | h
    · rw [h, Nat.zero_pow hk0]
    · rw [h, Nat.one_pow]
  have hd : nDigits b = 1 := nDigits_small (by omega)
  have := npow_calls (k := k) (Num.dec (k := 1) (n := b) (by omega)) (by omega) hk (by rw [hp]; omega) w ht
  rwa [hp] at this
theorem npowneg_calls (x : List UInt8) (j m : Nat) (hx : Num j x m) (hj : j ≤ 4000) (w : World) (ht : TabOk w) :
    Calls Tryz.prog 59 #[.string ⟨⟨x⟩⟩, .int .i64 (-1)] w (Ret fun v w' => v = .tuple ⟨[.string ⟨⟨[]⟩⟩, .int .i64 2]⟩ ∧ Below w.heap.size w w') := by
  refine (natPow_calls x (-1) (by have := hx.form hj; omega) (by omega) w ht).mono ?_
  rintro e w' ⟨v, rfl, h, hB⟩
  exact ⟨v, rfl, h.uniq (.inr (.inl ⟨num_chk hx hj, by omega, rfl⟩)), hB⟩
theorem nsub_range {x y : List UInt8} {m n j k : Nat} (hx : Num j x m) (hy : Num k y n) (hj : j ≤ 4000) (hk : k ≤ 4000) (hlt : m < n) (w : World) (ht : TabOk w) :
    Calls Tryz.prog 61 #[.string ⟨⟨x⟩⟩, .string ⟨⟨y⟩⟩] w (Ret fun v w' => v = .tuple ⟨[.string ⟨⟨[]⟩⟩, .int .i64 2]⟩ ∧ Below w.heap.size w w') := by
  have h1 := hx.form hj
  have h2 := hy.form hk
  refine (natSub_calls x y (by omega) (by omega) w ht).mono ?_
  rintro e w' ⟨v, rfl, h, hB⟩
  exact ⟨v, rfl, h.uniq (.inr ⟨num_ok2 hx hy hj hk, .inl ⟨by rw [h1.2.2, h2.2.2]; exact hlt, rfl⟩⟩), hB⟩
theorem nadd_over {x y : List UInt8} {m n j k : Nat} (hx : Num j x m) (hy : Num k y n) (hj : j ≤ 4000) (hk : k ≤ 4000) (ho : 4000 < nDigits (m + n)) (w : World) (ht : TabOk w) :
    Calls Tryz.prog 92 #[.string ⟨⟨x⟩⟩, .string ⟨⟨y⟩⟩] w (Ret fun v w' => v = .tuple ⟨[.string ⟨⟨[]⟩⟩, .int .i64 5]⟩ ∧ Below w.heap.size w w') := by
  have h1 := hx.form hj
  have h2 := hy.form hk
  refine (natAdd_calls x y (by omega) (by omega) w ht).mono ?_
  rintro e w' ⟨v, rfl, h, hB⟩
  exact ⟨v, rfl, h.uniq (.inr ⟨num_ok2 hx hy hj hk, .inr ⟨by rw [h1.2.2, h2.2.2]; exact ho, rfl⟩⟩), hB⟩
theorem nmul_fit {x y : List UInt8} {m n j k : Nat} (hx : Num j x m) (hy : Num k y n) (hj : j ≤ 4000) (hk : k ≤ 4000) (ho : nDigits (m * n) ≤ 4000) (w : World) (ht : TabOk w) :
    Calls Tryz.prog 91 #[.string ⟨⟨x⟩⟩, .string ⟨⟨y⟩⟩] w (Ret fun v w' => v = .tuple ⟨[.string ⟨⟨decDigits (m * n)⟩⟩, .int .i64 0]⟩ ∧ Below w.heap.size w w') := by
  have h1 := hx.form hj
  have h2 := hy.form hk
  refine (natMul_calls x y (by omega) (by omega) w ht).mono ?_
  rintro e w' ⟨v, rfl, h, hB⟩
  refine ⟨v, rfl, ?_, hB⟩
  have := h.uniq (.inr ⟨num_ok2 hx hy hj hk, .inl ⟨by rw [h1.2.2, h2.2.2]; exact ho, rfl⟩⟩)
  rwa [h1.2.2, h2.2.2] at this
theorem ndiv_zero {x y : List UInt8} {m j k : Nat} (hx : Num j x m) (hy : Num k y 0) (hj : j ≤ 4000) (hk : k ≤ 4000) (w : World) (ht : TabOk w) :
    Calls Tryz.prog 60 #[.string ⟨⟨x⟩⟩, .string ⟨⟨y⟩⟩] w (Ret fun v w' => v = .tuple ⟨[.string ⟨⟨[]⟩⟩, .string ⟨⟨[]⟩⟩, .int .i64 6]⟩ ∧ Below w.heap.size w w') := by
  have h1 := hx.form hj
  have h2 := hy.form hk
  refine (natDivMod_calls x y (by omega) (by omega) w ht).mono ?_
  rintro e w' ⟨v, rfl, h, hB⟩
  exact ⟨v, rfl, h.uniq (.inr (.inl ⟨num_ok2 hx hy hj hk, h2.2.2, rfl⟩)), hB⟩
theorem ncheck_is {x : List UInt8} {e : Int} (hx : x.length ≤ 1099511627776) (h : Chk x e) (w : World) :
    Calls Tryz.prog 87 #[.string ⟨⟨x⟩⟩] w (Ret fun v w' => v = .int .i64 e ∧ Below w.heap.size w w') := by
  refine (check_calls x hx w).mono ?_
  rintro e' w' ⟨v, rfl, ⟨e2, rfl, hc⟩, hB⟩
  exact ⟨_, rfl, by rw [chk_uniq hc h], hB⟩
theorem not_form_lead {r : List UInt8} (hr : r ≠ []) : Chk (48 :: r) 3 := .inr (.inr ⟨fun h => by
  rcases h.2.1 with h | h
  · exact hr (List.cons.inj h).2
  · exact h rfl, rfl⟩)
theorem not_form_digit {c : UInt8} {r : List UInt8} (hc : c.toNat < 48 ∨ 57 < c.toNat) : Chk (c :: r) 3 := .inr (.inr ⟨fun h => by
  have := h.2.2 c (by simp)
  unfold isD at this; omega, rfl⟩)
theorem ncmp_bad {x y : List UInt8} {e : Int} (hx : x.length ≤ 1099511627776) (hy : y.length ≤ 1099511627776) (h : Chk2 x y e) (he : e ≠ 0) (w : World) :
    Calls Tryz.prog 53 #[.string ⟨⟨x⟩⟩, .string ⟨⟨y⟩⟩] w (Ret fun v w' => v = .int .i64 0 ∧ Below w.heap.size w w') := by
  refine (natCmp_calls x y hx hy w).mono ?_
  rintro e' w' ⟨v, rfl, ⟨e2, hc, rfl⟩, hB⟩
  exact ⟨_, rfl, by rw [chk2_uniq hc h, if_pos he], hB⟩

theorem blen8 : blen 8 = 4 := by
  rw [blen_pos (by omega), blen_pos (by omega), blen_pos (by omega), blen_pos (by omega)]
  show blen 0 + 1 + 1 + 1 + 1 = 4
  rw [blen_zero]

end Go.Proofs.YtabplbmbnakalaaGreatDoor
end
