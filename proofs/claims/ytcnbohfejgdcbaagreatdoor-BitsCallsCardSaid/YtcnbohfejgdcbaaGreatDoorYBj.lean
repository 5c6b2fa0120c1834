/-
  Walks of package bits: Join, FromBytes.
  Conditions: texts take fewer than 2^40 bytes.
-/
import Derived.Test.YtcnbohfejgdcbaaGreatDoorYBl
import Derived.Test.YtcnbohfejgdcbaaGreatDoorYWx
set_option linter.unusedSimpArgs false
set_option linter.unusedVariables false
set_option maxHeartbeats 1000000
namespace Go.Proofs.YtcnbohfejgdcbaaGreatDoor
open Go Go.Proofs Go.RowKit Go.Lib

theorem Sl.stay {w w' : World} {a : Option Addr} {vs : List Value} (h : Sl w a vs) (hb : Below w.heap.size w w') : Sl w' a vs := by
  by_cases he : vs = []
  · subst he; exact Sl.nil _ _
  · exact h.below hb (h.lt he)
/-- What Join answers. -/
def JoinR (ls : List (List UInt8)) (v : Value) : Prop :=
  ((∃ s ∈ ls, ¬ Bin s) ∧ v = .tuple ⟨[.string ⟨⟨[]⟩⟩, .int .i64 3]⟩) ∨ ((∀ s ∈ ls, Bin s) ∧ v = .tuple ⟨[.string ⟨⟨ls.flatten⟩⟩, .int .i64 0]⟩)
theorem JoinR.uniq {ls : List (List UInt8)} {v v' : Value} (h : JoinR ls v) (h' : JoinR ls v') : v = v' := by
  rcases h with ⟨⟨s, h1, h2⟩, rfl⟩ | ⟨h1, rfl⟩ <;> rcases h' with ⟨⟨t, h3, h4⟩, rfl⟩ | ⟨h3, rfl⟩
  · rfl
  · exact absurd (h3 s h1) h2
  · exact absurd (h1 t h3) h4
  · rfl

theorem flat_take {ls : List (List UInt8)} (i : Nat) (h : i < ls.length) : (ls.take (i + 1)).flatten = (ls.take i).flatten ++ ls.getD i [] := by
  rw [List.take_succ_eq_append_getElem h, List.flatten_append]
  simp [List.getD, h]
theorem flat_len {ls : List (List UInt8)} (i : Nat) : (ls.take i).flatten.length ≤ ls.flatten.length := by
  have := congrArg List.length (congrArg List.flatten (List.take_append_drop i ls))
  rw [List.flatten_append, List.length_append] at this
  omega

theorem join_calls (ls : List (List UInt8)) (a : Option Addr) (c : Nat) (w : World) (hs : Sl w a (strs ls)) (hl : ls.length ≤ 1099511627776) (hf : ls.flatten.length ≤ 1099511627776) :
    Calls Tryz.prog 17 #[.slice a ls.length c] w (Ret fun v w' => JoinR ls v ∧ Below w.heap.size w w') := by
  refine enter Tryz.func17 rfl Tryz.ntmps17 (Nat.le_of_ble_eq_true rfl) ?_
  refine dr U 600 rfl trivial ?_
  refine al U rfl rfl rfl rfl ?_
  intro b w0 hb0 hs0 hk0 hg0
  have hB0 : Below w.heap.size w w0 := (Below.refl _ _).grown hg0 (Nat.le_refl _) (fun k e => by cases e)
  refine dr U 600 rfl trivial ?_
  refine loopR (fun f w' m => ∃ i : Nat, f = [(8, .slice a ls.length c), (4, .pointer (some ⟨b, 0, none⟩)), (9, .int .i64 (ls.length : Nat)), (10, .int .i64 (i : Nat))] ∧ i ≤ ls.length ∧ (∀ s ∈ ls.take i, Bin s) ∧ BldX 54 w' w.heap.size b (ls.take i).flatten ∧ Below w.heap.size w w' ∧ m = ls.length - i)
    ⟨0, rfl, by omega, by simp, .new (by omega) hk0, hB0, rfl⟩ ⟨rfl, rfl, rfl, rfl, trivial⟩ ?_
  rintro f w1 m ⟨i, rfl, hi, hall, hbl, hB, rfl⟩
  refine dr U 600 rfl trivial ?_
  refine cS rfl rfl rfl rfl (fun hq => ?_) (fun hq => ?_)
  · have hil : i < ls.length := by omega
    have hmem : ls.getD i [] ∈ ls := by simp [List.getD, hil]
    have hfl := flat_take (ls := ls) i hil
    have hfm := flat_len (ls := ls) (i + 1)
    rw [hfl, List.length_append] at hfm
    refine dr U 600 rfl trivial ?_
    refine il U rfl rfl rfl rfl rfl rfl rfl (fun _ => rfl) rfl i rfl hil (hs.stay hB) (getS hil) ?_
    refine dr U 600 rfl trivial ?_
    refine call (f := 12) rfl rfl cb12 (bcheck_calls (ls.getD i []) (by omega) w1) ?_
    rintro v w2 ⟨⟨e, rfl, he⟩, hB2'⟩
    refine ⟨_, rfl, ?_⟩
    have hB2 := bl_tr hB hB2' hB.size
    have hbl2 := hbl.below hB2'
    refine dr U 600 rfl trivial ?_
    refine cS rfl rfl rfl rfl (fun hq => ?_) (fun hq => ?_)
    · refine dr U 600 rfl trivial ?_
      rcases he with ⟨_, h⟩ | ⟨h1, rfl⟩
      · exact absurd h hq
      · exact ret Tryz.results17 rfl ⟨_, rfl, .inl ⟨⟨_, hmem, h1⟩, rfl⟩, hB2⟩
    · obtain ⟨h1, rfl⟩ | ⟨_, h⟩ := he
      · refine dr U 600 rfl trivial ?_
        refine call (f := 44) rfl rfl cb44 (writeX _ lies_writer w.heap.size b _ (ls.getD i []) w2 hbl2 (by omega) hB2.size) ?_
        rintro v w3 ⟨rfl, hbl3, hB3, _⟩
        refine ⟨_, rfl, ?_⟩
        refine dr U 600 rfl (by first | exact True.intro | (simp only [AllP, InR, List.nil_append, List.cons_append, and_true]; omega)) ?_
        refine rend _ _ ⟨i + 1, rfl, by omega, ?_, by rw [hfl]; exact hbl3, hB2.trans hB3, rfl⟩ (by omega) ⟨rfl, rfl, rfl, iv (by omega), trivial⟩
        intro s hs'
        rw [List.take_succ_eq_append_getElem hil, List.mem_append, List.mem_singleton] at hs'
        rcases hs' with h | rfl
        · exact hall s h
        · simpa [List.getD, hil] using h1
      · exact absurd (by omega) hq
  · obtain rfl : i = ls.length := by omega
    rw [List.take_length] at hall hbl
    refine dr U 600 rfl trivial ?_
    refine call (f := 31) rfl rfl cb31 (stringX _ w.heap.size b _ w1 hbl) ?_
    rintro v w5 ⟨rfl, hB5⟩
    refine ⟨_, rfl, ?_⟩
    refine dr U 600 rfl trivial ?_
    exact ret Tryz.results17 rfl ⟨_, rfl, .inr ⟨hall, rfl⟩, hB.trans hB5⟩

/-- The i-th bit of bytes. -/
def fbit (bs : List UInt8) (i : Nat) : Bool := decide ((bs.getD (i / 8) 0).toNat / 2 ^ (7 - i % 8) % 2 = 1)
def fbits (bs : List UInt8) (n : Nat) : List UInt8 := (List.range n).map fun i => bitc (fbit bs i)
theorem fbits_succ (bs : List UInt8) (n : Nat) : fbits bs (n + 1) = fbits bs n ++ [bitc (fbit bs n)] := by simp [fbits, List.range_succ]
theorem fbits_length (bs : List UInt8) (n : Nat) : (fbits bs n).length = n := by simp [fbits]
/-- What FromBytes answers. -/
def FbR (bs : List UInt8) (n : Int) (v : Value) : Prop :=
  ((n < 0 ∨ 256 < n) ∧ v = .tuple ⟨[.string ⟨⟨[]⟩⟩, .int .i64 2]⟩) ∨
  (0 ≤ n ∧ n ≤ 256 ∧ 8 * (bs.length : Int) < n ∧ v = .tuple ⟨[.string ⟨⟨[]⟩⟩, .int .i64 16]⟩) ∨
  (0 ≤ n ∧ n ≤ 256 ∧ n ≤ 8 * (bs.length : Int) ∧ v = .tuple ⟨[.string ⟨⟨fbits bs n.toNat⟩⟩, .int .i64 0]⟩)
theorem FbR.uniq {bs : List UInt8} {n : Int} {v v' : Value} (h : FbR bs n v) (h' : FbR bs n v') : v = v' := by
  rcases h with ⟨h1, rfl⟩ | ⟨h1, h2, h3, rfl⟩ | ⟨h1, h2, h3, rfl⟩ <;> rcases h' with ⟨g1, rfl⟩ | ⟨g1, g2, g3, rfl⟩ | ⟨g1, g2, g3, rfl⟩ <;> first | rfl | (exfalso; omega)

theorem top_bit (x : UInt8) (s : Nat) (hs : s < 8) : (128 ≤ x.toNat * 2 ^ s % 256) ↔ x.toNat / 2 ^ (7 - s) % 2 = 1 := by
  have key : ∀ (a : Fin 256) (s : Fin 8), (128 ≤ a.val * 2 ^ s.val % 256) = (a.val / 2 ^ (7 - s.val) % 2 = 1) ∨ decide (128 ≤ a.val * 2 ^ s.val % 256) = decide (a.val / 2 ^ (7 - s.val) % 2 = 1) := fun a s => .inr (by
    revert a s; decide +kernel)
  rcases key ⟨x.toNat, x.toNat_lt⟩ ⟨s, hs⟩ with h | h
  · exact iff_of_eq h
  · exact decide_eq_decide.1 h

section
variable {P : Program} {ro : Option Nat} {n : Nat} {ds : List Deferred} {Q : PT} {l l' : Fr} {w w' : World} {arr : Array Oper} {r : List Oper} {k : List It}
theorem and128 {d : Nat} {t t2 ty : TypeId} {x y : Operand} {ps : String} {af : Array Edge} {g : Option (Nat × Bool)} (m : Nat) (hx : ev l x = some (.int .u8 (m : Nat))) (hy : ev l y = some (.int .u8 128)) (hm : m < 256) (hg : gd arr l g = some true) (hd : Nat.blt d n = true)
    (t' : T P ro n ds Q ((d, .int .u8 ((if 128 ≤ m then 128 else 0 : Nat) : Int)) :: l) w (.ops arr r) k) : T P ro n ds Q l w (.ops arr (⟨some d, .binOp .and t x y t2, ty, ps, af, g⟩ :: r)) k := by
  have key : ∀ a : Fin 256, IntKind.u8.wrap ((BitVec.ofInt 8 ((a.val : Nat) : Int) &&& BitVec.ofInt 8 128).toNat : Int) = ((if 128 ≤ a.val then 128 else 0 : Nat) : Int) := by decide +kernel
  have h1 := key ⟨m, hm⟩
  refine op1 (w' := w) (v := .int .u8 ((if 128 ≤ m then 128 else 0 : Nat) : Int)) (by intro c h; cases h) hg (by simp only [put1, hd]) (fun a hf => ?_) t'
  have h5 : (binOp .and t (.int .u8 (m : Nat)) (.int .u8 128)).run P w = .ok (.int .u8 ((if 128 ≤ m then 128 else 0 : Nat) : Int)) w := by
    simp only [binOp_and, Op.intBits]
    show (pure _ : Sem Value).run P w = _
    simp only [Sem.run_pure]
    show Result.ok (Value.int .u8 (IntKind.u8.wrap ((BitVec.ofInt 8 (m : Int) &&& BitVec.ofInt 8 128).toNat : Int))) w = _
    rw [h1]
  simp [execOp, hf.ev hx, hf.ev hy, eqGuard, h5]
end
theorem wrap_u8 (a : Nat) (s : Nat) : IntKind.u8.wrap ((a : Int) * 2 ^ s) = ((a * 2 ^ s % 256 : Nat) : Int) := by
  rw [show ((a : Int) * 2 ^ s) = ((a * 2 ^ s : Nat) : Int) by simp]
  simp [IntKind.wrap, IntKind.bits, IntKind.signed]

theorem frombytes_calls (bs : List UInt8) (n : Int) (a : Option Addr) (c : Nat) (w : World) (hs : Sl w a (byteCells bs)) (hl : bs.length ≤ 1099511627776) (hn : -9223372036854775808 ≤ n ∧ n ≤ 9223372036854775807) :
    Calls Tryz.prog 19 #[.slice a bs.length c, .int .i64 n] w (Ret fun v w' => FbR bs n v ∧ Below w.heap.size w w') := by
  refine enter Tryz.func19 rfl Tryz.ntmps19 (Nat.le_of_ble_eq_true rfl) ?_
  refine dr U 600 rfl trivial ?_
  refine cS rfl rfl rfl rfl (fun hq => ?_) (fun hq => ?_)
  · refine dr U 600 rfl trivial ?_
    exact ret Tryz.results19 rfl ⟨_, rfl, .inl ⟨.inl hq, rfl⟩, Below.refl _ _⟩
  · refine dr U 600 rfl trivial ?_
    refine cS rfl rfl rfl rfl (fun hq => ?_) (fun hq => ?_)
    · refine dr U 600 rfl trivial ?_
      exact ret Tryz.results19 rfl ⟨_, rfl, .inl ⟨.inr hq, rfl⟩, Below.refl _ _⟩
    · obtain ⟨k, rfl⟩ : ∃ k : Nat, n = (k : Int) := ⟨n.toNat, by omega⟩
      have hk : k ≤ 256 := by omega
      refine dr U 600 rfl (by first | exact True.intro | (simp only [AllP, InR, List.nil_append, List.cons_append, and_true]; omega)) ?_
      refine cS rfl rfl rfl rfl (fun hq => ?_) (fun hq => ?_)
      · refine dr U 600 rfl trivial ?_
        exact ret Tryz.results19 rfl ⟨_, rfl, .inr (.inl ⟨by omega, by omega, hq, rfl⟩), Below.refl _ _⟩
      · refine dr U 600 rfl trivial ?_
        refine al U rfl rfl rfl rfl ?_
        intro b w0 hb0 hs0 hk0 hg0
        have hB0 : Below w.heap.size w w0 := (Below.refl _ _).grown hg0 (Nat.le_refl _) (fun k e => by cases e)
        refine dr U 600 rfl trivial ?_
        refine loopR (fun f w' m => ∃ i : Nat, f = [(0, .slice a bs.length c), (6, .pointer (some ⟨b, 0, none⟩)), (21, .int .i64 (k : Nat)), (22, .int .i64 (i : Nat))] ∧ i ≤ k ∧ BldX 54 w' w.heap.size b (fbits bs i) ∧ Below w.heap.size w w' ∧ m = k - i)
          ⟨0, rfl, by omega, .new (by omega) hk0, hB0, rfl⟩ ⟨rfl, rfl, rfl, rfl, trivial⟩ ?_
        rintro f w1 m ⟨i, rfl, hi, hbl, hB, rfl⟩
        refine dr U 600 rfl trivial ?_
        refine cS rfl rfl rfl rfl (fun hq => ?_) (fun hq => ?_)
        · have hix : i / 8 < bs.length := by omega
          have hcell : (byteCells bs)[i / 8]? = some (.int .u8 ((bs.getD (i / 8) 0).toNat : Nat)) := by simp [byteCells, hix, List.getD]
          have hxl := (bs.getD (i / 8) 0).toNat_lt
          refine dr U 600 rfl (by first | exact True.intro | (simp only [AllP, InR, List.nil_append, List.cons_append, and_true]; omega)) ?_
          refine il U rfl rfl rfl rfl rfl rfl rfl (fun _ => rfl) rfl (i / 8) (by omega) hix (hs.stay hB) hcell ?_
          refine dr U 600 rfl (by first | exact True.intro | (simp only [AllP, InR, List.nil_append, List.cons_append, and_true]; omega)) ?_
          refine shlI ((bs.getD (i / 8) 0).toNat : Nat) (i % 8) rfl rfl (by show i % 8 ≤ 8; omega) rfl rfl ?_
          rw [wrap_u8]
          have htb := top_bit (bs.getD (i / 8) 0) (i % 8) (by omega)
          refine and128 ((bs.getD (i / 8) 0).toNat * 2 ^ (i % 8) % 256) rfl rfl (Nat.mod_lt _ (by omega)) rfl rfl ?_
          generalize (bs.getD (i / 8) 0).toNat * 2 ^ (i % 8) % 256 = z at *
          refine cS rfl rfl rfl rfl (fun hq => ?_) (fun hq => ?_)
          · have hz : 128 ≤ z := by
              rcases Nat.lt_or_ge z 128 with h | h
              · rw [if_neg (by omega)] at hq; exact absurd rfl hq
              · exact h
            have hbit : fbit bs i = true := decide_eq_true (htb.1 hz)
            refine dr U 600 rfl trivial ?_
            refine call (f := 30) rfl rfl cb30 (bit_calls w.heap.size b _ true w1 hbl.1 (by rw [fbits_length]; omega) hB.size) ?_
            rintro v w5 ⟨rfl, hbl5, hB5, _⟩
            refine ⟨_, rfl, ?_⟩
            refine dr U 600 rfl (by first | exact True.intro | (simp only [AllP, InR, List.nil_append, List.cons_append, and_true]; omega)) ?_
            refine rend _ _ ⟨i + 1, rfl, by omega, .of ?_ ?_, hB.trans hB5, rfl⟩ (by omega) ⟨rfl, rfl, rfl, iv (by omega), trivial⟩
            · rw [fbits_succ, hbit]; exact hbl5
            · rw [fbits_succ]; simp
          · have hz : ¬ 128 ≤ z := by
              intro h
              rw [if_pos h] at hq; exact hq (by decide)
            have hbit : fbit bs i = false := decide_eq_false (fun h => hz (htb.2 h))
            refine dr U 600 rfl trivial ?_
            refine call (f := 30) rfl rfl cb30 (bit_calls w.heap.size b _ false w1 hbl.1 (by rw [fbits_length]; omega) hB.size) ?_
            rintro v w5 ⟨rfl, hbl5, hB5, _⟩
            refine ⟨_, rfl, ?_⟩
            refine dr U 600 rfl (by first | exact True.intro | (simp only [AllP, InR, List.nil_append, List.cons_append, and_true]; omega)) ?_
            refine rend _ _ ⟨i + 1, rfl, by omega, .of ?_ ?_, hB.trans hB5, rfl⟩ (by omega) ⟨rfl, rfl, rfl, iv (by omega), trivial⟩
            · rw [fbits_succ, hbit]; exact hbl5
            · rw [fbits_succ]; simp
        · obtain rfl : i = k := by omega
          refine dr U 600 rfl trivial ?_
          refine call (f := 31) rfl rfl cb31 (stringX _ w.heap.size b _ w1 hbl) ?_
          rintro v w5 ⟨rfl, hB5⟩
          refine ⟨_, rfl, ?_⟩
          refine dr U 600 rfl trivial ?_
          exact ret Tryz.results19 rfl ⟨_, rfl, .inr (.inr ⟨by omega, by omega, by omega, rfl⟩), hB.trans hB5⟩
end Go.Proofs.YtcnbohfejgdcbaaGreatDoor
