/-
  Walk of strconv.FormatUint at base 10 for numbers below the base of limbs: it returns the decimal digits, and leaves all older memory alone.
  Conditions: the number is below 1000000000; the library's table of powers of ten lies as its initialiser laid it.
-/
import Derived.Test.YtfdekppnilffeaaGreatDoorYShelf
import Derived.Test.YtfdekppnilffeaaGreatDoorYLmF
set_option linter.unusedSimpArgs false
set_option linter.unusedVariables false
namespace Go.Proofs.YtfdekppnilffeaaGreatDoor
open Go Go.Proofs Go.RowKit Go.Sort

/-- The library's table of powers of ten is laid. -/
def TabOk (w : World) : Prop := ∃ t x, w.heap[1]? = some (.cells (Lib.pow10Tab.map fun z => Value.int .u64 z).toArray t x)

theorem TabOk.below {w w' : World} (h : TabOk w) (hb : Below w.heap.size w w') : TabOk w' := by
  obtain ⟨t, x, h⟩ := h
  exact ⟨t, x, by rw [hb.block _ (Array.getElem?_eq_some_iff.1 h).1]; exact h⟩
theorem TabOk.new {w w' : World} (h : TabOk w) (hg : w.grownBy w' none) : TabOk w' := by
  obtain ⟨t, x, h⟩ := h
  exact ⟨t, x, by rw [hg.block _ (Array.getElem?_eq_some_iff.1 h).1 (by simp)]; exact h⟩
theorem TabOk.tab {w : World} (h : TabOk w) {nm : String} (hn : Tryz.prog.globalNamed nm = some 1) : Lib.TabIs Tryz.prog w nm .u64 Lib.pow10Tab := by
  obtain ⟨t, x, h⟩ := h
  unfold Lib.TabIs World.var?
  rw [hn]
  simp [h]

theorem smallstr_calls (u : Nat) (hu : u < 100) (w : World) : Calls Tryz.prog 162 #[.int .i64 u] w (Ret fun v w' => v = .string ⟨⟨Lib.decDigits u⟩⟩ ∧ w = w') :=
  (Tryz.internal_strconv_small u hu w).mono (by rintro e w' ⟨rfl, rfl⟩; exact ⟨_, rfl, rfl, rfl⟩)

theorem numDigits_calls (u : Nat) (h1 : 1 ≤ u) (h2 : u < 18446744073709551616) (w : World) (h : TabOk w) : Calls Tryz.prog 163 #[u64 u] w (Ret fun v w' => v = .int .i64 (Lib.nDigits u) ∧ w = w') :=
  (Tryz.internal_strconv_numDigits u h1 h2 w (h.tab (by kernel_rfl))).mono (by rintro e w' ⟨rfl, rfl⟩; exact ⟨_, rfl, rfl, rfl⟩)

theorem putRow_grown (enc : UInt8 → Value) (w : World) (b off : Nat) (d : Array UInt8) : w.grownBy (putRow enc w b off d) (some b) :=
  ⟨rfl, rfl, rfl, by simp [putRow, mapBlock], fun k hk hne => by
    simp only [putRow, mapBlock, Array.getElem?_modify]
    rw [if_neg (by intro e; exact hne (by rw [e]))]⟩

section
variable {P : Program} (U : Tys P) {ro : Option Nat} {n : Nat} {ds : List Deferred} {Q : PT} {l l' : Fr} {w w' : World} {arr : Array Oper} {r : List Oper} {k : List It}
/-- The front of an array variable, as a slice. -/
theorem slA {d : Nat} {t e ty : TypeId} {x y : Operand} {ps : String} {af : Array Edge} {g : Option (Nat × Bool)} {b m s : Nat} {h : Int}
    (hx : ev l x = some (.pointer (some ⟨b, 0, none⟩))) (hy : ev l y = some (.int .i64 h)) (ht : U.tb.u t = some (.array m e)) (hs : U.tb.sz e = some s) (hm : 0 < m) (h0 : 0 ≤ h) (h1 : h ≤ m) (hg : gd arr l g = some true) (hd : Nat.blt d n = true)
    (t' : T P ro n ds Q ((d, .slice (some ⟨b, 0, none⟩) h.toNat m) :: l) w (.ops arr r) k) : T P ro n ds Q l w (.ops arr (⟨some d, .slice t x none (some y) none, ty, ps, af, g⟩ :: r)) k := by
  have hu := U.hu _ _ ht
  obtain ⟨i, hi, hz⟩ := U.hs _ _ hs
  have h2 : P.arrayLen t = m := by simp [Program.arrayLen, hu]
  have h3 : P.elem t = e := by simp [Program.elem, hu]
  refine op1 (w' := w) (v := .slice (some ⟨b, 0, none⟩) h.toNat m) (by intro c h; cases h) hg (put1_some hd) (fun a hf => ?_) t'
  have := run_sliceAt_array_h (P := P) w t ⟨b, 0, none⟩ (by rw [h2, h3]; exact hu) .i64 h h0 (by rw [h2]; exact h1)
  rw [h2, h3] at this
  have h4 : (Go.sizeOf e).run P w = .ok s w := by simp [sizeOf, typeInfo, program, Sem.run, hi, hz]
  rw [h4] at this
  simp only [Result.andThen, slicedAt] at this
  rw [if_neg (by omega)] at this
  simp [execOp, hf.ev hx, hf.ev hy, this, add_plain]
/-- Bytes to a string. -/
theorem bstr {d : Nat} {t t2 e ty : TypeId} {x : Operand} {ps : String} {af : Array Edge} {g : Option (Nat × Bool)} {b c : Nat} {bs : List UInt8} {m : Nat}
    (hx : ev l x = some (.slice (some ⟨b, 0, none⟩) m c)) (ht : U.tb.u t = some (.slice e)) (he : U.tb.u e = some (.int .u8)) (h2 : U.tb.u t2 = some .string) (hg : gd arr l g = some true) (hd : Nat.blt d n = true)
    (hm : bs.length = m) (hc : ∀ j (hj : j < bs.length), w.cell? ⟨b, j, none⟩ = some (.int .u8 (bs[j].toNat : Int)))
    (t' : T P ro n ds Q ((d, .string ⟨⟨bs⟩⟩) :: l) w (.ops arr r) k) : T P ro n ds Q l w (.ops arr (⟨some d, .convert t t2 x, ty, ps, af, g⟩ :: r)) k := by
  subst hm
  have := run_convert_bytes_back (P := P) w t t2 e ⟨b, 0, none⟩ c bs (U.hu _ _ ht) (U.hu _ _ he) (U.hu _ _ h2) (fun j hj => by rw [add_plain, Nat.zero_add]; exact hc j hj)
  exact op1 (w' := w) (by intro c h; cases h) hg (put1_some hd) (fun a hf => by simp [execOp, hf.ev hx, this]) t'
end

theorem fmtI_calls (u : Nat) (hu : u < 1000000000) (w : World) (ht : TabOk w) : Calls Tryz.prog 144 #[u64 u, .int .i64 10] w (Ret fun v w' => v = .string ⟨⟨Lib.decDigits u⟩⟩ ∧ Below w.heap.size w w') := by
  refine enter Tryz.func144 rfl Tryz.ntmps144 (Nat.le_of_ble_eq_true rfl) ?_
  refine dr U 600 rfl trivial ?_
  refine cT rfl rfl rfl rfl ?_
  refine dr U 600 rfl trivial ?_
  refine cS rfl rfl rfl rfl (fun hq => ?_) (fun hq => ?_)
  · refine dr U 600 rfl (by first | exact True.intro | (simp only [AllP, InR, List.nil_append, List.cons_append, and_true]; omega)) ?_
    refine call (f := 162) rfl rfl cb162 (smallstr_calls u (by omega) w) ?_
    rintro v w1 ⟨rfl, rfl⟩
    refine ⟨_, rfl, ?_⟩
    refine dr U 600 rfl trivial ?_
    exact ret Tryz.results144 rfl ⟨_, rfl, rfl, Below.refl _ _⟩
  · refine dr U 600 rfl trivial ?_
    refine al U rfl rfl rfl rfl ?_
    intro b w1 hb hs1 hk1 hg1
    refine dr U 600 rfl trivial ?_
    have hnd : Lib.nDigits u ≤ 20 := by have := Lib.numDigits_eq u (by omega) (by omega); split at this <;> omega
    refine call (f := 163) rfl rfl cb163 (numDigits_calls u (by omega) (by omega) w1 (ht.new hg1)) ?_
    rintro v w2 ⟨rfl, rfl⟩
    refine ⟨_, rfl, ?_⟩
    refine dr U 600 rfl trivial ?_
    refine slA U (h := Lib.nDigits u) rfl rfl rfl rfl (by decide) (by omega) (by omega) rfl rfl ?_
    refine dr U 600 rfl trivial ?_
    have hH : Holds (fun (b : UInt8) => Value.int .u8 (b.toNat : Int)) w1 b 0 (Array.replicate (Lib.nDigits u) 0) := fun j hj => by
      have hj' : j < Lib.nDigits u := by simpa using hj
      have hcell : w1.cell? ⟨b, 0 + j, none⟩ = some (.int .u8 0) := by
        refine hk1.cell ?_
        have : ∀ i, i < 24 → [Value.int .u8 0, .int .u8 0, .int .u8 0, .int .u8 0, .int .u8 0, .int .u8 0, .int .u8 0, .int .u8 0, .int .u8 0, .int .u8 0, .int .u8 0, .int .u8 0, .int .u8 0, .int .u8 0, .int .u8 0, .int .u8 0, .int .u8 0, .int .u8 0, .int .u8 0, .int .u8 0, .int .u8 0, .int .u8 0, .int .u8 0, .int .u8 0][i]? = some (Value.int .u8 0) := by
          intro i hi
          rw [show [Value.int .u8 0, .int .u8 0, .int .u8 0, .int .u8 0, .int .u8 0, .int .u8 0, .int .u8 0, .int .u8 0, .int .u8 0, .int .u8 0, .int .u8 0, .int .u8 0, .int .u8 0, .int .u8 0, .int .u8 0, .int .u8 0, .int .u8 0, .int .u8 0, .int .u8 0, .int .u8 0, .int .u8 0, .int .u8 0, .int .u8 0, .int .u8 0] = List.replicate 24 (Value.int .u8 0) from rfl, List.getElem?_replicate, if_pos hi]
        exact this _ (by omega)
      refine ⟨by rw [hcell, getElem!_pos _ j hj]; simp, ?_⟩
      simp [World.frozen?, show w1.heap[b]? = _ from hk1]
    have hf := Tryz.internal_strconv_formatBase10 b 0 24 u (Array.replicate (Lib.nDigits u) 0) w1 hH (by rw [Array.size_replicate]; exact Lib.lt_pow_nDigits u) (by omega) (by rw [Array.size_replicate]; omega)
    rw [Array.size_replicate] at hf
    refine call (f := 164) rfl rfl cb164 (Post := fun v w2 => v = .tuple #[] ∧ ∃ (k : Nat) (dk : Array UInt8), dk.size = Lib.nDigits u ∧ (∀ j (hj : j < (Lib.decDigits u).length), (Lib.decDigits u)[j] = dk[j]!) ∧ w2 = (putRow (fun (b : UInt8) => Value.int .u8 (b.toNat : Int)) w1 b 0 dk).drewN k)
      (hf.mono (by rintro e w2 ⟨rfl, k, v', dk, rfl, hF⟩; exact ⟨_, rfl, rfl, k, dk, hF.size, fun j hj => Lib.row_is_numeral hF j hj, rfl⟩)) ?_
    rintro v w2 ⟨rfl, k, dk, hdk, hnum, rfl⟩
    refine ⟨_, rfl, ?_⟩
    refine dr U 600 rfl trivial ?_
    refine slA U (h := Lib.nDigits u) rfl rfl rfl rfl (by decide) (by omega) (by omega) rfl rfl ?_
    refine bstr U (bs := Lib.decDigits u) rfl rfl rfl rfl rfl rfl (by rw [Lib.decDigits_length]; omega) (fun j hj => ?_) ?_
    · rw [hnum j hj, World.cell?_drewN]
      have := cell?_putRow (fun (b : UInt8) => Value.int .u8 (b.toNat : Int)) w1 b 0 _ dk hH (by rw [hdk, Array.size_replicate]) j (by rw [hdk]; rw [Lib.decDigits_length] at hj; exact hj)
      rwa [Nat.zero_add] at this
    refine dr U 600 rfl trivial ?_
    refine ret Tryz.results144 rfl ⟨_, rfl, rfl, ?_⟩
    have h1 := (Below.refl w.heap.size w).grown hg1 (Nat.le_refl _) (fun k e => by cases e)
    have h2 := h1.grown (putRow_grown (fun (b : UInt8) => Value.int .u8 (b.toNat : Int)) w1 b 0 dk) h1.size (fun k e => by cases e; omega)
    exact ⟨h2.os, h2.tape, h2.output, h2.size, h2.block⟩

theorem fmt_calls (u : Nat) (hu : u < 1000000000) (w : World) (ht : TabOk w) : Calls Tryz.prog 129 #[u64 u, .int .i64 10] w (Ret fun v w' => v = .string ⟨⟨Lib.decDigits u⟩⟩ ∧ Below w.heap.size w w') := by
  refine enter Tryz.func129 rfl Tryz.ntmps129 (Nat.le_of_ble_eq_true rfl) ?_
  refine dr U 600 rfl trivial ?_
  refine call (f := 144) rfl rfl cb144 (fmtI_calls u hu w ht) ?_
  rintro v w1 ⟨rfl, hB⟩
  refine ⟨_, rfl, ?_⟩
  refine dr U 600 rfl trivial ?_
  exact ret Tryz.results129 rfl ⟨_, rfl, rfl, hB⟩
end Go.Proofs.YtfdekppnilffeaaGreatDoor
