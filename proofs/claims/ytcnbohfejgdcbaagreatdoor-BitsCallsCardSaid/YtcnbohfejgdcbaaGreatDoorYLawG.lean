/-
  The law BitsPieces: it returns true for every input.
  Conditions: the library's table of powers of ten is laid; the slice of bytes can be read.
-/
import Derived.Test.YtcnbohfejgdcbaaGreatDoorYBl
import Derived.Test.YtcnbohfejgdcbaaGreatDoorYBk
set_option linter.unusedSimpArgs false
set_option linter.unusedVariables false
set_option maxHeartbeats 1000000
namespace Go.Proofs.YtcnbohfejgdcbaaGreatDoor
open Go Go.Proofs Go.RowKit Go.Lib

theorem cuts_app (n : Nat) (l : List UInt8) (k : Nat) : cuts n l (k + 1) = cuts n l k ++ [piece n l k] := by simp [cuts, List.range_succ]
theorem cuts_flat (n : Nat) (l : List UInt8) : ∀ k, (cuts n l k).flatten = l.take (k * n)
  | 0 => by simp [cuts]
  | k + 1 => by
    rw [cuts_app, List.flatten_append, cuts_flat n l k, Nat.succ_mul, List.take_add]
    simp [piece]
theorem cuts_whole {n : Nat} {l : List UInt8} (h : l.length % n = 0) : (cuts n l (l.length / n)).flatten = l := by
  rw [cuts_flat, Nat.div_mul_cancel (Nat.dvd_of_mod_eq_zero h), List.take_length]
theorem cuts_bin {n : Nat} {l : List UInt8} (h : Bin l) (k : Nat) : ∀ s ∈ cuts n l k, Bin s := by
  intro s hs c hc
  obtain ⟨i, _, rfl⟩ := List.mem_map.1 hs
  exact h c (List.mem_of_mem_drop (List.mem_of_mem_take hc))
/-- The bits of each byte. -/
def eachb (bs : List UInt8) (k : Nat) : List (List UInt8) := (List.range k).map fun i => fbits [bs.getD i 0] 8
theorem eachb_length (bs : List UInt8) (k : Nat) : (eachb bs k).length = k := by simp [eachb]
theorem eachb_app (bs : List UInt8) (k : Nat) : eachb bs (k + 1) = eachb bs k ++ [fbits [bs.getD k 0] 8] := by simp [eachb, List.range_succ]
theorem eachb_succ (bs : List UInt8) (k : Nat) : strs (eachb bs (k + 1)) = strs (eachb bs k) ++ [.string ⟨⟨fbits [bs.getD k 0] 8⟩⟩] := by rw [eachb_app]; simp [strs]
theorem fbits_byte (bs : List UInt8) (k : Nat) : fbits bs (8 * (k + 1)) = fbits bs (8 * k) ++ fbits [bs.getD k 0] 8 := by
  unfold fbits
  rw [Nat.mul_succ, List.range_add, List.map_append, List.map_map]
  congr 1
  apply List.map_congr_left
  intro i hi
  have hi := List.mem_range.1 hi
  simp only [Function.comp]
  unfold fbit
  rw [show (8 * k + i) / 8 = k by omega, show (8 * k + i) % 8 = i % 8 by omega, show i / 8 = 0 by omega]
  rfl
theorem eachb_flat (bs : List UInt8) : ∀ k, (eachb bs k).flatten = fbits bs (8 * k)
  | 0 => by simp [eachb, fbits]
  | k + 1 => by rw [eachb_app, List.flatten_append, eachb_flat bs k, fbits_byte]; simp
theorem fbits_bin (bs : List UInt8) (n : Nat) : Bin (fbits bs n) := by
  intro c hc
  obtain ⟨i, _, rfl⟩ := List.mem_map.1 hc
  unfold bitc
  split
  · exact .inr rfl
  · exact .inl rfl

theorem bc_at (bs : List UInt8) (i : Nat) (h : i < bs.length) : ((byteCells bs).drop i).take 1 = byteCells [bs.getD i 0] := by
  unfold byteCells
  rw [List.drop_eq_getElem_cons (by simpa using h)]
  simp [List.getD, h]



theorem bitsPieces_calls (b : List UInt8) (n : Int) (bs : List UInt8) (a : Option Addr) (c : Nat) (hb : b.length ≤ 9223372036854775806) (hn : -9223372036854775808 ≤ n ∧ n ≤ 9223372036854775807) (w0 : World) (ht0 : TabOk w0)
    (hs0 : Sl w0 a (byteCells bs)) (hc0 : bs.length ≤ c ∧ c ≤ 9223372036854775807) :
    Calls Tryz.prog 6 #[.string ⟨⟨b⟩⟩, .int .i64 n, .slice a bs.length c] w0 (Ret fun v w' => v = .bool true ∧ Below w0.heap.size w0 w') := by
  have hW0 := Below.refl w0.heap.size w0
  refine enter Tryz.func6 rfl Tryz.ntmps6 (Nat.le_of_ble_eq_true rfl) ?_
  refine dr U 600 rfl trivial ?_
  refine call (f := 9) rfl rfl cb9 (blives_calls w0 ht0) ?_; rintro v w1 ⟨rfl, hB1⟩; refine ⟨_, rfl, ?_⟩; have ht1 := ht0.below hB1; have hW1 := bl_tr hW0 hB1 hW0.size; refine dr U 600 rfl trivial ?_
  refine cS rfl rfl rfl rfl (fun hq => ?_) (fun hq => ?_)
  · refine dr U 600 rfl trivial ?_
    exact ret Tryz.results6 rfl ⟨_, rfl, rfl, hW1⟩
  · refine dr U 600 rfl trivial ?_
    refine cS rfl rfl rfl rfl (fun hq => ?_) (fun hq => ?_)
    · refine dr U 600 rfl trivial ?_
      exact ret Tryz.results6 rfl ⟨_, rfl, rfl, hW1⟩
    · have hbl : b.length ≤ 600 := by omega
      have hsl : bs.length ≤ 32 := by omega
      refine dr U 600 rfl trivial ?_
      refine call (f := 16) rfl rfl cb16 (cut_calls b n (by omega) hn w1) ?_
      rintro v w2 ⟨hr, hB2'⟩
      have hB2 := bl_tr hW1 hB2' hW1.size
      rcases hr with ⟨_, rfl⟩ | ⟨_, _, rfl⟩ | ⟨_, _, _, _, rfl⟩ | ⟨hbin, h1, h256, hm, a1, c1, rfl, ho⟩
      ·
        refine ⟨_, rfl, ?_⟩
        refine dr U 600 rfl trivial ?_
        refine cF rfl rfl rfl ((by decide)) ?_; refine dr U 600 rfl trivial ?_
        refine cF rfl rfl rfl ((by decide)) ?_; refine dr U 600 rfl trivial ?_
        refine dr U 600 rfl trivial ?_
        refine loopR (fun f w' m => ∃ i a2 c2, f = [(0, .string ⟨⟨b⟩⟩), (1, .int .i64 n), (2, .slice a bs.length c), (13, .slice a2 i c2), (14, .int .i64 (i : Nat))] ∧ i ≤ bs.length ∧ w'.ownsRow w0.heap.size 30 1 (.slice a2 i c2) i (strs (eachb bs i)) ∧ Below w0.heap.size w0 w' ∧ m = bs.length - i)
          ⟨0, none, 0, rfl, by omega, ⟨rfl, .inl ⟨rfl, rfl⟩⟩, hB2, rfl⟩ ⟨rfl, rfl, rfl, rfl, rfl, trivial⟩ ?_
        rintro f w1 m ⟨i, a2, c2, rfl, hi, ho, hB, rfl⟩
        refine dr U 600 rfl trivial ?_
        refine cS rfl rfl rfl rfl (fun hq => ?_) (fun hq => ?_)
        · have hib : i < bs.length := by omega
          have hsl : Sl w1 (sadd a c i 1) (byteCells [bs.getD i 0]) := by
            have h := ((hs0.stay hB).drop i c (by rw [byteCells_length]; exact hc0.1)).take 1
            rw [bc_at bs i hib] at h; exact h
          have hfb := frombytes_calls [bs.getD i 0] 8 (sadd a c i 1) (c - i) w1 hsl (by simp) (by omega)
          rw [show [bs.getD i 0].length = ((i : Int) + 1).toNat - (i : Int).toNat from by simp only [List.length_singleton]; omega] at hfb
          refine dr U 600 rfl (by first | exact True.intro | (simp only [AllP, InR, List.nil_append, List.cons_append, and_true]; omega)) ?_
          refine call (f := 19) rfl rfl cb19 hfb ?_
          rintro v w2 ⟨hr, hB2'⟩
          obtain rfl := hr.uniq (.inr (.inr ⟨by omega, by omega, by simp, rfl⟩))
          refine ⟨_, rfl, ?_⟩
          have hB2 := bl_tr hB hB2' hB.size
          have ho2 := own_bw ho hB2'
          refine dr U 600 rfl trivial ?_
          refine cF rfl rfl rfl ((by decide)) ?_; refine dr U 600 rfl trivial ?_
          refine cF rfl rfl rfl ((fun h => h (by rw [fbits_length]; rfl))) ?_; refine dr U 600 rfl trivial ?_
          refine ap U (v := (.string ⟨⟨fbits [bs.getD i 0] 8⟩⟩)) rfl rfl rfl rfl rfl rfl (fun _ => rfl) rfl (fun _ => rfl) rfl rfl rfl ho2 hB2.size (by omega) (by decide) ?_
          intro a3 c3 w3 ho3 hg3
          refine dr U 600 rfl (by first | exact True.intro | (simp only [AllP, InR, List.nil_append, List.cons_append, and_true]; omega)) ?_
          refine rend _ _ ⟨i + 1, a3, c3, rfl, by omega, by rw [eachb_succ]; exact ho3, hB2.grown hg3 hB2.size (fun g e => (own_block ho2 g e).1), rfl⟩ (by omega) ⟨rfl, rfl, rfl, rfl, iv (by omega), trivial⟩
        · obtain rfl : i = bs.length := by omega
          refine dr U 600 rfl (by first | exact True.intro | (simp only [AllP, InR, List.nil_append, List.cons_append, and_true]; omega)) ?_
          refine call (f := 19) rfl rfl cb19 (frombytes_calls bs (8 * (bs.length : Int)) a c w1 (hs0.stay hB) (by omega) (by omega)) ?_
          rintro v w2 ⟨hr, hB2'⟩
          obtain rfl := hr.uniq (.inr (.inr ⟨by omega, by omega, by omega, rfl⟩))
          refine ⟨_, rfl, ?_⟩
          have hB2 := bl_tr hB hB2' hB.size
          have ho2 := own_bw ho hB2'
          have hfl : (eachb bs bs.length).flatten = fbits bs ((8 * (bs.length : Int))).toNat := by rw [eachb_flat]; congr 1
          have hj := join_calls (eachb bs bs.length) a2 c2 w2 (own_sl ho2) (by rw [eachb_length]; omega) (by rw [hfl, fbits_length]; omega)
          rw [eachb_length] at hj
          refine dr U 600 rfl trivial ?_
          refine call (f := 17) rfl rfl cb17 hj ?_
          rintro v w3 ⟨hr, hB3'⟩
          obtain rfl := hr.uniq (.inr ⟨fun s hs => by obtain ⟨i, _, rfl⟩ := List.mem_map.1 hs; exact fbits_bin _ _, rfl⟩)
          refine ⟨_, rfl, ?_⟩
          rw [hfl]
          refine dr U 600 rfl trivial ?_
          refine cT rfl rfl rfl (rfl) ?_; refine dr U 600 rfl trivial ?_
          refine cT rfl rfl rfl (rfl) ?_; refine dr U 600 rfl trivial ?_
          refine cT rfl rfl rfl (rfl) ?_; refine dr U 600 rfl trivial ?_
          exact ret Tryz.results6 rfl ⟨_, rfl, rfl, bl_tr hB2 hB3' hB2.size⟩
      ·
        refine ⟨_, rfl, ?_⟩
        refine dr U 600 rfl trivial ?_
        refine cF rfl rfl rfl ((by decide)) ?_; refine dr U 600 rfl trivial ?_
        refine cF rfl rfl rfl ((by decide)) ?_; refine dr U 600 rfl trivial ?_
        refine dr U 600 rfl trivial ?_
        refine loopR (fun f w' m => ∃ i a2 c2, f = [(0, .string ⟨⟨b⟩⟩), (1, .int .i64 n), (2, .slice a bs.length c), (13, .slice a2 i c2), (14, .int .i64 (i : Nat))] ∧ i ≤ bs.length ∧ w'.ownsRow w0.heap.size 30 1 (.slice a2 i c2) i (strs (eachb bs i)) ∧ Below w0.heap.size w0 w' ∧ m = bs.length - i)
          ⟨0, none, 0, rfl, by omega, ⟨rfl, .inl ⟨rfl, rfl⟩⟩, hB2, rfl⟩ ⟨rfl, rfl, rfl, rfl, rfl, trivial⟩ ?_
        rintro f w1 m ⟨i, a2, c2, rfl, hi, ho, hB, rfl⟩
        refine dr U 600 rfl trivial ?_
        refine cS rfl rfl rfl rfl (fun hq => ?_) (fun hq => ?_)
        · have hib : i < bs.length := by omega
          have hsl : Sl w1 (sadd a c i 1) (byteCells [bs.getD i 0]) := by
            have h := ((hs0.stay hB).drop i c (by rw [byteCells_length]; exact hc0.1)).take 1
            rw [bc_at bs i hib] at h; exact h
          have hfb := frombytes_calls [bs.getD i 0] 8 (sadd a c i 1) (c - i) w1 hsl (by simp) (by omega)
          rw [show [bs.getD i 0].length = ((i : Int) + 1).toNat - (i : Int).toNat from by simp only [List.length_singleton]; omega] at hfb
          refine dr U 600 rfl (by first | exact True.intro | (simp only [AllP, InR, List.nil_append, List.cons_append, and_true]; omega)) ?_
          refine call (f := 19) rfl rfl cb19 hfb ?_
          rintro v w2 ⟨hr, hB2'⟩
          obtain rfl := hr.uniq (.inr (.inr ⟨by omega, by omega, by simp, rfl⟩))
          refine ⟨_, rfl, ?_⟩
          have hB2 := bl_tr hB hB2' hB.size
          have ho2 := own_bw ho hB2'
          refine dr U 600 rfl trivial ?_
          refine cF rfl rfl rfl ((by decide)) ?_; refine dr U 600 rfl trivial ?_
          refine cF rfl rfl rfl ((fun h => h (by rw [fbits_length]; rfl))) ?_; refine dr U 600 rfl trivial ?_
          refine ap U (v := (.string ⟨⟨fbits [bs.getD i 0] 8⟩⟩)) rfl rfl rfl rfl rfl rfl (fun _ => rfl) rfl (fun _ => rfl) rfl rfl rfl ho2 hB2.size (by omega) (by decide) ?_
          intro a3 c3 w3 ho3 hg3
          refine dr U 600 rfl (by first | exact True.intro | (simp only [AllP, InR, List.nil_append, List.cons_append, and_true]; omega)) ?_
          refine rend _ _ ⟨i + 1, a3, c3, rfl, by omega, by rw [eachb_succ]; exact ho3, hB2.grown hg3 hB2.size (fun g e => (own_block ho2 g e).1), rfl⟩ (by omega) ⟨rfl, rfl, rfl, rfl, iv (by omega), trivial⟩
        · obtain rfl : i = bs.length := by omega
          refine dr U 600 rfl (by first | exact True.intro | (simp only [AllP, InR, List.nil_append, List.cons_append, and_true]; omega)) ?_
          refine call (f := 19) rfl rfl cb19 (frombytes_calls bs (8 * (bs.length : Int)) a c w1 (hs0.stay hB) (by omega) (by omega)) ?_
          rintro v w2 ⟨hr, hB2'⟩
          obtain rfl := hr.uniq (.inr (.inr ⟨by omega, by omega, by omega, rfl⟩))
          refine ⟨_, rfl, ?_⟩
          have hB2 := bl_tr hB hB2' hB.size
          have ho2 := own_bw ho hB2'
          have hfl : (eachb bs bs.length).flatten = fbits bs ((8 * (bs.length : Int))).toNat := by rw [eachb_flat]; congr 1
          have hj := join_calls (eachb bs bs.length) a2 c2 w2 (own_sl ho2) (by rw [eachb_length]; omega) (by rw [hfl, fbits_length]; omega)
          rw [eachb_length] at hj
          refine dr U 600 rfl trivial ?_
          refine call (f := 17) rfl rfl cb17 hj ?_
          rintro v w3 ⟨hr, hB3'⟩
          obtain rfl := hr.uniq (.inr ⟨fun s hs => by obtain ⟨i, _, rfl⟩ := List.mem_map.1 hs; exact fbits_bin _ _, rfl⟩)
          refine ⟨_, rfl, ?_⟩
          rw [hfl]
          refine dr U 600 rfl trivial ?_
          refine cT rfl rfl rfl (rfl) ?_; refine dr U 600 rfl trivial ?_
          refine cT rfl rfl rfl (rfl) ?_; refine dr U 600 rfl trivial ?_
          refine cT rfl rfl rfl (rfl) ?_; refine dr U 600 rfl trivial ?_
          exact ret Tryz.results6 rfl ⟨_, rfl, rfl, bl_tr hB2 hB3' hB2.size⟩
      ·
        refine ⟨_, rfl, ?_⟩
        refine dr U 600 rfl trivial ?_
        refine cF rfl rfl rfl ((by decide)) ?_; refine dr U 600 rfl trivial ?_
        refine cF rfl rfl rfl ((by decide)) ?_; refine dr U 600 rfl trivial ?_
        refine dr U 600 rfl trivial ?_
        refine loopR (fun f w' m => ∃ i a2 c2, f = [(0, .string ⟨⟨b⟩⟩), (1, .int .i64 n), (2, .slice a bs.length c), (13, .slice a2 i c2), (14, .int .i64 (i : Nat))] ∧ i ≤ bs.length ∧ w'.ownsRow w0.heap.size 30 1 (.slice a2 i c2) i (strs (eachb bs i)) ∧ Below w0.heap.size w0 w' ∧ m = bs.length - i)
          ⟨0, none, 0, rfl, by omega, ⟨rfl, .inl ⟨rfl, rfl⟩⟩, hB2, rfl⟩ ⟨rfl, rfl, rfl, rfl, rfl, trivial⟩ ?_
        rintro f w1 m ⟨i, a2, c2, rfl, hi, ho, hB, rfl⟩
        refine dr U 600 rfl trivial ?_
        refine cS rfl rfl rfl rfl (fun hq => ?_) (fun hq => ?_)
        · have hib : i < bs.length := by omega
          have hsl : Sl w1 (sadd a c i 1) (byteCells [bs.getD i 0]) := by
            have h := ((hs0.stay hB).drop i c (by rw [byteCells_length]; exact hc0.1)).take 1
            rw [bc_at bs i hib] at h; exact h
          have hfb := frombytes_calls [bs.getD i 0] 8 (sadd a c i 1) (c - i) w1 hsl (by simp) (by omega)
          rw [show [bs.getD i 0].length = ((i : Int) + 1).toNat - (i : Int).toNat from by simp only [List.length_singleton]; omega] at hfb
          refine dr U 600 rfl (by first | exact True.intro | (simp only [AllP, InR, List.nil_append, List.cons_append, and_true]; omega)) ?_
          refine call (f := 19) rfl rfl cb19 hfb ?_
          rintro v w2 ⟨hr, hB2'⟩
          obtain rfl := hr.uniq (.inr (.inr ⟨by omega, by omega, by simp, rfl⟩))
          refine ⟨_, rfl, ?_⟩
          have hB2 := bl_tr hB hB2' hB.size
          have ho2 := own_bw ho hB2'
          refine dr U 600 rfl trivial ?_
          refine cF rfl rfl rfl ((by decide)) ?_; refine dr U 600 rfl trivial ?_
          refine cF rfl rfl rfl ((fun h => h (by rw [fbits_length]; rfl))) ?_; refine dr U 600 rfl trivial ?_
          refine ap U (v := (.string ⟨⟨fbits [bs.getD i 0] 8⟩⟩)) rfl rfl rfl rfl rfl rfl (fun _ => rfl) rfl (fun _ => rfl) rfl rfl rfl ho2 hB2.size (by omega) (by decide) ?_
          intro a3 c3 w3 ho3 hg3
          refine dr U 600 rfl (by first | exact True.intro | (simp only [AllP, InR, List.nil_append, List.cons_append, and_true]; omega)) ?_
          refine rend _ _ ⟨i + 1, a3, c3, rfl, by omega, by rw [eachb_succ]; exact ho3, hB2.grown hg3 hB2.size (fun g e => (own_block ho2 g e).1), rfl⟩ (by omega) ⟨rfl, rfl, rfl, rfl, iv (by omega), trivial⟩
        · obtain rfl : i = bs.length := by omega
          refine dr U 600 rfl (by first | exact True.intro | (simp only [AllP, InR, List.nil_append, List.cons_append, and_true]; omega)) ?_
          refine call (f := 19) rfl rfl cb19 (frombytes_calls bs (8 * (bs.length : Int)) a c w1 (hs0.stay hB) (by omega) (by omega)) ?_
          rintro v w2 ⟨hr, hB2'⟩
          obtain rfl := hr.uniq (.inr (.inr ⟨by omega, by omega, by omega, rfl⟩))
          refine ⟨_, rfl, ?_⟩
          have hB2 := bl_tr hB hB2' hB.size
          have ho2 := own_bw ho hB2'
          have hfl : (eachb bs bs.length).flatten = fbits bs ((8 * (bs.length : Int))).toNat := by rw [eachb_flat]; congr 1
          have hj := join_calls (eachb bs bs.length) a2 c2 w2 (own_sl ho2) (by rw [eachb_length]; omega) (by rw [hfl, fbits_length]; omega)
          rw [eachb_length] at hj
          refine dr U 600 rfl trivial ?_
          refine call (f := 17) rfl rfl cb17 hj ?_
          rintro v w3 ⟨hr, hB3'⟩
          obtain rfl := hr.uniq (.inr ⟨fun s hs => by obtain ⟨i, _, rfl⟩ := List.mem_map.1 hs; exact fbits_bin _ _, rfl⟩)
          refine ⟨_, rfl, ?_⟩
          rw [hfl]
          refine dr U 600 rfl trivial ?_
          refine cT rfl rfl rfl (rfl) ?_; refine dr U 600 rfl trivial ?_
          refine cT rfl rfl rfl (rfl) ?_; refine dr U 600 rfl trivial ?_
          refine cT rfl rfl rfl (rfl) ?_; refine dr U 600 rfl trivial ?_
          exact ret Tryz.results6 rfl ⟨_, rfl, rfl, bl_tr hB2 hB3' hB2.size⟩
      · refine ⟨_, rfl, ?_⟩
        obtain ⟨k, rfl⟩ : ∃ k : Nat, n = (k : Int) := ⟨n.toNat, by omega⟩
        rw [Int.toNat_natCast] at hm ho
        have hNl : b.length / k ≤ b.length := Nat.div_le_self _ _
        have hNk : b.length / k * k = b.length := Nat.div_mul_cancel (Nat.dvd_of_mod_eq_zero hm)
        have hfl := cuts_whole hm
        have hj := join_calls (cuts k b (b.length / k)) a1 c1 w2 (own_sl ho) (by rw [cuts_length]; omega) (by rw [hfl]; omega)
        rw [cuts_length] at hj
        refine dr U 600 rfl trivial ?_
        refine cT rfl rfl rfl (rfl) ?_; refine dr U 600 rfl trivial ?_
        refine call (f := 17) rfl rfl cb17 hj ?_
        rintro v w3 ⟨hr, hB3'⟩
        obtain rfl := hr.uniq (.inr ⟨cuts_bin hbin _, rfl⟩)
        refine ⟨_, rfl, ?_⟩
        rw [hfl]
        have hB3 := bl_tr hB2 hB3' hB2.size
        have ho3 := own_bw ho hB3'
        refine dr U 600 rfl trivial ?_
        refine call (f := 16) rfl rfl cb16 (cut_calls b k (by omega) hn w3) ?_
        rintro v w4 ⟨hr, hB4'⟩
        have hB4 := bl_tr hB3 hB4' hB3.size
        have ho4 := own_bw ho3 hB4'
        rcases hr with ⟨h, rfl⟩ | ⟨_, h, rfl⟩ | ⟨_, _, _, h, rfl⟩ | ⟨_, _, _, _, a4, c4, rfl, ho4'⟩
        · exact absurd hbin h
        · exfalso; omega
        · exact absurd hm h
        · rw [Int.toNat_natCast] at ho4'
          refine ⟨_, rfl, ?_⟩
          have hsm := same_calls (cuts k b (b.length / k)) (cuts k b (b.length / k)) a4 a1 c4 c1 w4 (own_sl ho4') (own_sl ho4) (by rw [cuts_length]; omega) (by rw [cuts_length]; omega)
          rw [cuts_length, decide_eq_true rfl] at hsm
          refine dr U 600 rfl trivial ?_
          refine cF rfl rfl rfl ((by decide)) ?_; refine dr U 600 rfl trivial ?_
          refine cF rfl rfl rfl ((by decide)) ?_; refine dr U 600 rfl trivial ?_
          refine cF rfl rfl rfl ((fun h => h rfl)) ?_; refine dr U 600 rfl trivial ?_
          refine call (f := 18) rfl rfl cb18 hsm ?_
          rintro v w5 ⟨rfl, hB5'⟩
          refine ⟨_, rfl, ?_⟩
          have hB5 := bl_tr hB4 hB5' hB4.size
          have hmul : ((b.length / k : Nat) : Int) * (k : Int) = (b.length : Int) := by exact_mod_cast hNk
          refine dr U 600 rfl (by simp only [AllP, InR, List.nil_append, List.cons_append, and_true]; show _ ≤ ((b.length / k : Nat) : Int) * (k : Int) ∧ ((b.length / k : Nat) : Int) * (k : Int) ≤ _; rw [hmul]; omega) ?_
          refine cF rfl rfl rfl ((fun h => h hmul)) ?_; refine dr U 600 rfl trivial ?_
          refine dr U 600 rfl trivial ?_
          refine loopR (fun f w' m => ∃ i a2 c2, f = [(0, .string ⟨⟨b⟩⟩), (1, .int .i64 (k : Int)), (2, .slice a bs.length c), (13, .slice a2 i c2), (14, .int .i64 (i : Nat))] ∧ i ≤ bs.length ∧ w'.ownsRow w0.heap.size 30 1 (.slice a2 i c2) i (strs (eachb bs i)) ∧ Below w0.heap.size w0 w' ∧ m = bs.length - i)
            ⟨0, none, 0, rfl, by omega, ⟨rfl, .inl ⟨rfl, rfl⟩⟩, hB5, rfl⟩ ⟨rfl, rfl, rfl, rfl, rfl, trivial⟩ ?_
          rintro f w1 m ⟨i, a2, c2, rfl, hi, ho, hB, rfl⟩
          refine dr U 600 rfl trivial ?_
          refine cS rfl rfl rfl rfl (fun hq => ?_) (fun hq => ?_)
          · have hib : i < bs.length := by omega
            have hsl : Sl w1 (sadd a c i 1) (byteCells [bs.getD i 0]) := by
              have h := ((hs0.stay hB).drop i c (by rw [byteCells_length]; exact hc0.1)).take 1
              rw [bc_at bs i hib] at h; exact h
            have hfb := frombytes_calls [bs.getD i 0] 8 (sadd a c i 1) (c - i) w1 hsl (by simp) (by omega)
            rw [show [bs.getD i 0].length = ((i : Int) + 1).toNat - (i : Int).toNat from by simp only [List.length_singleton]; omega] at hfb
            refine dr U 600 rfl (by first | exact True.intro | (simp only [AllP, InR, List.nil_append, List.cons_append, and_true]; omega)) ?_
            refine call (f := 19) rfl rfl cb19 hfb ?_
            rintro v w2 ⟨hr, hB2'⟩
            obtain rfl := hr.uniq (.inr (.inr ⟨by omega, by omega, by simp, rfl⟩))
            refine ⟨_, rfl, ?_⟩
            have hB2 := bl_tr hB hB2' hB.size
            have ho2 := own_bw ho hB2'
            refine dr U 600 rfl trivial ?_
            refine cF rfl rfl rfl ((by decide)) ?_; refine dr U 600 rfl trivial ?_
            refine cF rfl rfl rfl ((fun h => h (by rw [fbits_length]; rfl))) ?_; refine dr U 600 rfl trivial ?_
            refine ap U (v := (.string ⟨⟨fbits [bs.getD i 0] 8⟩⟩)) rfl rfl rfl rfl rfl rfl (fun _ => rfl) rfl (fun _ => rfl) rfl rfl rfl ho2 hB2.size (by omega) (by decide) ?_
            intro a3 c3 w3 ho3 hg3
            refine dr U 600 rfl (by first | exact True.intro | (simp only [AllP, InR, List.nil_append, List.cons_append, and_true]; omega)) ?_
            refine rend _ _ ⟨i + 1, a3, c3, rfl, by omega, by rw [eachb_succ]; exact ho3, hB2.grown hg3 hB2.size (fun g e => (own_block ho2 g e).1), rfl⟩ (by omega) ⟨rfl, rfl, rfl, rfl, iv (by omega), trivial⟩
          · obtain rfl : i = bs.length := by omega
            refine dr U 600 rfl (by first | exact True.intro | (simp only [AllP, InR, List.nil_append, List.cons_append, and_true]; omega)) ?_
            refine call (f := 19) rfl rfl cb19 (frombytes_calls bs (8 * (bs.length : Int)) a c w1 (hs0.stay hB) (by omega) (by omega)) ?_
            rintro v w2 ⟨hr, hB2'⟩
            obtain rfl := hr.uniq (.inr (.inr ⟨by omega, by omega, by omega, rfl⟩))
            refine ⟨_, rfl, ?_⟩
            have hB2 := bl_tr hB hB2' hB.size
            have ho2 := own_bw ho hB2'
            have hfl : (eachb bs bs.length).flatten = fbits bs ((8 * (bs.length : Int))).toNat := by rw [eachb_flat]; congr 1
            have hj := join_calls (eachb bs bs.length) a2 c2 w2 (own_sl ho2) (by rw [eachb_length]; omega) (by rw [hfl, fbits_length]; omega)
            rw [eachb_length] at hj
            refine dr U 600 rfl trivial ?_
            refine call (f := 17) rfl rfl cb17 hj ?_
            rintro v w3 ⟨hr, hB3'⟩
            obtain rfl := hr.uniq (.inr ⟨fun s hs => by obtain ⟨i, _, rfl⟩ := List.mem_map.1 hs; exact fbits_bin _ _, rfl⟩)
            refine ⟨_, rfl, ?_⟩
            rw [hfl]
            refine dr U 600 rfl trivial ?_
            refine cT rfl rfl rfl (rfl) ?_; refine dr U 600 rfl trivial ?_
            refine cT rfl rfl rfl (rfl) ?_; refine dr U 600 rfl trivial ?_
            refine cT rfl rfl rfl (rfl) ?_; refine dr U 600 rfl trivial ?_
            exact ret Tryz.results6 rfl ⟨_, rfl, rfl, bl_tr hB2 hB3' hB2.size⟩
end Go.Proofs.YtcnbohfejgdcbaaGreatDoor
