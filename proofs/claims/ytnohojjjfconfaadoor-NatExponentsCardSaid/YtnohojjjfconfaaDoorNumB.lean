/-
  Plain arithmetic: the steps of addition, subtraction, multiplication and short division on limbs; no program in sight.
  No conditions: each theorem names its own premises.
-/
import Derived.Test.YtnohojjjfconfaaDoorNum
set_option linter.unusedVariables false
namespace Go.Proofs.YtnohojjjfconfaaDoor

theorem add_can0 {zs : List Nat} {m n : Nat} (h : Lm zs) (hl : zs.length = (lim m).length) (hv : val zs = m + n) : zs = lim (m + n) := by
  rw [← hv, lim_val h]
  intro k hk
  rw [hv]
  have := lim_len_ge (n := m) (k := k) (by omega)
  omega

theorem add_can1 {zs : List Nat} {m n : Nat} (h : Lm zs) (hl : zs.length = (lim m).length) (hv : val zs + 1 * pw (lim m).length = m + n) : zs ++ [1] = lim (m + n) := by
  have h1 : val (zs ++ [1]) = m + n := by rw [val_snoc, hl]; omega
  rw [← h1, lim_val (h.snoc (by omega))]
  intro k hk
  simp at hk
  rw [val_snoc, ← hk]
  have := pw_pos zs.length
  omega

/-- One step of an addition. -/
theorem add_step {zs xs ys : List Nat} {i cy : Nat} (hi : i < xs.length) (hz : zs.length = i) (y : Nat) (hy : val (ys.take (i + 1)) = val (ys.take i) + pw i * y)
    (h : val zs + cy * pw i = val (xs.take i) + val (ys.take i)) :
    val (zs ++ [(xs.getD i 0 + cy + y) % 1000000000]) + (xs.getD i 0 + cy + y) / 1000000000 * pw (i + 1) = val (xs.take (i + 1)) + val (ys.take (i + 1)) := by
  rw [val_snoc, hz, hy, val_take_succ xs i hi, pw_succ]
  generalize xs.getD i 0 = x at *
  have e : pw i * ((x + cy + y) % 1000000000) + (x + cy + y) / 1000000000 * (1000000000 * pw i) = pw i * x + cy * pw i + pw i * y := by
    have h1 : (x + cy + y) / 1000000000 * (1000000000 * pw i) = pw i * (1000000000 * ((x + cy + y) / 1000000000)) := by
      rw [← Nat.mul_assoc, Nat.mul_comm, Nat.mul_comm ((x + cy + y) / 1000000000)]
    rw [h1, ← Nat.mul_add, Nat.mod_add_div]
    simp only [Nat.mul_add, Nat.mul_comm cy]
  omega

theorem take_all {xs : List Nat} {i : Nat} (h : xs.length ≤ i) : xs.take i = xs := List.take_of_length_le h

theorem val_take_beyond (ys : List Nat) (i : Nat) (h : ys.length ≤ i) : val (ys.take (i + 1)) = val (ys.take i) + pw i * 0 := by
  rw [take_all h, take_all (by omega)]; simp

/-- One step of a subtraction. -/
theorem sub_step {zs xs ys : List Nat} {i bo : Nat} (hi : i < xs.length) (hz : zs.length = i) (hx : Lm xs) (y : Nat) (hy1 : y < 1000000000) (hbo : bo ≤ 1) (hy : val (ys.take (i + 1)) = val (ys.take i) + pw i * y)
    (h : val zs + val (ys.take i) = val (xs.take i) + bo * pw i) (z bo' : Nat) (hzv : z + (bo + y) = xs.getD i 0 + bo' * 1000000000) :
    val (zs ++ [z]) + val (ys.take (i + 1)) = val (xs.take (i + 1)) + bo' * pw (i + 1) := by
  rw [val_snoc, hz, hy, val_take_succ xs i hi, pw_succ]
  generalize xs.getD i 0 = x at *
  have e : pw i * z + (pw i * bo + pw i * y) = pw i * x + bo' * (1000000000 * pw i) := by
    have h1 : bo' * (1000000000 * pw i) = pw i * (bo' * 1000000000) := by
      rw [← Nat.mul_assoc, Nat.mul_comm]
    rw [h1, ← Nat.mul_add, ← Nat.mul_add, ← Nat.mul_add, hzv]
  rw [Nat.mul_comm bo] at h
  omega

theorem set_snoc (zs : List Nat) (r : Nat) (z : Nat) (hr : 0 < r) : (zs ++ List.replicate r 0).set zs.length z = (zs ++ [z]) ++ List.replicate (r - 1) 0 := by
  obtain ⟨s, rfl⟩ : ∃ s, r = s + 1 := ⟨r - 1, by omega⟩
  simp [List.replicate_succ]

theorem set_take_succ (cs : List Nat) (j z : Nat) (h : j < cs.length) : (cs.set j z).take (j + 1) = cs.take j ++ [z] := by
  rw [List.take_succ_eq_append_getElem (by simpa using h)]; simp [List.take_set_of_le]
theorem set_drop_succ (cs : List Nat) (j z : Nat) : (cs.set j z).drop (j + 1) = cs.drop (j + 1) := by
  rw [List.drop_set_of_lt (by omega)]

theorem getD_of_drop {cs ds : List Nat} {j : Nat} (h : cs.drop j = ds.drop j) : cs.getD j 0 = ds.getD j 0 := by
  have h1 : (cs.drop j)[0]? = (ds.drop j)[0]? := by rw [h]
  simp at h1
  simp [List.getD, h1]

theorem drop_succ_of_drop {cs ds : List Nat} {j : Nat} (h : cs.drop j = ds.drop j) : cs.drop (j + 1) = ds.drop (j + 1) := by
  rw [← List.drop_drop (i := 1) (j := j), ← List.drop_drop (i := 1) (j := j), h]

/-- One step of the inner loop of a multiplication. -/
theorem mul_step {cs out ys : List Nat} {i k cy x : Nat} (hk : k < ys.length) (hj : i + k < cs.length) (hl : cs.length = out.length) (hd : cs.drop (i + k) = out.drop (i + k))
    (h : val (cs.take (i + k)) + cy * pw (i + k) = val (out.take (i + k)) + x * (pw i * val (ys.take k))) :
    val ((cs.set (i + k) ((cs.getD (i + k) 0 + x * ys.getD k 0 + cy) % 1000000000)).take (i + k + 1)) + (cs.getD (i + k) 0 + x * ys.getD k 0 + cy) / 1000000000 * pw (i + k + 1) =
      val (out.take (i + k + 1)) + x * (pw i * val (ys.take (k + 1))) := by
  rw [set_take_succ _ _ _ hj, val_snoc, val_take_succ out (i + k) (by omega), val_take_succ ys k hk, getD_of_drop hd, pw_succ]
  have hlen : (cs.take (i + k)).length = i + k := by simp; omega
  rw [hlen]
  generalize out.getD (i + k) 0 = o
  generalize ys.getD k 0 = y
  have e : pw (i + k) * ((o + x * y + cy) % 1000000000) + (o + x * y + cy) / 1000000000 * (1000000000 * pw (i + k)) = pw (i + k) * o + pw (i + k) * (x * y) + cy * pw (i + k) := by
    have h1 : (o + x * y + cy) / 1000000000 * (1000000000 * pw (i + k)) = pw (i + k) * (1000000000 * ((o + x * y + cy) / 1000000000)) := by
      rw [← Nat.mul_assoc, Nat.mul_comm, Nat.mul_comm ((o + x * y + cy) / 1000000000)]
    rw [h1, ← Nat.mul_add, Nat.mod_add_div]
    simp only [Nat.mul_add, Nat.mul_comm cy]
  have e2 : x * (pw i * (val (ys.take k) + pw k * y)) = x * (pw i * val (ys.take k)) + pw (i + k) * (x * y) := by
    rw [pw_add, Nat.mul_add, Nat.mul_add]
    congr 1
    rw [← Nat.mul_assoc (pw i), Nat.mul_left_comm]
  omega

/-- The end of the inner loop: the carry takes the next limb. -/
theorem mul_round {cs zs xs ys : List Nat} {i r cy : Nat} (hi : i < xs.length) (hz : zs.length = i + ys.length) (hr : 0 < r) (hl : cs.length = (zs ++ List.replicate r 0).length)
    (hd : cs.drop (i + ys.length) = (zs ++ List.replicate r 0).drop (i + ys.length)) (hv : val zs = val (xs.take i) * val ys)
    (h : val (cs.take (i + ys.length)) + cy * pw (i + ys.length) = val ((zs ++ List.replicate r 0).take (i + ys.length)) + xs.getD i 0 * (pw i * val (ys.take ys.length))) :
    ∃ zs', cs.set (i + ys.length) cy = zs' ++ List.replicate (r - 1) 0 ∧ zs'.length = i + 1 + ys.length ∧ val zs' = val (xs.take (i + 1)) * val ys := by
  have hlen : (cs.take (i + ys.length)).length = i + ys.length := by
    simp at hl ⊢; omega
  refine ⟨cs.take (i + ys.length) ++ [cy], ?_, by simp [hlen]; omega, ?_⟩
  · have h1 : i + ys.length < cs.length := by simp at hl; omega
    rw [← List.take_append_drop (i + ys.length + 1) (cs.set (i + ys.length) cy), set_take_succ _ _ _ h1, set_drop_succ, drop_succ_of_drop hd]
    congr 1
    rw [← hz]
    simp [List.drop_append]
  · rw [val_snoc, hlen, val_take_succ xs i hi, Nat.add_mul, ← hv]
    rw [← hz, List.take_left, take_all (Nat.le_refl _)] at h
    rw [hz] at h
    rw [Nat.mul_comm (pw (i + ys.length)), Nat.mul_comm (pw i), Nat.mul_assoc]
    exact h
end Go.Proofs.YtnohojjjfconfaaDoor
