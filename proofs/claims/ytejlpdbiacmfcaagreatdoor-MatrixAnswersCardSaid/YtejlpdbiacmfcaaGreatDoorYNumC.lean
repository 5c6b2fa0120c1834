/-
  Plain arithmetic of long division: what the estimate of one digit of a quotient is worth.
  No conditions: each theorem names its own premises.
-/
import Derived.Test.YtejlpdbiacmfcaaGreatDoorYNum
set_option linter.unusedVariables false
namespace Go.Proofs.YtejlpdbiacmfcaaGreatDoor

section
variable {P b1 b2 Vl u2 T Ul U V : Nat}

theorem est_up (hU : U = (T * 1000000000 + u2) * P + Ul) (hUl : Ul < P) (hu2 : u2 < 1000000000) : U < (T + 1) * (1000000000 * P) := by
 have h : (T * 1000000000 + u2 + 1) * P ≤ ((T + 1) * 1000000000) * P := Nat.mul_le_mul_right _ (by omega)
 rw [Nat.add_mul _ 1, Nat.one_mul, Nat.mul_assoc] at h
 omega
theorem est_lo (hV : V = (b1 * 1000000000 + b2) * P + Vl) : b1 * (1000000000 * P) ≤ V := by
 rw [hV, Nat.add_mul, Nat.mul_assoc]; omega

theorem est_init (hV : V = (b1 * 1000000000 + b2) * P + Vl) (hU : U = (T * 1000000000 + u2) * P + Ul) (hUl : Ul < P) (hu2 : u2 < 1000000000) (hb : 0 < b1) : U / V ≤ T / b1 := by
 rcases Nat.lt_or_ge (T / b1) (U / V) with h | h
 ·rw [Nat.div_lt_iff_lt_mul hb] at h
  have h1 : (T + 1) * (1000000000 * P) ≤ U / V * b1 * (1000000000 * P) := Nat.mul_le_mul_right _ h
  have h2 : U / V * (b1 * (1000000000 * P)) ≤ U / V * V := Nat.mul_le_mul_left _ (est_lo hV)
  rw [Nat.mul_assoc] at h1
  have h3 := Nat.div_mul_le_self U V
  have h4 := est_up hU hUl hu2
  omega
 ·exact h

theorem est_more {g r : Nat} (hV : V = (b1 * 1000000000 + b2) * P + Vl) (hU : U = (T * 1000000000 + u2) * P + Ul) (hUl : Ul < P) (hV0 : 0 < V) (hUV : U < V * 1000000000)
  (hg : g * b1 + r = T) (h : 1000000000 ≤ g ∨ r * 1000000000 + u2 < g * b2) : U / V < g := by
 rcases h with h | h
 ·exact Nat.lt_of_lt_of_le (Nat.div_lt_of_lt_mul hUV) h
 ·rw [Nat.div_lt_iff_lt_mul hV0]
  have h1 : T * 1000000000 + u2 + 1 ≤ g * (b1 * 1000000000 + b2) := by
   rw [Nat.mul_add, ← Nat.mul_assoc, ← hg, Nat.add_mul]; omega
  have h2 : (T * 1000000000 + u2 + 1) * P ≤ g * (b1 * 1000000000 + b2) * P := Nat.mul_le_mul_right _ h1
  rw [Nat.add_mul _ 1, Nat.one_mul] at h2
  have h3 : g * V = g * (b1 * 1000000000 + b2) * P + g * Vl := by rw [hV, Nat.mul_add, Nat.mul_assoc]
  omega

theorem est_T (hV : V = (b1 * 1000000000 + b2) * P + Vl) (hVl : Vl < P) (hb2 : b2 < 1000000000) (hU : U = (T * 1000000000 + u2) * P + Ul) (hUV : U < V * 1000000000) : T < (b1 + 1) * 1000000000 := by
 have h1 := est_up hV hVl hb2
 have h2 : T * (1000000000 * P) ≤ U := est_lo hU
 have h3 : T * (1000000000 * P) < (b1 + 1) * 1000000000 * (1000000000 * P) := by
  rw [Nat.mul_right_comm]; omega
 exact Nat.lt_of_mul_lt_mul_right h3

theorem est_done {g r : Nat} (hV : V = (b1 * 1000000000 + b2) * P + Vl) (hVl : Vl < P) (hb2 : b2 < 1000000000) (hU : U = (T * 1000000000 + u2) * P + Ul) (hUV : U < V * 1000000000) (hb : 0 < b1)
  (hg : g * b1 + r = T) (h : 1000000000 ≤ r ∨ (g < 1000000000 ∧ g * b2 ≤ r * 1000000000 + u2)) : g < 1000000000 ∧ g ≤ U / V + 1 := by
 have hV0 : 0 < V := by rw [hV]; have : 0 < (b1 * 1000000000 + b2) * P := Nat.mul_pos (by omega) (by omega); omega
 have hgV : g * V = (g * b1 * 1000000000 + g * b2) * P + g * Vl := by rw [hV, Nat.mul_add, ← Nat.mul_assoc, Nat.mul_add, ← Nat.mul_assoc]
 have hglt : g < 1000000000 := by
  rcases h with h | h
  ·have hT := est_T hV hVl hb2 hU hUV
   rcases Nat.lt_or_ge g 1000000000 with h' | h'
   ·exact h'
   ·have : 1000000000 * b1 ≤ g * b1 := Nat.mul_le_mul_right _ h'
    rw [Nat.add_mul, Nat.mul_comm b1] at hT
    omega
  ·exact h.1
 refine ⟨hglt, ?_⟩
 have hVP : g * Vl ≤ g * P := Nat.mul_le_mul_left _ (Nat.le_of_lt hVl)
 rcases h with h | ⟨_, h⟩
 ·have h1 : g * b2 + g ≤ 1000000000 * 1000000000 := by
   have : g * (b2 + 1) ≤ 1000000000 * 1000000000 := Nat.mul_le_mul (by omega) (by omega)
   rw [Nat.mul_add] at this; omega
  have h2 : (g * b1 * 1000000000 + g * b2 + g) * P ≤ (T * 1000000000 + u2) * P := Nat.mul_le_mul_right _ (by omega)
  rw [Nat.add_mul _ g] at h2
  have h3 : g * V ≤ U := by omega
  have := (Nat.le_div_iff_mul_le hV0).2 h3
  omega
 ·have h1 : g * P ≤ V := by
   have h2 : g * P ≤ 1000000000 * P := Nat.mul_le_mul_right _ (Nat.le_of_lt hglt)
   have h3 : 1 * (1000000000 * P) ≤ b1 * (1000000000 * P) := Nat.mul_le_mul_right _ hb
   have h4 := est_lo hV
   omega
  have h2 : (g * b1 * 1000000000 + g * b2) * P ≤ (T * 1000000000 + u2) * P := Nat.mul_le_mul_right _ (by omega)
  have h3 : g * V ≤ U + V := by omega
  have h4 : (g - 1) * V ≤ U := by rw [Nat.mul_comm, Nat.mul_sub, Nat.mul_comm]; omega
  have := (Nat.le_div_iff_mul_le hV0).2 h4
  omega
end

theorem msub_step {cs us vs : List Nat} {i g cy bo : Nat} (hv : i < vs.length) (hi : i < cs.length) (hl : cs.length = us.length) (hd : cs.drop i = us.drop i)
  (h : val (cs.take i) + g * val (vs.take i) = val (us.take i) + (cy + bo) * pw i) (z bo' : Nat) (hz : z + ((g * vs.getD i 0 + cy) % 1000000000 + bo) = us.getD i 0 + bo' * 1000000000) :
  val ((cs.set i z).take (i + 1)) + g * val (vs.take (i + 1)) = val (us.take (i + 1)) + ((g * vs.getD i 0 + cy) / 1000000000 + bo') * pw (i + 1) := by
 rw [set_take_succ _ _ _ hi, val_snoc, val_take_succ vs i hv, val_take_succ us i (by omega), pw_succ]
 have hlen : (cs.take i).length = i := by simp; omega
 rw [hlen]
 generalize us.getD i 0 = x at *
 generalize vs.getD i 0 = y at *
 have hp := Nat.div_add_mod (g * y + cy) 1000000000
 generalize (g * y + cy) / 1000000000 = k at *
 generalize (g * y + cy) % 1000000000 = m at *
 have e : z + (g * y + cy) + bo = x + (k + bo') * 1000000000 := by omega
 have e2 : pw i * z + pw i * (g * y) + pw i * cy + pw i * bo = pw i * x + (k + bo') * (1000000000 * pw i) := by
  have h1 : (k + bo') * (1000000000 * pw i) = pw i * ((k + bo') * 1000000000) := by rw [← Nat.mul_assoc, Nat.mul_comm]
  rw [h1, ← Nat.mul_add, ← Nat.mul_add, ← Nat.mul_add, ← Nat.mul_add]
  congr 1
  omega
 have e3 : g * (val (vs.take i) + pw i * y) = g * val (vs.take i) + pw i * (g * y) := by rw [Nat.mul_add, Nat.mul_left_comm]
 rw [Nat.add_mul, Nat.mul_comm cy, Nat.mul_comm bo] at h
 omega

theorem addb_step {cs us vs : List Nat} {i cy : Nat} (hv : i < vs.length) (hi : i < cs.length) (hl : cs.length = us.length) (hd : cs.drop i = us.drop i)
  (h : val (cs.take i) + cy * pw i = val (us.take i) + val (vs.take i)) :
  val ((cs.set i ((us.getD i 0 + vs.getD i 0 + cy) % 1000000000)).take (i + 1)) + (us.getD i 0 + vs.getD i 0 + cy) / 1000000000 * pw (i + 1) = val (us.take (i + 1)) + val (vs.take (i + 1)) := by
 rw [set_take_succ _ _ _ hi, val_snoc, val_take_succ vs i hv, val_take_succ us i (by omega), pw_succ]
 have hlen : (cs.take i).length = i := by simp; omega
 rw [hlen]
 generalize us.getD i 0 = x at *
 generalize vs.getD i 0 = y at *
 have hp := Nat.div_add_mod (x + y + cy) 1000000000
 generalize (x + y + cy) / 1000000000 = k at *
 generalize (x + y + cy) % 1000000000 = m at *
 have e2 : pw i * m + k * (1000000000 * pw i) = pw i * x + pw i * y + pw i * cy := by
  have h1 : k * (1000000000 * pw i) = pw i * (k * 1000000000) := by rw [← Nat.mul_assoc, Nat.mul_comm]
  rw [h1, ← Nat.mul_add, ← Nat.mul_add, ← Nat.mul_add]
  congr 1
  omega
 rw [Nat.mul_comm cy] at h
 omega

theorem est_fit {us cs : List Nat} {n g V t un : Nat} (hu : val us = val (us.take n) + pw n * un) (h : val (cs.take n) + g * V = val (us.take n) + t * pw n) (hle : t ≤ un) (hV : 0 < V) (hg : val us / V ≤ g) :
  g = val us / V ∧ val (cs.take n) + pw n * (un - t) = val us % V := by
 have h1 : pw n * (un - t) + t * pw n = pw n * un := by rw [Nat.mul_comm t, ← Nat.mul_add]; congr 1; omega
 have h2 : val us = g * V + (val (cs.take n) + pw n * (un - t)) := by omega
 have h3 : g ≤ val us / V := (Nat.le_div_iff_mul_le hV).2 (by omega)
 have h4 : g = val us / V := by omega
 refine ⟨h4, ?_⟩
 have h5 := Nat.div_add_mod (val us) V
 rw [← h4, Nat.mul_comm] at h5
 omega

theorem est_over {us cs ds : List Nat} {n g V t un cy : Nat} (hu : val us = val (us.take n) + pw n * un) (h : val (cs.take n) + g * V = val (us.take n) + t * pw n) (hlt : un < t) (hV : 0 < V)
  (hg : val us / V ≤ g) (hg2 : g ≤ val us / V + 1) (hc : val (cs.take n) < pw n) (hd : val (ds.take n) < pw n) (hVn : V < pw n) (ha : val (ds.take n) + cy * pw n = val (cs.take n) + V) :
  g - 1 = val us / V ∧ 0 < g ∧ val (ds.take n) = val us % V ∧ un + cy = t := by
 have h1 : pw n * un + (t - un) * pw n = t * pw n := by rw [Nat.mul_comm (t - un), ← Nat.mul_add, Nat.mul_comm]; congr 1; omega
 have h0 : pw n ≤ (t - un) * pw n := by
  have : 1 * pw n ≤ (t - un) * pw n := Nat.mul_le_mul_right _ (by omega)
  omega
 have h2 : val us < g * V := by omega
 have h3 : val us / V < g := (Nat.div_lt_iff_lt_mul hV).2 h2
 have h4 : g = val us / V + 1 := by omega
 refine ⟨by rw [h4]; rfl, by rw [h4]; exact Nat.succ_pos _, ?_⟩
 have h5 := Nat.div_add_mod (val us) V
 have h6 := Nat.mod_lt (val us) hV
 have h7 : g * V = V * (val us / V) + V := by rw [h4, Nat.add_mul, Nat.mul_comm]; omega
 have h9 : val us % V + (t - un) * pw n = val (ds.take n) + cy * pw n := by omega
 have h10 : (t - un) = cy := by
  rcases Nat.lt_trichotomy (t - un) cy with h' | h' | h'
  ·have : (t - un + 1) * pw n ≤ cy * pw n := Nat.mul_le_mul_right _ h'
   rw [Nat.add_mul] at this; omega
  ·exact h'
  ·have : (cy + 1) * pw n ≤ (t - un) * pw n := Nat.mul_le_mul_right _ h'
   rw [Nat.add_mul] at this; omega
 rw [h10] at h9
 exact ⟨by omega, by omega⟩

theorem last0 {us : List Nat} {n V : Nat} (hl : us.length = n + 1) (hv : val us < V) (hV : V ≤ pw n) : us = us.take n ++ [0] ∧ val (us.take n) = val us := by
 have h1 := val_take_succ us n (by omega)
 have h2 := take_snoc us n (by omega)
 rw [take_all (by omega)] at h1 h2
 have h3 : us.getD n 0 = 0 := by
  rcases Nat.eq_zero_or_pos (us.getD n 0) with h | h
  ·exact h
  ·have : pw n * 1 ≤ pw n * us.getD n 0 := Nat.mul_le_mul_left _ h
   omega
 rw [h3] at h1 h2
 exact ⟨h2, by omega⟩

theorem dm_step {u0 rs qd : List Nat} {V i x : Nat} (hi : i < u0.length) (hx : u0.getD i 0 = x) (h : val (u0.drop (i + 1)) = val qd * V + val rs) :
  val (u0.drop i) = val (val (x :: rs) / V :: qd) * V + val (x :: rs) % V := by
 rw [List.drop_eq_getElem_cons hi, val_cons, h, val_cons (val (x :: rs) / V)]
 simp [List.getD, hi] at hx
 rw [hx]
 have h1 := Nat.div_add_mod (val (x :: rs)) V
 have h2 : val (x :: rs) = x + 1000000000 * val rs := val_cons _ _
 generalize val (x :: rs) / V = k at *
 generalize val (x :: rs) % V = l at *
 rw [Nat.add_mul, Nat.mul_add, Nat.mul_comm k, Nat.mul_assoc]
 omega

theorem dm_lt {rs : List Nat} {V x : Nat} (hx : x < 1000000000) (hr : val rs < V) : val (x :: rs) < V * 1000000000 := by
 rw [val_cons]; omega

theorem scale_pos {b1 : Nat} (h : b1 < 1000000000) : 0 < 1000000000 / (b1 + 1) ∧ (1 ≤ b1 → 1000000000 / (b1 + 1) < 1000000000) := by
 refine ⟨Nat.div_pos (by omega) (by omega), fun h1 => Nat.div_lt_self (by omega) (by omega)⟩

theorem lim_top {n : Nat} (h : n ≠ 0) : 0 < (lim n).getD ((lim n).length - 1) 0 := by
 have hl : (lim n).length = ((lim n).length - 1) + 1 := by
  have : lim n ≠ [] := fun e => h (lim_eq_nil.1 e)
  have := List.length_pos_iff.2 this
  omega
 have h1 := lim_len_ge hl
 have h2 := val_take_succ (lim n) ((lim n).length - 1) (by omega)
 rw [take_all (by omega), val_lim] at h2
 have h3 := val_lt ((lim_Lm n).take ((lim n).length - 1))
 simp only [List.length_take] at h3
 rw [Nat.min_eq_left (by omega)] at h3
 rcases Nat.eq_zero_or_pos ((lim n).getD ((lim n).length - 1) 0) with h4 | h4
 ·rw [h4] at h2; omega
 ·exact h4
end Go.Proofs.YtejlpdbiacmfcaaGreatDoor
