/- Half a step of Div64, in plain numbers. -/
import Derived.Test.YtbklepgbieohiaaD6
namespace Go.Proofs.Ytbklepgbieohiaa
open Go.RowKit

/-- The state of one of Div64's loops. -/
structure HalfIn (u n1 y1 y0 q r : Nat) : Prop where
  eq : q * y1 + r = u
  ge : (u * C32 + n1) / (y1 * C32 + y0) ≤ q

theorem HalfIn.start {u n1 y1 y0 : Nat} (h1 : 0 < y1) (hn : n1 < C32) : HalfIn u n1 y1 y0 (u / y1) (u % y1) := by
  refine ⟨by rw [Nat.mul_comm]; exact Nat.div_add_mod u y1, ?_⟩
  have hc : 0 < C32 := by decide
  have a1 : (u * C32 + n1) / (y1 * C32 + y0) ≤ (u * C32 + n1) / (y1 * C32) := Nat.div_le_div_left (Nat.le_add_right _ _) (Nat.mul_pos h1 hc)
  have a2 : (u * C32 + n1) / (y1 * C32) = u / y1 := by
    rw [Nat.mul_comm y1, ← Nat.div_div_eq_div_mul]
    congr 1
    rw [Nat.mul_comm, Nat.mul_add_div hc, Nat.div_eq_of_lt hn, Nat.add_zero]
  omega

/-- The test strikes: one less. -/
theorem HalfIn.step {u n1 y1 y0 q r : Nat} (h : HalfIn u n1 y1 y0 q r) (hu : u < y1 * C32 + y0) (hn : n1 < C32) (ht : C32 ≤ q ∨ r * C32 + n1 < q * y0) : 1 ≤ q ∧ HalfIn u n1 y1 y0 (q - 1) (r + y1) := by
  have hy : 0 < y1 * C32 + y0 := by omega
  have hlt : (u * C32 + n1) / (y1 * C32 + y0) < q := by
    refine (Nat.div_lt_iff_lt_mul hy).2 ?_
    rcases ht with ht | ht
    · have h1 : C32 * (y1 * C32 + y0) ≤ q * (y1 * C32 + y0) := Nat.mul_le_mul_right _ ht
      have h2 : (u + 1) * C32 ≤ (y1 * C32 + y0) * C32 := Nat.mul_le_mul_right _ hu
      rw [Nat.mul_comm C32] at h1
      rw [Nat.add_mul] at h2
      omega
    · have e := h.eq
      have e2 : q * (y1 * C32 + y0) = q * y1 * C32 + q * y0 := by rw [Nat.mul_add, Nat.mul_assoc]
      have e3 : u * C32 = q * y1 * C32 + r * C32 := by rw [← e, Nat.add_mul]
      rw [e2, e3]
      omega
  have hq1 : 0 < q := Nat.lt_of_le_of_lt (Nat.zero_le _) hlt
  refine ⟨hq1, ⟨?_, Nat.le_sub_one_of_lt hlt⟩⟩
  have e := h.eq
  obtain ⟨k, rfl⟩ : ∃ k, q = k + 1 := ⟨q - 1, by omega⟩
  rw [Nat.add_mul] at e
  simp only [Nat.add_sub_cancel]
  omega

/-- The test does not strike, or the remainder has grown over: the digit is right. -/
theorem HalfIn.done {u n1 y1 y0 q r : Nat} (h : HalfIn u n1 y1 y0 q r) (hy : 0 < y1) (ht : q * y0 ≤ r * C32 + n1) : q = (u * C32 + n1) / (y1 * C32 + y0) := by
  have hc : 0 < C32 := by decide
  have hyy : 0 < y1 * C32 + y0 := by have := Nat.mul_pos hy hc; omega
  refine Nat.le_antisymm ?_ h.ge
  have e2 : q * (y1 * C32 + y0) = q * y1 * C32 + q * y0 := by rw [Nat.mul_add, Nat.mul_assoc]
  have e3 : u * C32 = q * y1 * C32 + r * C32 := by rw [← h.eq, Nat.add_mul]
  rw [Nat.le_div_iff_mul_le hyy, e2, e3]
  omega
/-- The remainder has grown over: the test would not strike. -/
theorem HalfIn.over {u n1 y1 y0 q r : Nat} (h : HalfIn u n1 y1 y0 q r) (hu : u < y1 * C32 + y0) (hy0 : y0 < C32) (hr : C32 ≤ r) : q * y0 ≤ r * C32 + n1 := by
  have hq : q ≤ C32 := by
    apply Nat.le_of_not_lt
    intro hlt
    have h1 : (C32 + 1) * y1 ≤ q * y1 := Nat.mul_le_mul_right _ hlt
    have h2 := h.eq
    rw [Nat.add_mul, Nat.mul_comm C32] at h1
    omega
  have h3 : q * y0 ≤ C32 * C32 := Nat.mul_le_mul hq (Nat.le_of_lt hy0)
  have h4 : C32 * C32 ≤ r * C32 := Nat.mul_le_mul_right _ hr
  omega

/-- The true digit is one. -/
theorem half_lt {u n1 y1 y0 : Nat} (hu : u < y1 * C32 + y0) (hn : n1 < C32) : (u * C32 + n1) / (y1 * C32 + y0) < C32 := by
  refine (Nat.div_lt_iff_lt_mul (by omega)).2 ?_
  have h2 : (u + 1) * C32 ≤ (y1 * C32 + y0) * C32 := Nat.mul_le_mul_right _ hu
  rw [Nat.add_mul] at h2
  rw [Nat.mul_comm C32 (y1 * C32 + y0)]
  omega
end Go.Proofs.Ytbklepgbieohiaa
