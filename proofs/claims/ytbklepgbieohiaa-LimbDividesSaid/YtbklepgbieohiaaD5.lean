/- left, in plain numbers. -/
import Derived.Test.YtbklepgbieohiaaD4
namespace Go.Proofs.Ytbklepgbieohiaa
open Go.RowKit

/-- The state of left: p is two to the shift. -/
structure LeftIn (L : List Nat) (p k : Nat) (A : List Nat) : Prop where
  len : A.length = L.length + 1
  dig : Dig A
  eq : val A = val (L.take k) * p
  low : nth A k < p
  top : ∀ q, k < q → nth A q = 0

theorem mH_lt {x p : Nat} (hx : x < B) (hp : 0 < p) : mH x p < p := by
  unfold mH
  exact Nat.div_lt_of_lt_mul (Nat.mul_lt_mul_of_pos_right hx hp)

theorem LeftIn.step {L A : List Nat} {p k : Nat} (h : LeftIn L p k A) (hk : k < L.length) (hd : Dig L) (hp : 0 < p) (hpB : p ≤ B) (hsum : nth A k + mL (nth L k) p < B) :
    LeftIn L p (k + 1) ((A.set k (nth A k + mL (nth L k) p)).set (k + 1) (mH (nth L k) p)) := by
  have hl := h.len
  have hh : mH (nth L k) p < p := mH_lt (hd.get k) hp
  have hB : mH (nth L k) p < B := by omega
  refine ⟨by simp [hl], (h.dig.set _ hsum).set _ hB, ?_, ?_, fun q hq => ?_⟩
  · have h1 := val_set (L := A) (k := k) (by omega) (nth A k + mL (nth L k) p)
    have h2 := val_set (L := A.set k (nth A k + mL (nth L k) p)) (k := k + 1) (by simp; omega) (mH (nth L k) p)
    rw [nth_set_ne (by omega), h.top (k + 1) (by omega)] at h2
    have h3 := val_take_succ (L := L) (k := k) hk
    have hm : mL (nth L k) p + B * mH (nth L k) p = nth L k * p := Nat.mod_add_div _ _
    have h4 : B ^ k * mL (nth L k) p + B ^ (k + 1) * mH (nth L k) p = B ^ k * (nth L k * p) := by
      rw [Nat.pow_succ, Nat.mul_assoc, ← Nat.mul_add, hm]
    rw [Nat.mul_add] at h1
    rw [h3, Nat.add_mul, Nat.mul_assoc, ← h.eq]
    omega
  · rw [nth_set (by simp; omega), if_pos rfl]; exact hh
  · rw [nth_set_ne (by omega), nth_set_ne (by omega)]; exact h.top q (by omega)
theorem LeftIn.start {L : List Nat} {p : Nat} (hp : 0 < p) : LeftIn L p 0 (List.replicate (L.length + 1) 0) := by
  have hz : ∀ q, nth (List.replicate (L.length + 1) 0) q = 0 := nth_zeros _
  refine ⟨by simp, fun x hx => ?_, ?_, by rw [hz]; exact hp, fun q _ => hz q⟩
  · rw [List.eq_of_mem_replicate hx]; exact B_pos
  · have : ∀ n, val (List.replicate n 0) = 0 := fun n => by
      induction n with
      | zero => rfl
      | succ n ih => rw [List.replicate_succ]; simp [val, ih]
    rw [this]; simp [val]

theorem LeftIn.done {L A : List Nat} {p : Nat} (h : LeftIn L p L.length A) : val A = val L * p := by
  have := h.eq
  rwa [List.take_length] at this
end Go.Proofs.Ytbklepgbieohiaa
