/- The loop of Divide, in plain numbers. -/
import Derived.Test.YtbklepgbieohiaaL
import Derived.Test.YtbklepgbieohiaaD6
namespace Go.Proofs.Ytbklepgbieohiaa
open Go.RowKit

theorem Bpow_pos (k : Nat) : 0 < B ^ k := Nat.pow_pos B_pos

theorem val_div_pow {A : List Nat} (hd : Dig A) {k : Nat} (hk : k ≤ A.length) : val A / B ^ k = val (A.drop k) := by
  have h := val_split A k hk
  have h2 := val_lt (hd.take k)
  rw [List.length_take, Nat.min_eq_left hk] at h2
  rw [h, Nat.add_comm, Nat.mul_add_div (Bpow_pos k), Nat.div_eq_of_lt h2, Nat.add_zero]

theorem val_digit {A : List Nat} (hd : Dig A) {k : Nat} (hk : k < A.length) : val A / B ^ k = nth A k + B * (val A / B ^ (k + 1)) := by
  rw [val_div_pow hd (Nat.le_of_lt hk), val_div_pow hd hk, drop_cons hk]; rfl

theorem val_zero_all {L : List Nat} (h : ∀ j, nth L j = 0) : val L = 0 := by
  rw [val_vb]; exact vb_zero fun j _ => h j

theorem nth_drop (L : List Nat) (k j : Nat) : nth (L.drop k) j = nth L (k + j) := by
  simp [nth, List.getD_eq_getElem?_getD, List.getElem?_drop]

theorem val_lt_top {L : List Nat} {k : Nat} (hd : Dig L) (h : ∀ p, k ≤ p → nth L p = 0) : val L < B ^ k := by
  by_cases hk : k ≤ L.length
  · have e := val_split L k hk
    have h2 := val_lt (hd.take k)
    rw [List.length_take, Nat.min_eq_left hk] at h2
    rw [val_zero_all (L := L.drop k) fun j => by rw [nth_drop]; exact h _ (by omega), Nat.mul_zero] at e
    omega
  · have h2 := val_lt hd
    exact Nat.lt_of_lt_of_le h2 (Nat.pow_le_pow_right B_pos (by omega))

theorem nth_top {A : List Nat} {k : Nat} (hd : Dig A) (h : val A < B ^ k) {p : Nat} (hp : k ≤ p) : nth A p = 0 := by
  by_cases hl : p < A.length
  · have h1 := val_digit hd hl
    have h2 : val A / B ^ p = 0 := Nat.div_eq_of_lt (Nat.lt_of_lt_of_le h (Nat.pow_le_pow_right B_pos hp))
    omega
  · simp [nth, List.getD_eq_getElem?_getD, List.getElem?_eq_none (show A.length ≤ p by omega)]

/-- The guessed digit. -/
def guessN (high low top : Nat) : Nat := if top ≤ high then 18446744073709551615 else (high * B + low) / top

/-- The state of Divide: i digits of the quotient are still to come. -/
structure DivIn (V D n i : Nat) (A Q : List Nat) : Prop where
  len : A.length = 9
  dig : Dig A
  qlen : Q.length = 8
  qdig : Dig Q
  eq : val A + D * val Q = V
  low : val A / B ^ i < D
  qz : ∀ j, j < i → nth Q j = 0

/-- The state while a digit is made right. -/
structure TakenIn (A D o n x br : Nat) (A1 : List Nat) : Prop where
  len : A1.length = 9
  dig : Dig A1
  bor : br ≤ 1
  xlt : x < B
  eq : val A1 + B ^ o * (x * D) = A + B ^ (o + n + 1) * br
  ge : A / B ^ o / D ≤ x
  rest : ∀ p, o + n < p → nth A1 p = 0

theorem DivIn.under {V D n o : Nat} {A Q : List Nat} (h : DivIn V D n (o + 1) A Q) (hD : D ≤ B ^ n) : val A < B ^ (o + n + 1) := by
  have h1 := h.low
  rw [Nat.div_lt_iff_lt_mul (Bpow_pos _)] at h1
  refine Nat.lt_of_lt_of_le h1 ?_
  rw [show o + n + 1 = n + (o + 1) by omega, Nat.pow_add B n (o + 1)]
  exact Nat.mul_le_mul_right _ hD

theorem DivIn.guess {V o n : Nat} {A Q M : List Nat} (h : DivIn V (val M) n (o + 1) A Q) (hM : M.length = n) (hdM : Dig M) (hn : 0 < n) (ho : o + n < 9)
    (ht : 0 < nth M (n - 1)) : val A / B ^ o / val M ≤ guessN (nth A (o + n)) (nth A (o + n - 1)) (nth M (n - 1)) ∧ guessN (nth A (o + n)) (nth A (o + n - 1)) (nth M (n - 1)) < B := by
  obtain ⟨k, rfl⟩ : ∃ k, n = k + 1 := ⟨n - 1, by omega⟩
  have hDlt : val M < B ^ (k + 1) := by have := val_lt hdM; rw [hM] at this; exact this
  have hv := h.under (Nat.le_of_lt hDlt)
  rw [Nat.add_sub_cancel, show o + (k + 1) - 1 = o + k by omega] at *
  have e1 := val_digit h.dig (k := o + k) (by rw [h.len]; omega)
  have e2 := val_digit h.dig (k := o + (k + 1)) (by rw [h.len]; omega)
  rw [Nat.div_eq_of_lt hv, Nat.mul_zero, Nat.add_zero] at e2
  rw [show o + k + 1 = o + (k + 1) by omega, e2] at e1
  have hlo := h.dig.get (o + k)
  have hDge : nth M k * B ^ k ≤ val M := by
    have a := val_digit hdM (k := k) (by omega)
    have b : val M / B ^ (k + 1) = 0 := Nat.div_eq_of_lt hDlt
    rw [b, Nat.mul_zero, Nat.add_zero] at a
    rw [← a]
    exact Nat.div_mul_le_self _ _
  have hD0 : 0 < val M := Nat.lt_of_lt_of_le (Nat.mul_pos ht (Bpow_pos k)) hDge
  have hlt : val A / B ^ o / val M < B := by
    rw [Nat.div_lt_iff_lt_mul hD0]
    have a := val_digit h.dig (k := o) (by rw [h.len]; omega)
    have b := h.low
    have c := h.dig.get o
    have d : B * (val A / B ^ (o + 1) + 1) ≤ B * val M := Nat.mul_le_mul_left _ b
    rw [Nat.mul_add] at d
    omega
  unfold guessN
  split
  · rename_i hc
    simp only [B] at *
    omega
  · rename_i hc
    refine ⟨?_, ?_⟩
    · have a : val A / B ^ o / val M ≤ val A / B ^ o / (nth M k * B ^ k) := Nat.div_le_div_left hDge (Nat.mul_pos ht (Bpow_pos k))
      have e3 : val A / B ^ o / (nth M k * B ^ k) = val A / B ^ (o + k) / nth M k := by
        rw [Nat.mul_comm (nth M k), ← Nat.div_div_eq_div_mul, Nat.div_div_eq_div_mul (val A) (B ^ o) (B ^ k), ← Nat.pow_add]
      rw [e3, e1, Nat.add_zero, Nat.add_comm (nth A (o + k)), Nat.mul_comm B] at a
      exact a
    · rw [Nat.div_lt_iff_lt_mul ht]
      have d : (nth A (o + (k + 1)) + 1) * B ≤ nth M k * B := Nat.mul_le_mul_right _ (by omega)
      rw [Nat.add_mul] at d
      rw [Nat.mul_comm B]
      omega

/-- Too much was taken: the digit is too great, and less by one is still enough. -/
theorem TakenIn.over {A D o n x : Nat} {A1 : List Nat} (h : TakenIn A D o n x 1 A1) (hD : 0 < D) : A / B ^ o / D < x := by
  have h1 := val_lt_top (k := o + n + 1) h.dig fun p hp => h.rest p (by omega)
  have h2 := h.eq
  rw [Nat.mul_one] at h2
  have h3 : A < B ^ o * (x * D) := by omega
  refine (Nat.div_lt_iff_lt_mul hD).2 ((Nat.div_lt_iff_lt_mul (Bpow_pos o)).2 ?_)
  rw [Nat.mul_comm]
  exact h3

theorem TakenIn.give {A D o n x : Nat} {A1 A2 : List Nat} (h : TakenIn A D o n x 1 A1) (hD : 0 < D) (hl : A2.length = A1.length) (hd : Dig A2)
    (he : val A2 + B ^ (o + n + 1) * (if nth A1 (o + n) ≤ nth A2 (o + n) then 0 else 1) = val A1 + B ^ o * D) (hr : ∀ p, o + n < p → nth A2 p = nth A1 p) :
    1 ≤ x ∧ TakenIn A D o n (x - 1) (if nth A1 (o + n) ≤ nth A2 (o + n) then 1 else 0) A2 := by
  have h0 := h.over hD
  have hz := Nat.zero_le (A / B ^ o / D)
  refine ⟨by omega, by rw [hl, h.len], hd, by split <;> omega, by have := h.xlt; omega, ?_, by omega, fun p hp => by rw [hr p hp]; exact h.rest p hp⟩
  have h2 := h.eq
  obtain ⟨k, rfl⟩ : ∃ k, x = k + 1 := ⟨x - 1, by omega⟩
  rw [Nat.add_sub_cancel]
  rw [Nat.add_mul, Nat.one_mul, Nat.mul_add] at h2
  split <;> rename_i hc
  · rw [if_pos hc] at he; omega
  · rw [if_neg hc] at he; omega

theorem TakenIn.done {V D n o x : Nat} {A Q A1 : List Nat} (g : DivIn V D n (o + 1) A Q) (h : TakenIn (val A) D o n x 0 A1) (hD : 0 < D) (ho : o < 8) : DivIn V D n o A1 (Q.set o x) := by
  have h2 := h.eq
  rw [Nat.mul_zero, Nat.add_zero] at h2
  have hq := val_set (L := Q) (k := o) (by rw [g.qlen]; exact ho) x
  rw [g.qz o (by omega), Nat.mul_zero, Nat.add_zero] at hq
  have e := g.eq
  have e2 : D * (B ^ o * x) = B ^ o * (x * D) := by rw [Nat.mul_left_comm, Nat.mul_comm D]
  refine ⟨h.len, h.dig, by simp [g.qlen], g.qdig.set _ h.xlt, ?_, ?_, fun j hj => by rw [nth_set_ne (by omega)]; exact g.qz j (by omega)⟩
  · rw [hq, Nat.mul_add, e2]; omega
  · rw [Nat.div_lt_iff_lt_mul (Bpow_pos o)]
    have h3 := h.ge
    have h4 : val A / B ^ o < (x + 1) * D := by rw [← Nat.div_lt_iff_lt_mul hD]; omega
    rw [Nat.div_lt_iff_lt_mul (Bpow_pos o), Nat.add_mul, Nat.one_mul, Nat.add_mul, Nat.mul_comm (x * D)] at h4
    omega
end Go.Proofs.Ytbklepgbieohiaa
