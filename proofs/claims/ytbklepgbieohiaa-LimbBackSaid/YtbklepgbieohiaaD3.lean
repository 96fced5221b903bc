/- take, in plain numbers. -/
import Derived.Test.YtbklepgbieohiaaD2
namespace Go.Proofs.Ytbklepgbieohiaa
open Go.RowKit

/-- The state of take. -/
structure TakeIn (A D : List Nat) (q o k br ca : Nat) (A' : List Nat) : Prop where
  len : A'.length = A.length
  dig : Dig A'
  bor : br ≤ 1
  car : ca < B
  eq : val A' + B ^ o * (q * val (D.take k)) = val A + B ^ (o + k) * (br + ca)
  rest : ∀ p, o + k ≤ p → nth A' p = nth A p

theorem TakeIn.start {A D : List Nat} {q o : Nat} (h : Dig A) : TakeIn A D q o 0 0 0 A := ⟨rfl, h, by omega, B_pos, by simp [val], fun _ _ => rfl⟩

theorem TakeIn.step {A D A' : List Nat} {q o k br ca d br' ca' low : Nat} (h : TakeIn A D q o k br ca A') (hk : k < D.length) (ho : o + k < A.length)
    (hm : low + B * ca' = q * nth D k + ca) (hs : d + low + br = nth A' (o + k) + br' * B) (hd : d < B) (hb : br' ≤ 1) (hc : ca' < B) :
    TakeIn A D q o (k + 1) br' ca' (A'.set (o + k) d) := by
  refine ⟨by simp [h.len], h.dig.set _ hd, hb, hc, ?_, fun p hp => by rw [nth_set_ne (by omega)]; exact h.rest p (by omega)⟩
  have h1 := val_set (L := A') (k := o + k) (by rw [h.len]; omega) d
  have h2 := h.eq
  have h3 : B ^ o * (q * val (D.take (k + 1))) = B ^ o * (q * val (D.take k)) + B ^ (o + k) * (q * nth D k) := by
    rw [val_take_succ hk, Nat.mul_add, Nat.mul_add, Nat.pow_add]
    simp only [Nat.mul_assoc, Nat.mul_left_comm]
  have h4 : B ^ (o + k) * (br + ca) + B ^ (o + k) * d + B ^ (o + k) * (q * nth D k) = B ^ (o + k) * nth A' (o + k) + B ^ (o + (k + 1)) * (br' + ca') := by
    rw [← Nat.add_assoc, Nat.pow_succ, Nat.mul_assoc, ← Nat.mul_add, ← Nat.mul_add, ← Nat.mul_add]
    congr 1
    rw [Nat.mul_add, Nat.mul_comm B br']
    omega
  rw [h3]
  omega

/-- Behind the last digit. -/
theorem TakeIn.done {A D A' : List Nat} {q o n br ca d br' : Nat} (h : TakeIn A D q o n br ca A') (hn : D.length = n) (ho : o + n < A.length)
    (hs : d + ca + br = nth A' (o + n) + br' * B) (hd : d < B) (_hb : br' ≤ 1) :
    (A'.set (o + n) d).length = A.length ∧ Dig (A'.set (o + n) d) ∧ val (A'.set (o + n) d) + B ^ o * (q * val D) = val A + B ^ (o + n + 1) * br' := by
  refine ⟨by simp [h.len], h.dig.set _ hd, ?_⟩
  have h1 := val_set (L := A') (k := o + n) (by rw [h.len]; omega) d
  have h2 := h.eq
  rw [List.take_of_length_le (by omega)] at h2
  have h4 : B ^ (o + n) * (br + ca) + B ^ (o + n) * d = B ^ (o + n) * nth A' (o + n) + B ^ (o + n + 1) * br' := by
    rw [Nat.pow_succ, Nat.mul_assoc, ← Nat.mul_add, ← Nat.mul_add]
    congr 1
    rw [Nat.mul_comm B br']
    omega
  omega

/-- One step: the low half with the carry, and the carry on. -/
theorem take_step {q x c : Nat} (hq : q < B) (hx : x < B) (hc : c < B) :
    let low := aD (mL q x) c 0; let c1 := aB (mL q x) c 0
    c1 ≤ 1 ∧ low < B ∧ mH q x + c1 < B ∧ low + B * (mH q x + c1) = q * x + c := by
  intro low c1
  obtain ⟨a1, a2, a3⟩ := add_step (x := mL q x) (y := c) (b := 0) (Nat.mod_lt _ B_pos) hc (by omega)
  have hh := mulH_le hq hx
  have hm : mL q x + B * mH q x = q * x := Nat.mod_add_div _ _
  change low + c1 * B = mL q x + c + 0 at a1
  refine ⟨a2, a3, by change c1 ≤ 1 at a2; omega, ?_⟩
  rw [Nat.mul_add, Nat.mul_comm B c1]
  omega
end Go.Proofs.Ytbklepgbieohiaa
