/- Divide's helpers in plain numbers: what give and take leave. -/
import Derived.Test.YtbklepgbieohiaaM4
namespace Go.Proofs.Ytbklepgbieohiaa
open Go.RowKit

theorem Only.refl (g : Nat) (w : World) : Only g w w := ⟨rfl, rfl, rfl, rfl, fun _ _ => rfl⟩
theorem Only.drew {g : Nat} {w w' : World} (h : Only g w w') : Only g w w'.drew := ⟨h.os, h.tape, h.output, h.size, h.block⟩
theorem Only.trans {g : Nat} {w u v : World} (h : Only g w u) (h2 : Only g u v) : Only g w v :=
  ⟨h2.os.trans h.os, h2.tape.trans h.tape, h2.output.trans h.output, h2.size.trans h.size, fun k hk => (h2.block k hk).trans (h.block k hk)⟩
theorem Only.setCell {g : Nat} {w w' : World} (h : Only g w w') (k : Nat) (v : Value) : Only g w (w'.setCell ⟨g, k, none⟩ v) :=
  h.trans ⟨rfl, rfl, rfl, by simp, fun j hj => Below.heap_setCell w' ⟨g, k, none⟩ v j (by simpa using hj)⟩

theorem Seg.only {w w1 : World} {b off g : Nat} {L : List Nat} (h : Seg w b off L) (o : Only g w w1) (hne : b ≠ g) : Seg w1 b off L := fun j hj => by
  rw [World.cell?_of_block (w := w) (a := ⟨b, off + j, none⟩) (o.block b hne)]; exact h j hj

/-- The state of give. -/
structure GiveIn (A D : List Nat) (o k b : Nat) (A' : List Nat) : Prop where
  len : A'.length = A.length
  dig : Dig A'
  car : b ≤ 1
  eq : val A' + B ^ (o + k) * b = val A + B ^ o * val (D.take k)
  rest : ∀ p, o + k ≤ p → nth A' p = nth A p

theorem GiveIn.start {A D : List Nat} {o : Nat} (h : Dig A) : GiveIn A D o 0 0 A := ⟨rfl, h, by omega, by simp [val], fun _ _ => rfl⟩

theorem GiveIn.step {A D A' : List Nat} {o k b d c : Nat} (h : GiveIn A D o k b A') (hk : k < D.length) (ho : o + k < A.length)
    (hs : d + c * B = nth A' (o + k) + nth D k + b) (hd : d < B) (hc : c ≤ 1) : GiveIn A D o (k + 1) c (A'.set (o + k) d) := by
  refine ⟨by simp [h.len], h.dig.set _ hd, hc, ?_, fun p hp => by rw [nth_set_ne (by omega)]; exact h.rest p (by omega)⟩
  have h1 := val_set (L := A') (k := o + k) (by rw [h.len]; omega) d
  have h2 := h.eq
  have h3 : B ^ o * val (D.take (k + 1)) = B ^ o * val (D.take k) + B ^ (o + k) * nth D k := by
    rw [val_take_succ hk, Nat.mul_add, ← Nat.mul_assoc, ← Nat.pow_add]
  have h4 : B ^ (o + k) * d + B ^ (o + (k + 1)) * c = B ^ (o + k) * nth A' (o + k) + B ^ (o + k) * nth D k + B ^ (o + k) * b := by
    rw [← Nat.add_assoc, Nat.pow_succ, Nat.mul_assoc, ← Nat.mul_add, Nat.mul_comm B c, hs, Nat.mul_add, Nat.mul_add]
  rw [h3]
  omega

/-- Behind the last digit, the carry dropped: did it wrap? -/
theorem GiveIn.done {A D A' : List Nat} {o n b : Nat} (h : GiveIn A D o n b A') (hn : D.length = n) (ho : o + n < A.length) :
    (A'.set (o + n) (uadd (nth A' (o + n)) b)).length = A.length ∧ Dig (A'.set (o + n) (uadd (nth A' (o + n)) b)) ∧
    val (A'.set (o + n) (uadd (nth A' (o + n)) b)) + B ^ (o + n + 1) * (if nth A (o + n) ≤ uadd (nth A' (o + n)) b then 0 else 1) = val A + B ^ o * val D := by
  refine ⟨by simp [h.len], h.dig.set _ (uadd_lt _ _), ?_⟩
  have h1 := val_set (L := A') (k := o + n) (by rw [h.len]; omega) (uadd (nth A' (o + n)) b)
  have h2 := h.eq
  rw [List.take_of_length_le (by omega)] at h2
  have hr := h.rest (o + n) (Nat.le_refl _)
  have hu := h.dig.get (o + n)
  have hb := h.car
  rw [hr] at h1 hu ⊢
  have hB2 : 2 ≤ B := by decide
  by_cases hw : nth A (o + n) + b < B
  · rw [uadd_eq hw, if_pos (by omega)]
    rw [uadd_eq hw, Nat.mul_add] at h1
    omega
  · have e1 : uadd (nth A (o + n)) b = 0 := by
      unfold uadd
      rw [show nth A (o + n) + b = B by omega]
      exact Nat.mod_self _
    rw [e1] at h1 ⊢
    rw [if_neg (by omega), Nat.pow_succ, Nat.mul_one]
    have h5 : B ^ (o + n) * B = B ^ (o + n) * nth A (o + n) + B ^ (o + n) * b := by rw [← Nat.mul_add, show nth A (o + n) + b = B by omega]
    omega
end Go.Proofs.Ytbklepgbieohiaa
