/- The walk of ref.Mul. -/
import Derived.Test.YtbklepgbieohiaaM2
import Derived.Test.YtbklepgbieohiaaU
import Derived.BigRegion
namespace Go.Proofs.Ytbklepgbieohiaa
open Go.RowKit

theorem half2_val : ∀ (n : Nat) (D : List Nat), D.length = 2 * n → val ((List.range n).map fun i => nth D (2 * i) + C32 * nth D (2 * i + 1)) = vq C32 D
  | 0, D, h => by
    have : D = [] := List.eq_nil_of_length_eq_zero (by omega)
    subst this; rfl
  | n + 1, D, h => by
    match D, h with
    | a :: b :: D', h =>
      have hl : D'.length = 2 * n := by simp at h; omega
      have ih := half2_val n D' hl
      have e2 : B = C32 * C32 := by decide
      rw [List.range_succ_eq_map]
      simp only [List.map_cons, List.map_map, val, vq]
      have e3 : (List.range n).map ((fun i => nth (a :: b :: D') (2 * i) + C32 * nth (a :: b :: D') (2 * i + 1)) ∘ Nat.succ) = (List.range n).map fun i => nth D' (2 * i) + C32 * nth D' (2 * i + 1) := by
        apply List.map_congr_left
        intro i _
        simp only [Function.comp]
        rw [show 2 * i.succ = 2 * i + 2 by omega]
        rfl
      rw [e3, ih, e2]
      show a + C32 * b + C32 * C32 * vq C32 D' = _
      rw [Nat.mul_add, Nat.mul_assoc]
      omega

theorem half2_eq {D : List Nat} (h : ∀ q, nth D q < C32) (i : Nat) : half2 D i = nth D (2 * i) + C32 * nth D (2 * i + 1) := by
  have h1 := h (2 * i)
  have h2 := h (2 * i + 1)
  have e2 : C32 * C32 = B := by decide
  have h3 : C32 * (nth D (2 * i + 1) + 1) ≤ C32 * C32 := Nat.mul_le_mul_left _ h2
  rw [e2, Nat.mul_add] at h3
  have hm : umul (nth D (2 * i + 1)) 4294967296 = C32 * nth D (2 * i + 1) := by
    unfold umul
    rw [Nat.mul_comm]
    exact Nat.mod_eq_of_lt (by change C32 * _ < B; omega)
  unfold half2
  rw [hm]
  exact uadd_eq (by omega)

theorem RMulOut.result {X Y A : List Nat} {x y : Nat} (h : RMulOut X Y 8 A) (hX : X.length = 8) (hx : vq C32 X = x) (hy : vq C32 Y = y) (hlt : x * y < B ^ 8) :
    (List.range 8).map (half2 (A.take 16)) = digs 8 (x * y) := by
  have hd : ∀ q, nth (A.take 16) q < C32 := fun q => by
    by_cases hq : q < 16
    · have : nth (A.take 16) q = nth A q := by simp [nth, List.getElem?_take, hq]
      rw [this]; exact h.dig q
    · have : nth (A.take 16) q = 0 := by simp [nth, List.getElem?_take, hq]
      rw [this]; decide
  have h16 := h.top 16 (by omega)
  have hv : vq C32 (A.take 16) = x * y := by
    have h1 := vq_take_succ C32 (L := A) (k := 16) (by rw [h.len]; omega)
    rw [h16, List.take_of_length_le (by rw [h.len]; omega), h.eq, List.take_of_length_le (show X.length ≤ 8 by omega), hx, hy] at h1
    omega
  have e1 : (List.range 8).map (half2 (A.take 16)) = (List.range 8).map fun i => nth (A.take 16) (2 * i) + C32 * nth (A.take 16) (2 * i + 1) :=
    List.map_congr_left fun i _ => half2_eq hd i
  have h2 := half2_val 8 (A.take 16) (by rw [List.length_take, h.len]; rfl)
  rw [hv] at h2
  have hdig : Dig ((List.range 8).map (half2 (A.take 16))) := fun y hy => by
    obtain ⟨i, _, rfl⟩ := List.mem_map.1 hy
    exact uadd_lt _ _
  have h3 := eq_digs (k := 8) (by simp) hdig
  rw [e1] at h3 ⊢
  rw [h2] at h3
  exact h3
end Go.Proofs.Ytbklepgbieohiaa
