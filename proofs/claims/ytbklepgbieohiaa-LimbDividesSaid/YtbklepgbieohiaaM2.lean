/- The product in the base 2 to the 32, in plain numbers. -/
import Derived.Test.YtbklepgbieohiaaM1
import Derived.Test.YtbklepgbieohiaaE
namespace Go.Proofs.Ytbklepgbieohiaa
open Go.RowKit

/-- The number of digits to the base b. -/
def vq (b : Nat) : List Nat → Nat
  | [] => 0
  | x :: l => x + b * vq b l

theorem vq_append (b : Nat) (L M : List Nat) : vq b (L ++ M) = vq b L + b ^ L.length * vq b M := by
  induction L with
  | nil => simp [vq]
  | cons x L ih => simp only [List.cons_append, vq, ih, List.length_cons, Nat.pow_succ, Nat.mul_add]; rw [Nat.add_assoc, Nat.mul_comm (b ^ L.length) b, Nat.mul_assoc]

theorem vq_take_succ (b : Nat) {L : List Nat} {k : Nat} (h : k < L.length) : vq b (L.take (k + 1)) = vq b (L.take k) + b ^ k * nth L k := by
  rw [take_succ h, vq_append, List.length_take, Nat.min_eq_left (by omega)]; simp [vq]

theorem vq_set (b : Nat) {L : List Nat} {k : Nat} (h : k < L.length) (v : Nat) : vq b (L.set k v) + b ^ k * nth L k = vq b L + b ^ k * v := by
  have s1 : L = L.take k ++ nth L k :: L.drop (k + 1) := by rw [← drop_cons h, List.take_append_drop]
  have s2 : L.set k v = L.take k ++ v :: L.drop (k + 1) := by
    conv => lhs; rw [s1]
    rw [List.set_append_right _ _ (by rw [List.length_take, Nat.min_eq_left (by omega)]; exact Nat.le_refl _)]
    simp [Nat.min_eq_left (Nat.le_of_lt h)]
  rw [s2]
  conv => rhs; rw [s1]
  rw [vq_append, vq_append, List.length_take, Nat.min_eq_left (by omega)]
  simp only [vq, Nat.mul_add]
  omega

theorem vq_lt {b : Nat} (hb : 0 < b) : ∀ {L : List Nat}, (∀ x ∈ L, x < b) → vq b L < b ^ L.length
  | [], _ => by simp [vq]
  | x :: l, h => by
    have h1 := vq_lt hb (L := l) fun y hy => h y (List.mem_cons_of_mem _ hy)
    have h2 := h x (List.mem_cons_self ..)
    simp only [vq, List.length_cons, Nat.pow_succ]
    have h3 : b * (vq b l + 1) ≤ b * b ^ l.length := Nat.mul_le_mul_left _ h1
    rw [Nat.mul_add, Nat.mul_one] at h3
    rw [Nat.mul_comm (b ^ l.length) b]
    omega

def C32 : Nat := 4294967296

structure RMulIn (X Y : List Nat) (i j c : Nat) (A : List Nat) : Prop where
  len : A.length = 17
  dig : ∀ q, nth A q < C32
  car : c < C32
  eq : vq C32 A + C32 ^ (i + j) * c = vq C32 (X.take i) * vq C32 Y + C32 ^ i * nth X i * vq C32 (Y.take j)
  top : ∀ q, i + 8 ≤ q → nth A q = 0

structure RMulOut (X Y : List Nat) (i : Nat) (A : List Nat) : Prop where
  len : A.length = 17
  dig : ∀ q, nth A q < C32
  eq : vq C32 A = vq C32 (X.take i) * vq C32 Y
  top : ∀ q, i + 8 ≤ q → nth A q = 0

theorem nth_set_lt {A : List Nat} {k v m : Nat} (h : ∀ q, nth A q < m) (hv : v < m) (hk : k < A.length) : ∀ q, nth (A.set k v) q < m := fun q => by
  rw [nth_set hk]; split
  · exact hv
  · exact h q

theorem RMulOut.start {X Y A : List Nat} {i : Nat} (h : RMulOut X Y i A) : RMulIn X Y i 0 0 A :=
  ⟨h.len, h.dig, by decide, by rw [h.eq]; simp [vq], h.top⟩

theorem RMulIn.step {X Y A : List Nat} {i j c c' v : Nat} (h : RMulIn X Y i j c A) (hj : j < 8) (hi : i < 8) (hY : Y.length = 8) (hv : v < C32) (hc : c' < C32)
    (hs : v + C32 * c' = nth X i * nth Y j + nth A (i + j) + c) : RMulIn X Y i (j + 1) c' (A.set (i + j) v) := by
  refine ⟨by simp [h.len], nth_set_lt h.dig hv (by rw [h.len]; omega), hc, ?_, fun q hq => by rw [nth_set_ne (by omega)]; exact h.top q hq⟩
  have h1 := vq_set C32 (L := A) (k := i + j) (by rw [h.len]; omega) v
  have h2 := h.eq
  have h3 : vq C32 (Y.take (j + 1)) = vq C32 (Y.take j) + C32 ^ j * nth Y j := vq_take_succ C32 (by omega)
  have h4 : C32 ^ (i + (j + 1)) * c' = C32 ^ (i + j) * (C32 * c') := by rw [← Nat.add_assoc, Nat.pow_succ, Nat.mul_assoc]
  have h5 : C32 ^ (i + j) * v + C32 ^ (i + j) * (C32 * c') = C32 ^ (i + j) * (nth X i * nth Y j) + C32 ^ (i + j) * nth A (i + j) + C32 ^ (i + j) * c := by
    rw [← Nat.mul_add, hs, Nat.mul_add, Nat.mul_add]
  have h6 : C32 ^ i * nth X i * (C32 ^ j * nth Y j) = C32 ^ (i + j) * (nth X i * nth Y j) := by
    rw [Nat.pow_add]; simp only [Nat.mul_assoc, Nat.mul_left_comm]
  rw [h3, Nat.mul_add, h6, h4]
  omega

theorem RMulIn.done {X Y A : List Nat} {i c : Nat} (h : RMulIn X Y i 8 c A) (hi : i < 8) (hX : X.length = 8) (hY : Y.length = 8) : RMulOut X Y (i + 1) (A.set (i + 8) c) := by
  refine ⟨by simp [h.len], nth_set_lt h.dig h.car (by rw [h.len]; omega), ?_, fun q hq => by rw [nth_set_ne (by omega)]; exact h.top q (by omega)⟩
  have h1 := vq_set C32 (L := A) (k := i + 8) (by rw [h.len]; omega) c
  rw [h.top (i + 8) (Nat.le_refl _)] at h1
  have h2 := h.eq
  have h3 : vq C32 (X.take (i + 1)) = vq C32 (X.take i) + C32 ^ i * nth X i := vq_take_succ C32 (by omega)
  rw [List.take_of_length_le (show Y.length ≤ 8 by omega)] at h2
  rw [h3, Nat.add_mul]
  omega

/-- One step of the product. -/
theorem rmul_step {x y u c : Nat} (hx : x < C32) (hy : y < C32) (hu : u < C32) (hc : c < C32) :
    umul x y = x * y ∧ uadd u (x * y) = u + x * y ∧ uadd (u + x * y) c = u + x * y + c ∧ um (u + x * y + c) 4294967296 < C32 ∧ ud (u + x * y + c) 4294967296 < C32 ∧
      um (u + x * y + c) 4294967296 + C32 * ud (u + x * y + c) 4294967296 = x * y + u + c := by
  have h1 : x * y ≤ (C32 - 1) * (C32 - 1) := Nat.mul_le_mul (by omega) (by omega)
  have e1 : (C32 - 1) * (C32 - 1) + 2 * (C32 - 1) + 1 = B := by decide
  have e2 : C32 * C32 = B := by decide
  generalize hp : x * y = p at *
  refine ⟨?_, ?_, ?_, Nat.mod_lt _ (by decide), ?_, ?_⟩
  · unfold umul; rw [hp]; exact Nat.mod_eq_of_lt (by omega)
  · exact uadd_eq (by omega)
  · exact uadd_eq (by omega)
  · unfold ud; exact Nat.div_lt_of_lt_mul (by change _ < C32 * C32; rw [e2]; omega)
  · unfold um ud
    have := Nat.mod_add_div (u + p + c) 4294967296
    change (u + p + c) % 4294967296 + 4294967296 * ((u + p + c) / 4294967296) = _
    omega

theorem vq_halves (L : List Nat) : vq C32 (halves L) = val L := by
  induction L with
  | nil => rfl
  | cons x L ih =>
    have e : halves (x :: L) = um x 4294967296 :: ud x 4294967296 :: halves L := rfl
    rw [e]
    simp only [vq, val, ih]
    have h1 := Nat.mod_add_div x 4294967296
    have e2 : B = C32 * C32 := by decide
    rw [e2, Nat.mul_add, ← Nat.add_assoc, Nat.mul_assoc]
    unfold um ud
    change x % 4294967296 + 4294967296 * (x / 4294967296) + _ = _
    rw [h1]

theorem halves_dig {L : List Nat} (hd : Dig L) : ∀ q, nth (halves L) q < C32 := by
  induction L with
  | nil => intro q; simp [halves, nth]; decide
  | cons x L ih =>
    intro q
    have e : halves (x :: L) = um x 4294967296 :: ud x 4294967296 :: halves L := rfl
    rw [e]
    match q with
    | 0 => exact Nat.mod_lt _ (by decide)
    | 1 =>
      show ud x 4294967296 < C32
      exact Nat.div_lt_of_lt_mul (by have := hd.head; exact this)
    | q + 2 => exact ih hd.tail q
end Go.Proofs.Ytbklepgbieohiaa
