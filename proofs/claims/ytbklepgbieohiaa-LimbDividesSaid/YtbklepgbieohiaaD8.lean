/- Div64's numbers: the shift, the halves, the two digits. -/
import Derived.Test.YtbklepgbieohiaaD7
import Derived.Test.YtbklepgbieohiaaL
namespace Go.Proofs.Ytbklepgbieohiaa
open Go.RowKit

theorem norm_shift {y : Nat} (hy : 0 < y) (hB : y < B) : 64 - blen y < 64 ∧ mL y (2 ^ (64 - blen y)) = y * 2 ^ (64 - blen y) ∧ C32 ≤ y * 2 ^ (64 - blen y) ∧ y * 2 ^ (64 - blen y) < B := by
  obtain ⟨h1, h2, h3, _⟩ := blen_bounds hB
  obtain ⟨h4, h5⟩ := h3 hy
  have hs : 64 - blen y < 64 := by omega
  have e1 : B = 2 ^ blen y * 2 ^ (64 - blen y) := by
    rw [← Nat.pow_add, show blen y + (64 - blen y) = 64 by omega]; rfl
  have hlt : y * 2 ^ (64 - blen y) < B := by
    rw [e1]; exact Nat.mul_lt_mul_of_pos_right h2 (Nat.two_pow_pos _)
  refine ⟨hs, Nat.mod_eq_of_lt hlt, ?_, hlt⟩
  have h6 : 2 ^ (blen y - 1) * 2 ^ (64 - blen y) ≤ y * 2 ^ (64 - blen y) := Nat.mul_le_mul_right _ h4
  rw [← Nat.pow_add, show blen y - 1 + (64 - blen y) = 63 by omega] at h6
  exact Nat.le_trans (by decide) h6

theorem bor_left' {a x s : Nat} (ha : a < 2 ^ s) (hs : s < 64) :
    bits BinOp.or IntKind.u64 (IntKind.u64.wrap (((x : Nat) : Int) * 2 ^ s)) ((a : Nat) : Int) = ((uadd (mL x (2 ^ s)) a : Nat) : Int) := by
  have e : ((x : Int) * 2 ^ s) = ((x * 2 ^ s : Nat) : Int) := by simp
  have hl := left_lt (x := x) ha hs
  have hc : uadd (mL x (2 ^ s)) a = uadd a (mL x (2 ^ s)) := by unfold uadd; rw [Nat.add_comm]
  rw [e, wrap_u64, hc, uadd_eq hl]
  have h := bits_or_u64_nat (x * 2 ^ s % B) a (Nat.mod_lt _ B_pos) (Nat.lt_of_le_of_lt (Nat.le_add_right _ _) hl)
  have e2 : x * 2 ^ s % B ||| a = a + mL x (2 ^ s) := by
    change mL x (2 ^ s) ||| a = _
    rw [mL_pow hs, ← Nat.two_pow_add_eq_or_of_lt ha, Nat.add_comm]
  rw [e2] at h
  exact h

/-- The shifted numbers. -/
theorem norm_high {hi lo y p s : Nat} (hp : p = 2 ^ s) (hs : s < 64) (hl : lo < B) (hh : hi < y) (hy : y * p < B) :
    mH lo p < p ∧ mL hi p = hi * p ∧ uadd (mL hi p) (mH lo p) = hi * p + mH lo p ∧ hi * p + mH lo p < y * p ∧
      (hi * p + mH lo p) * B + mL lo p = (hi * B + lo) * p := by
  have hpos : 0 < p := by rw [hp]; exact Nat.two_pow_pos _
  have h1 := mH_lt hl hpos
  have h2 : (hi + 1) * p ≤ y * p := Nat.mul_le_mul_right _ hh
  rw [Nat.add_mul, Nat.one_mul] at h2
  have h3 : mL hi p = hi * p := Nat.mod_eq_of_lt (by omega)
  have h4 : mL lo p + B * mH lo p = lo * p := Nat.mod_add_div _ _
  refine ⟨h1, h3, ?_, by omega, ?_⟩
  · rw [h3]; exact uadd_eq (by omega)
  · rw [Nat.add_mul, Nat.add_mul, Nat.mul_comm (mH lo p), Nat.mul_right_comm hi B p]
    omega

/-- Two digits in base 2 to the 32. -/
theorem two_digits {u n1 n0 Y : Nat} (hY : 0 < Y) :
    (u * C32 + n1) / Y * C32 + ((u * C32 + n1) % Y * C32 + n0) / Y = (u * B + (n1 * C32 + n0)) / Y := by
  have e : u * B + (n1 * C32 + n0) = Y * ((u * C32 + n1) / Y * C32) + ((u * C32 + n1) % Y * C32 + n0) := by
    have h := Nat.div_add_mod (u * C32 + n1) Y
    have h2 : (u * C32 + n1) * C32 = u * B + n1 * C32 := by rw [Nat.add_mul, Nat.mul_assoc]; rfl
    rw [← h, Nat.add_mul, Nat.mul_assoc] at h2
    omega
  rw [e, Nat.mul_add_div hY]

/-- The remainder between the digits, in words. -/
theorem mid_rem {u n1 Y q : Nat} (hY : Y < B) (hY0 : 0 < Y) (hq : q = (u * C32 + n1) / Y) :
    usub (uadd (umul u C32) n1) (umul q Y) = (u * C32 + n1) % Y := by
  have h := Nat.div_add_mod (u * C32 + n1) Y
  have hr := Nat.mod_lt (u * C32 + n1) hY0
  rw [← hq, Nat.mul_comm Y] at h
  generalize (u * C32 + n1) % Y = r at *
  unfold usub uadd umul
  have e1 : (u * C32 % B + n1) % B = (q * Y % B + r) % B := by
    rw [Nat.mod_add_mod, Nat.mod_add_mod, h]
  rw [e1]
  have hc := Nat.mod_lt (q * Y) B_pos
  generalize q * Y % B = c at *
  have hrB : r < B := by omega
  clear h hq hr e1 hY hY0
  simp only [B] at *
  omega

/-- The last shift does not matter; the two digits together are the quotient. -/
theorem div64_plain {hi lo y p s q1 q0 n1 n0 : Nat} (hp : p = 2 ^ s) (hs : s < 64) (hl : lo < B) (hh : hi < y) (hy : y * p < B)
    (hn : n1 * C32 + n0 = mL lo p) (hn1 : n1 < C32) (hn0 : n0 < C32) (hYc : C32 ≤ y * p)
    (h1 : q1 = ((hi * p + mH lo p) * C32 + n1) / (y * p)) (h0 : q0 = ((((hi * p + mH lo p) * C32 + n1) % (y * p)) * C32 + n0) / (y * p)) :
    uadd (umul q1 C32) q0 = (hi * B + lo) / y := by
  have hc : 0 < C32 := by decide
  have hpos : 0 < p := by rw [hp]; exact Nat.two_pow_pos _
  have hY0 : 0 < y * p := by omega
  obtain ⟨a1, a2, a3, a4, a5⟩ := norm_high hp hs hl hh hy
  have ht := two_digits (u := hi * p + mH lo p) (n1 := n1) (n0 := n0) hY0
  rw [← h1, ← h0, hn, a5, Nat.mul_div_mul_right _ _ hpos] at ht
  have hlt : (hi * B + lo) / y < B := by
    refine (Nat.div_lt_iff_lt_mul (by omega)).2 ?_
    have h3 : (hi + 1) * B ≤ y * B := Nat.mul_le_mul_right _ hh
    rw [Nat.add_mul] at h3
    rw [Nat.mul_comm B]
    omega
  have hm : umul q1 C32 = q1 * C32 := Nat.mod_eq_of_lt (by omega)
  rw [hm, uadd_eq (by omega)]
  exact ht
end Go.Proofs.Ytbklepgbieohiaa
