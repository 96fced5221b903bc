/- ref.Divide, bit by bit, in plain numbers. -/
import Derived.Test.YtbklepgbieohiaaQ6
import Derived.Test.YtbklepgbieohiaaC
namespace Go.Proofs.Ytbklepgbieohiaa
open Go.RowKit

/-- k digits are still to come. -/
structure RDiv (W m k : Nat) (X Q : List Nat) (r : Nat) (b : Bool) : Prop where
  qlen : Q.length = 8
  qdig : Dig Q
  eq : m * val Q + r * B ^ k + val (X.take k) = W
  low : r < m
  qz : ∀ j, j < k → nth Q j = 0
  beg : b = false → r = 0

/-- Of digit j, c bits are still to come. -/
structure RBit (W m j c : Nat) (X Q : List Nat) (r : Nat) : Prop where
  qlen : Q.length = 8
  qdig : Dig Q
  eq : m * val Q + r * (B ^ j * 2 ^ c) + (B ^ j * (nth X j % 2 ^ c) + val (X.take j)) = W
  low : r < m
  qz : ∀ i, i < j → nth Q i = 0
  qb : nth Q j % 2 ^ c = 0
  cle : c ≤ 64

theorem RDiv.start {X : List Nat} {m : Nat} (hl : X.length = 8) (hm : 0 < m) : RDiv (val X) m 8 X [0, 0, 0, 0, 0, 0, 0, 0] 0 false :=
  ⟨rfl, by simp [Dig, B], by rw [List.take_of_length_le (by omega)]; simp [val], hm, fun j _ => nth_zeros 8 j, fun _ => rfl⟩

theorem RDiv.small {W m j : Nat} {X Q : List Nat} {r : Nat} (h : RDiv W m (j + 1) X Q r false) (hj : j < X.length) (hx : nth X j < m) : RDiv W m j X Q (nth X j) (decide (0 < nth X j)) := by
  refine ⟨h.qlen, h.qdig, ?_, hx, fun i hi => h.qz i (by omega), fun hb => by simpa using hb⟩
  have e := h.eq
  rw [h.beg rfl, val_take_succ hj, Nat.zero_mul] at e
  rw [Nat.mul_comm (nth X j)]
  omega

theorem RDiv.bits {W m j : Nat} {X Q : List Nat} {r : Nat} {b : Bool} (h : RDiv W m (j + 1) X Q r b) (hd : Dig X) (hj : j < X.length) : RBit W m j 64 X Q r := by
  refine ⟨h.qlen, h.qdig, ?_, h.low, fun i hi => h.qz i (by omega), by rw [h.qz j (by omega)], Nat.le_refl _⟩
  have e := h.eq
  rw [val_take_succ hj] at e
  have e1 : nth X j % 2 ^ 64 = nth X j := Nat.mod_eq_of_lt (hd.get j)
  have e2 : B ^ j * 2 ^ 64 = B ^ (j + 1) := rfl
  rw [e1, e2]
  omega

theorem RBit.done {W m j : Nat} {X Q : List Nat} {r : Nat} (h : RBit W m j 0 X Q r) : RDiv W m j X Q r true := by
  refine ⟨h.qlen, h.qdig, ?_, h.low, h.qz, fun hb => by cases hb⟩
  have e := h.eq
  rw [Nat.pow_zero, Nat.mul_one, Nat.mod_one, Nat.mul_zero, Nat.zero_add] at e
  exact e

theorem RBit.split {W m j d : Nat} {X Q : List Nat} {r : Nat} (h : RBit W m j (d + 1) X Q r) :
    m * val Q + (2 * r + nth X j / 2 ^ d % 2) * (B ^ j * 2 ^ d) + (B ^ j * (nth X j % 2 ^ d) + val (X.take j)) = W := by
  have e := h.eq
  have e1 : nth X j % 2 ^ (d + 1) = nth X j % 2 ^ d + 2 ^ d * (nth X j / 2 ^ d % 2) := Nat.mod_pow_succ
  have e2 : r * (B ^ j * 2 ^ (d + 1)) = 2 * r * (B ^ j * 2 ^ d) := by
    rw [Nat.pow_succ, ← Nat.mul_assoc (B ^ j), ← Nat.mul_assoc r, Nat.mul_comm _ 2, Nat.mul_assoc 2 r]
  have e3 : B ^ j * (2 ^ d * (nth X j / 2 ^ d % 2)) = nth X j / 2 ^ d % 2 * (B ^ j * 2 ^ d) := by
    rw [← Nat.mul_assoc, Nat.mul_comm]
  rw [e1, e2, Nat.mul_add, e3] at e
  rw [Nat.add_mul]
  omega

theorem mod_half {q d : Nat} (h : q % 2 ^ (d + 1) = 0) : q % 2 ^ d = 0 :=
  Nat.mod_eq_zero_of_dvd (Nat.dvd_trans ⟨2, by rw [Nat.pow_succ]⟩ (Nat.dvd_of_mod_eq_zero h))

theorem RBit.stay {W m j d : Nat} {X Q : List Nat} {r : Nat} (h : RBit W m j (d + 1) X Q r) (hT : 2 * r + nth X j / 2 ^ d % 2 < m) : RBit W m j d X Q (2 * r + nth X j / 2 ^ d % 2) :=
  ⟨h.qlen, h.qdig, h.split, hT, h.qz, mod_half h.qb, by have := h.cle; omega⟩

theorem RBit.room {W m j d : Nat} {X Q : List Nat} {r : Nat} (h : RBit W m j (d + 1) X Q r) : nth Q j + 2 ^ d < B := by
  obtain ⟨u, hu⟩ := Nat.dvd_of_mod_eq_zero h.qb
  have h1 := h.qdig.get j
  have h2 := h.cle
  have e : B = 2 ^ (d + 1) * 2 ^ (63 - d) := by rw [← Nat.pow_add, show d + 1 + (63 - d) = 64 by omega]; rfl
  rw [hu, e] at h1
  have h3 : u < 2 ^ (63 - d) := Nat.lt_of_mul_lt_mul_left h1
  have h4 : 2 ^ (d + 1) * (u + 1) ≤ 2 ^ (d + 1) * 2 ^ (63 - d) := Nat.mul_le_mul_left _ h3
  have h5 := Nat.two_pow_pos d
  rw [hu, e]
  rw [Nat.mul_add] at h4
  have h6 : 2 ^ (d + 1) = 2 * 2 ^ d := by rw [Nat.pow_succ, Nat.mul_comm]
  omega

theorem RBit.strike {W m j d : Nat} {X Q : List Nat} {r : Nat} (h : RBit W m j (d + 1) X Q r) (hj : j < 8) (hT : m ≤ 2 * r + nth X j / 2 ^ d % 2) :
    RBit W m j d X (Q.set j (uadd (nth Q j) (2 ^ d))) (2 * r + nth X j / 2 ^ d % 2 - m) := by
  have hr := h.room
  rw [uadd_eq hr]
  refine ⟨by simp [h.qlen], h.qdig.set _ hr, ?_, ?_, fun i hi => by rw [nth_set_ne (by omega)]; exact h.qz i hi, ?_, by have := h.cle; omega⟩
  · have e := h.split
    have e1 := val_set (L := Q) (k := j) (by rw [h.qlen]; exact hj) (nth Q j + 2 ^ d)
    obtain ⟨t, ht⟩ : ∃ t, 2 * r + nth X j / 2 ^ d % 2 = m + t := ⟨_, (Nat.add_sub_of_le hT).symm⟩
    rw [ht] at e ⊢
    rw [Nat.add_sub_cancel_left]
    have e2 : val (Q.set j (nth Q j + 2 ^ d)) = val Q + B ^ j * 2 ^ d := by rw [Nat.mul_add] at e1; omega
    rw [e2, Nat.mul_add]
    rw [Nat.add_mul] at e
    omega
  · have := h.low; have : nth X j / 2 ^ d % 2 < 2 := Nat.mod_lt _ (by decide); omega
  · rw [nth_set (by rw [h.qlen]; exact hj), if_pos rfl, Nat.add_mod_right]; exact mod_half h.qb

theorem RDiv.result {W m : Nat} {X Q : List Nat} {r : Nat} {b : Bool} (h : RDiv W m 0 X Q r b) : val Q = W / m ∧ r = W % m := by
  have e := h.eq
  rw [Nat.pow_zero, Nat.mul_one, List.take_zero] at e
  have l := h.low
  have e2 : W = m * val Q + r := by simp only [val] at e; omega
  rw [e2]
  refine ⟨?_, ?_⟩
  · rw [Nat.mul_add_div (by omega), Nat.div_eq_of_lt l, Nat.add_zero]
  · rw [Nat.mul_add_mod, Nat.mod_eq_of_lt l]

/-- Twice the remainder, with the bit in its lowest place. -/
theorem twice_step {r m bit : Nat} (hm : m < B ^ 4) (hr : r < m) (hb : bit ≤ 1) :
    (digs 4 ((r + r) % B ^ 4)).set 0 (uadd (nth (digs 4 ((r + r) % B ^ 4)) 0) 1) = digs 4 ((r + r) % B ^ 4 + 1) ∧ (r + r) % B ^ 4 + bit < B ^ 4 ∧
      ((B ^ 4 ≤ r + r ∨ m ≤ (r + r) % B ^ 4 + bit) ↔ m ≤ 2 * r + bit) ∧ (m ≤ 2 * r + bit → ((r + r) % B ^ 4 + bit + B ^ 4 - m) % B ^ 4 = 2 * r + bit - m) ∧
      (2 * r + bit < m → (r + r) % B ^ 4 + bit = 2 * r + bit) := by
  have h4 : B ^ 4 % 2 = 0 := by decide
  have hmod : ((r + r) % B ^ 4 = r + r ∧ r + r < B ^ 4) ∨ ((r + r) % B ^ 4 = r + r - B ^ 4 ∧ B ^ 4 ≤ r + r) := by
    by_cases h : r + r < B ^ 4
    · exact Or.inl ⟨Nat.mod_eq_of_lt h, h⟩
    · refine Or.inr ⟨?_, by omega⟩
      rw [Nat.mod_eq_sub_mod (by omega)]
      exact Nat.mod_eq_of_lt (by omega)
  have hev : (r + r) % B ^ 4 % 2 = 0 := by omega
  have hlt : (r + r) % B ^ 4 + 1 < B ^ 4 := by
    have : (r + r) % B ^ 4 < B ^ 4 := Nat.mod_lt _ (Bpow_pos 4)
    omega
  refine ⟨?_, by omega, by omega, fun h => ?_, by omega⟩
  · generalize (r + r) % B ^ 4 = e at *
    have hd := digs_dig 4 e
    have hv : val (digs 4 e) = e := val_digs_lt (by omega)
    have hdg := val_digit hd (k := 0) (by rw [digs_length]; omega)
    rw [hv, Nat.pow_zero, Nat.div_one] at hdg
    have hB2 : B % 2 = 0 := by decide
    have hn := hd.get 0
    have hn2 : nth (digs 4 e) 0 % 2 = 0 := by
      rw [hdg, Nat.add_mod, Nat.mul_mod, hB2, Nat.zero_mul, Nat.zero_mod, Nat.add_zero, Nat.mod_mod] at hev
      exact hev
    have hn3 : nth (digs 4 e) 0 + 1 < B := by omega
    rw [uadd_eq hn3]
    have hds := hd.set 0 hn3
    have hvs := val_set (L := digs 4 e) (k := 0) (by rw [digs_length]; omega) (nth (digs 4 e) 0 + 1)
    rw [hv, Nat.pow_zero, Nat.one_mul, Nat.one_mul] at hvs
    have he := eq_digs (k := 4) (by simp [digs_length]) hds
    rw [show val ((digs 4 e).set 0 (nth (digs 4 e) 0 + 1)) = e + 1 by omega] at he
    exact he
  · rcases hmod with ⟨h1, h2⟩ | ⟨h1, h2⟩
    · rw [h1, show r + r + bit + B ^ 4 - m = (2 * r + bit - m) + B ^ 4 by omega, Nat.add_mod_right]
      exact Nat.mod_eq_of_lt (by omega)
    · rw [h1, show r + r - B ^ 4 + bit + B ^ 4 - m = 2 * r + bit - m by omega]
      exact Nat.mod_eq_of_lt (by omega)

/-- One bit of a word. -/
theorem and_bit {x d : Nat} (hx : x < B) (hd : d < 64) : bits BinOp.and IntKind.u64 ((x : Nat) : Int) ((2 ^ d : Nat) : Int) = ((x / 2 ^ d % 2 * 2 ^ d : Nat) : Int) := by
  have h := bits_and_u64_nat x (2 ^ d) hx (show 2 ^ d < 2 ^ 64 from Nat.pow_lt_pow_right (by decide) hd)
  have e : x &&& 2 ^ d = x / 2 ^ d % 2 * 2 ^ d := by
    rw [← Nat.toNat_testBit]
    apply Nat.eq_of_testBit_eq
    intro i
    rw [Nat.testBit_and, Nat.testBit_two_pow]
    by_cases hi : d = i
    · subst hi
      cases hb : x.testBit d <;> simp [Nat.testBit_two_pow]
    · cases hb : x.testBit d <;> simp [hi, Nat.testBit_two_pow]
  rw [e] at h
  exact h
end Go.Proofs.Ytbklepgbieohiaa
