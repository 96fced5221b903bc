/- What is told is read as what it was: bytes and texts, in plain numbers. -/
import Derived.Test.YtbklepgbieohiaaG6
import Derived.Test.YtbklepgbieohiaaX2
namespace Go.Proofs.Ytbklepgbieohiaa
open Go.RowKit

theorem rdn_bytes (x : Nat) (hx : x < B ^ 4) : ∀ k, k ≤ 32 → rdn ((bytesOf (digs 4 x) 32).take k) = x / 256 ^ (32 - k)
  | 0, _ => by
    have : B ^ 4 = 256 ^ 32 := by decide
    rw [this] at hx
    simp [rdn, Nat.div_eq_of_lt hx]
  | k + 1, hk => by
    have hl := bytesOf_length (digs 4 x) 32
    have hb : nth (bytesOf (digs 4 x) 32) k = x / 256 ^ (31 - k) % 256 := by
      rw [← byteOf_digs (by omega), nth_lt (by omega)]
      simp [bytesOf]
    rw [rdn_succ (by omega), rdn_bytes x hx k (by omega), hb, show 32 - k = (31 - k) + 1 by omega, Nat.pow_succ, ← Nat.div_div_eq_div_mul, show 32 - (k + 1) = 31 - k by omega]
    omega

theorem rdOut_bytes (x : Nat) (hx : x < B ^ 4) : rdOut (bytesOf (digs 4 x) 32) = .tuple #[A4 x, .int .i64 0] := by
  have hl := bytesOf_length (digs 4 x) 32
  have h := rdn_bytes x hx 32 (by omega)
  rw [List.take_of_length_le (by omega)] at h
  unfold rdOut
  rw [if_neg (by omega), h]
  simp

theorem hexd_hex {d : Nat} (h : d < 16) : isHex (hexd d) = true ∧ hexv (hexd d) = d := by
  unfold isHex hexv hexd
  constructor
  · simp; split <;> omega
  · split <;> split <;> omega

theorem hexv_hexd {c : Nat} (h : isHex c = true) : hexd (hexv c) = c := by
  simp [isHex] at h
  unfold hexv hexd
  split <;> split <;> omega

theorem textN_len (x m : Nat) : (textN x m).length = m := by simp [textN]
theorem textN_nth {x m j : Nat} (h : j < m) : nth (textN x m) j = hexd (x / 16 ^ (m - 1 - j) % 16) := by
  rw [nth_lt (by rw [textN_len]; exact h)]; simp [textN]

theorem numH_text {x m : Nat} (hx : x < 16 ^ m) : ∀ k, k ≤ m → numH ((textN x m).take k) = x / 16 ^ (m - k)
  | 0, _ => by simp [numH, Nat.div_eq_of_lt hx]
  | k + 1, hk => by
    rw [numH_succ (by rw [textN_len]; omega), numH_text hx k (by omega), textN_nth (by omega), (hexd_hex (Nat.mod_lt _ (by decide))).2,
      show m - k = (m - 1 - k) + 1 by omega, Nat.pow_succ, ← Nat.div_div_eq_div_mul, show m - (k + 1) = m - 1 - k by omega]
    omega

/-- How many digits to the base 16. -/
theorem hexn_lt (x : Nat) : x < 16 ^ hexn (nlen x) := by
  by_cases h0 : x = 0
  · subst h0; decide
  · have h1 := Nat.lt_log2_self (n := x)
    unfold nlen hexn
    rw [if_neg h0, if_neg (by omega)]
    have e : (16 : Nat) ^ ((x.log2 + 1 + 3) / 4) = 2 ^ (4 * ((x.log2 + 1 + 3) / 4)) := by rw [Nat.pow_mul]
    rw [e]
    exact Nat.lt_of_lt_of_le h1 (Nat.pow_le_pow_right (by decide) (by omega))

theorem hexn_le {x : Nat} (h : 1 < hexn (nlen x)) : 16 ^ (hexn (nlen x) - 1) ≤ x := by
  by_cases h0 : x = 0
  · subst h0; revert h; decide
  · have h1 := Nat.log2_self_le h0
    unfold nlen hexn at *
    rw [if_neg h0, if_neg (by omega)] at *
    have e : (16 : Nat) ^ ((x.log2 + 1 + 3) / 4 - 1) = 2 ^ (4 * ((x.log2 + 1 + 3) / 4 - 1)) := by rw [Nat.pow_mul]
    rw [e]
    exact Nat.le_trans (Nat.pow_le_pow_right (by decide) (by omega)) h1

theorem hexn_pos (n : Nat) : 1 ≤ hexn n := by unfold hexn; split <;> omega

theorem hexn_of {x m : Nat} (hm : 0 < m) (h1 : x < 16 ^ m) (h2 : 1 < m → 16 ^ (m - 1) ≤ x) : hexn (nlen x) = m := by
  have a1 := hexn_lt x
  have a2 := @hexn_le x
  have a3 := hexn_pos (nlen x)
  generalize hexn (nlen x) = n at *
  rcases Nat.lt_trichotomy n m with h | h | h
  · have h3 := h2 (by omega)
    have h4 : (16 : Nat) ^ n ≤ 16 ^ (m - 1) := Nat.pow_le_pow_right (by decide) (by omega)
    omega
  · exact h
  · have h3 := a2 (by omega)
    have h4 : (16 : Nat) ^ m ≤ 16 ^ (n - 1) := Nat.pow_le_pow_right (by decide) (by omega)
    omega

theorem psOut_text (x : Nat) (hx : x < B ^ 4) : psOut (textN x (hexn (nlen x))) = .tuple #[A4 x, .int .i64 0] := by
  have h1 := hexn_lt x
  have h2 := @hexn_le x
  have h3 := hexn_pos (nlen x)
  have h64 : hexn (nlen x) ≤ 64 := by
    apply Nat.le_of_not_lt
    intro h
    have := h2 (by omega)
    have hB : B ^ 4 = 16 ^ 64 := by decide
    have h4 : (16 : Nat) ^ 64 ≤ 16 ^ (hexn (nlen x) - 1) := Nat.pow_le_pow_right (by decide) (by omega)
    omega
  generalize hexn (nlen x) = m at *
  have hl := textN_len x m
  have hall : allHex (textN x m) = true := allHex_iff.2 fun j hj => by
    rw [textN_nth (by omega)]; exact (hexd_hex (Nat.mod_lt _ (by decide))).1
  have hhead : headBad (textN x m) = false := by
    unfold headBad
    rw [decide_eq_false_iff_not]
    rintro (h | ⟨h, h0⟩)
    · rw [h] at hl; simp at hl; omega
    · rw [hl] at h
      rw [textN_nth (by omega)] at h0
      have h5 := h2 h
      rw [Nat.sub_zero] at h0
      have h6 : x / 16 ^ (m - 1) < 16 := by
        rw [Nat.div_lt_iff_lt_mul (Nat.pow_pos (by decide)), ← Nat.pow_succ']
        rwa [show (m - 1).succ = m by omega]
      have h7 : 1 ≤ x / 16 ^ (m - 1) := by
        rw [Nat.le_div_iff_mul_le (Nat.pow_pos (by decide))]; omega
      rw [Nat.mod_eq_of_lt h6] at h0
      unfold hexd at h0
      split at h0 <;> omega
  have hn := numH_text h1 m (Nat.le_refl _)
  rw [List.take_of_length_le (by omega)] at hn
  unfold psOut
  rw [hall, hhead, hn, hl, if_neg (by simp), if_neg (by omega)]
  simp

theorem numH_div {L : List Nat} (hh : ∀ j, j < L.length → isHex (nth L j) = true) : ∀ d, d ≤ L.length → numH L / 16 ^ d = numH (L.take (L.length - d))
  | 0, _ => by simp
  | d + 1, hd => by
    have h1 := hexv_lt (hh (L.length - (d + 1)) (by omega))
    rw [Nat.pow_succ, ← Nat.div_div_eq_div_mul, numH_div hh d (by omega), show L.length - d = L.length - (d + 1) + 1 by omega, numH_succ (by omega)]
    omega

/-- A text that is read is the text of what it was read as. -/
theorem text_of_read {L : List Nat} (hh : headBad L = false) (ha : allHex L = true) : textN (numH L) (hexn (nlen (numH L))) = L := by
  have hhex := allHex_iff.1 ha
  have hpos : 0 < L.length := by
    cases L with
    | nil => simp [headBad] at hh
    | cons x l => simp
  have h1 := numH_lt hhex L.length (Nat.le_refl _)
  rw [List.take_length] at h1
  have hm : hexn (nlen (numH L)) = L.length := by
    refine hexn_of hpos h1 fun h => ?_
    have h2 := numH_div hhex (L.length - 1) (by omega)
    rw [show L.length - (L.length - 1) = 0 + 1 by omega, numH_succ hpos] at h2
    have h3 : nth L 0 ≠ 48 := by
      intro h3
      unfold headBad at hh
      rw [decide_eq_false_iff_not] at hh
      exact hh (Or.inr ⟨h, h3⟩)
    have h4 : 1 ≤ hexv (nth L 0) := by
      have := hhex 0 hpos
      simp [isHex] at this
      unfold hexv
      split <;> omega
    have h5 : 1 ≤ numH L / 16 ^ (L.length - 1) := by rw [h2]; omega
    rw [Nat.le_div_iff_mul_le (Nat.pow_pos (by decide))] at h5
    omega
  rw [hm]
  refine (list_of_nth (f := fun j => hexd (numH L / 16 ^ (L.length - 1 - j) % 16)) rfl fun j hj => ?_).symm
  rw [numH_div hhex (L.length - 1 - j) (by omega), show L.length - (L.length - 1 - j) = j + 1 by omega, numH_succ hj, Nat.mul_comm, Nat.mul_add_mod,
    Nat.mod_eq_of_lt (hexv_lt (hhex j hj)), hexv_hexd (hhex j hj)]
end Go.Proofs.Ytbklepgbieohiaa
