/- What the reference's Text comes to: the same text. -/
import Derived.Test.YtbklepgbieohiaaX1
namespace Go.Proofs.Ytbklepgbieohiaa
open Go.RowKit

theorem textN_length (x m : Nat) : (textN x m).length = m := by simp [textN]
theorem nth_textN {x m j : Nat} (h : j < m) : nth (textN x m) j = hexd (x / 16 ^ (m - 1 - j) % 16) := by
  rw [nth_lt (by rw [textN_length]; exact h)]
  simp [textN]

theorem textN_drop {x m : Nat} (h : m ≤ 64) : (textN x 64).drop (64 - m) = textN x m := by
  have := list_of_nth (A := (textN x 64).drop (64 - m)) (n := m) (f := fun j => hexd (x / 16 ^ (m - 1 - j) % 16)) (by rw [List.length_drop, textN_length]; omega) (fun j hj => by
    rw [nth_drop, nth_textN (by omega)]
    congr 4
    omega)
  rw [this]; rfl

theorem nth_twoOf {L : List Nat} {j : Nat} (h : j < 2 * L.length) : nth (twoOf L) j = hexd (if j % 2 = 0 then ud (nth L (j / 2)) 16 else um (nth L (j / 2)) 16) := by
  induction L generalizing j with
  | nil => simp at h
  | cons x L ih =>
    have e : twoOf (x :: L) = hexd (ud x 16) :: hexd (um x 16) :: twoOf L := rfl
    rw [e]
    match j, h with
    | 0, _ => rfl
    | 1, _ => rfl
    | j + 2, h =>
      have e1 : nth (hexd (ud x 16) :: hexd (um x 16) :: twoOf L) (j + 2) = nth (twoOf L) j := rfl
      have e2 : (j + 2) / 2 = j / 2 + 1 := by omega
      have e3 : (j + 2) % 2 = j % 2 := by omega
      rw [e1, ih (by simp at h; omega), e2, e3]; rfl

theorem byteOf_digs {x j : Nat} (h : j < 32) : byteOf (digs 4 x) j = x / 256 ^ (31 - j) % 256 := by
  unfold byteOf byt
  rw [nth_digs x (by omega)]
  obtain ⟨q, r, hr, hq, e⟩ : ∃ q r, r < 8 ∧ q < 4 ∧ 31 - j = 8 * q + r := ⟨(31 - j) / 8, (31 - j) % 8, Nat.mod_lt _ (by decide), by omega, by omega⟩
  have e1 : 3 - j / 8 = q := by omega
  have e2 : 7 - j % 8 = r := by omega
  rw [e1, e2, e]
  have e3 : B ^ q = 256 ^ (8 * q) := by rw [Nat.pow_mul]; rfl
  have e4 : 2 ^ (8 * r) = 256 ^ r := by rw [Nat.pow_mul]
  rw [e3, e4, Nat.pow_add, ← Nat.div_div_eq_div_mul]
  generalize x / 256 ^ (8 * q) = y
  have e5 : B = 256 ^ r * 256 ^ (8 - r) := by rw [← Nat.pow_add, show r + (8 - r) = 8 by omega]; rfl
  rw [e5, Nat.mod_mul_right_div_self]
  have e6 : 256 ^ (8 - r) = 256 * 256 ^ (7 - r) := by rw [show 8 - r = 7 - r + 1 by omega, Nat.pow_succ, Nat.mul_comm]
  rw [e6, Nat.mod_mul_right_mod]

theorem twoOf_bytes (x : Nat) : twoOf (bytesOf (digs 4 x) 32) = textN x 64 := by
  have hl : (bytesOf (digs 4 x) 32).length = 32 := bytesOf_length _ _
  have := list_of_nth (A := twoOf (bytesOf (digs 4 x) 32)) (n := 64) (f := fun j => hexd (x / 16 ^ (64 - 1 - j) % 16)) (by rw [twoOf_length, hl]) (fun j hj => by
    rw [nth_twoOf (by rw [hl]; omega)]
    have hj2 : j / 2 < 32 := by omega
    have e : nth (bytesOf (digs 4 x) 32) (j / 2) = x / 256 ^ (31 - j / 2) % 256 := by
      rw [nth_lt (by rw [hl]; exact hj2)]
      simp only [bytesOf, List.getElem_map, List.getElem_range]
      exact byteOf_digs hj2
    rw [e]
    have e2 : 256 ^ (31 - j / 2) = 16 ^ (2 * (31 - j / 2)) := by rw [Nat.pow_mul]
    rw [e2]
    congr 1
    split
    · have e3 : 64 - 1 - j = 2 * (31 - j / 2) + 1 := by omega
      rw [e3, Nat.pow_succ, ← Nat.div_div_eq_div_mul]
      unfold ud
      omega
    · have e3 : 64 - 1 - j = 2 * (31 - j / 2) := by omega
      rw [e3]
      unfold um
      omega)
  rw [this]; rfl

theorem hexd_zero {d : Nat} (h : d < 16) : hexd d = 48 ↔ d = 0 := by unfold hexd; split <;> omega

theorem lt_of_zeros {x : Nat} (hx : x < 16 ^ 64) (q : Nat) (hq : q ≤ 64) (h : ∀ j, j < q → x / 16 ^ (63 - j) % 16 = 0) : x < 16 ^ (64 - q) := by
  induction q with
  | zero => exact hx
  | succ q ih =>
    have h1 := ih (by omega) (fun j hj => h j (by omega))
    have h2 := h q (by omega)
    have e : 64 - q = (63 - q) + 1 := by omega
    rw [e, Nat.pow_succ] at h1
    rw [show 64 - (q + 1) = 63 - q by omega]
    have hp : 0 < 16 ^ (63 - q) := Nat.pow_pos (by decide)
    generalize 16 ^ (63 - q) = p at *
    have h3 : x / p < 16 := Nat.div_lt_of_lt_mul h1
    have h4 : x / p = 0 := by rw [Nat.mod_eq_of_lt h3] at h2; exact h2
    rcases Nat.div_eq_zero_iff.1 h4 with h5 | h5
    · omega
    · exact h5

theorem hexn_eq {x m : Nat} (hm : 1 ≤ m) (h : x < 16 ^ m) (h2 : m = 1 ∨ 16 ^ (m - 1) ≤ x) : hexn (nlen x) = m := by
  by_cases h0 : x = 0
  · subst h0
    rcases h2 with h2 | h2
    · subst h2; rfl
    · have : 0 < 16 ^ (m - 1) := Nat.pow_pos (by decide)
      omega
  · have e : nlen x = x.log2 + 1 := by unfold nlen; rw [if_neg h0]
    have h3 := Nat.log2_self_le h0
    have h4 := @Nat.lt_log2_self x
    have h5 : x.log2 < 4 * m := by
      apply (Nat.pow_lt_pow_iff_right (a := 2) (by decide)).1
      rw [Nat.pow_mul]
      exact Nat.lt_of_le_of_lt h3 h
    unfold hexn
    rw [e, if_neg (by omega)]
    rcases h2 with h2 | h2
    · subst h2; omega
    · have h6 : 4 * (m - 1) < x.log2 + 1 := by
        apply (Nat.pow_lt_pow_iff_right (a := 2) (by decide)).1
        rw [Nat.pow_mul]
        exact Nat.lt_of_le_of_lt h2 h4
      omega

theorem bytes_byt (X : List Nat) (n : Nat) : Byt (bytesOf X n) := by
  intro y hy
  simp only [bytesOf, List.mem_map] at hy
  obtain ⟨j, _, rfl⟩ := hy
  exact Nat.mod_lt _ (by decide)

theorem rtext_any (x : Nat) (hx : x < B ^ 4) (w : World) :
    Calls Try.prog 18 #[A4 x] w fun e w' => e = .returned (.string (str (textN x (hexn (nlen x))))) ∧ Below w.heap.size w w' := by
  refine rtext_core _ (bytesOf (digs 4 x) 32) (digs_length 4 x) (bytesOf_length _ _) (bytes_byt _ _) _ ?_ (rbytes_core _ (digs_length 4 x) (digs_dig 4 x)) w
  intro m hm1 hm2 hz hs
  rw [twoOf_bytes] at *
  rw [textN_drop hm2]
  have h16 : B ^ 4 = 16 ^ 64 := by decide
  rw [h16] at hx
  have hlt : x < 16 ^ m := by
    have := lt_of_zeros hx (64 - m) (by omega) (fun j hj => by
      have := hz j hj
      rw [nth_textN (by omega)] at this
      exact (hexd_zero (Nat.mod_lt _ (by decide))).1 this)
    rwa [show 64 - (64 - m) = m by omega] at this
  have hge : m = 1 ∨ 16 ^ (m - 1) ≤ x := by
    rcases hs with hs | hs
    · exact Or.inl hs
    · right
      rw [nth_textN (by omega)] at hs
      have h1 : ¬ x / 16 ^ (64 - 1 - (64 - m)) % 16 = 0 := fun e => hs ((hexd_zero (Nat.mod_lt _ (by decide))).2 e)
      rw [show 64 - 1 - (64 - m) = m - 1 by omega] at h1
      rcases Nat.lt_or_ge x (16 ^ (m - 1)) with h2 | h2
      · rw [Nat.div_eq_of_lt h2] at h1; simp at h1
      · exact h2
  rw [hexn_eq hm1 hlt hge]
end Go.Proofs.Ytbklepgbieohiaa
