/- The walks of Bit. -/
import Derived.Test.YtbklepgbieohiaaM
namespace Go.Proofs.Ytbklepgbieohiaa
open Go.RowKit

theorem nth_digs {k j : Nat} (n : Nat) (h : j < k) : nth (digs k n) j = n / B ^ j % B := by
  induction k generalizing n j with
  | zero => omega
  | succ k ih =>
    cases j with
    | zero => simp [digs, nth]
    | succ j =>
      have e : nth (digs (k + 1) n) (j + 1) = nth (digs k (n / B)) j := rfl
      rw [e, ih (n / B) (by omega), Nat.div_div_eq_div_mul, Nat.pow_succ, Nat.mul_comm]

/-- The bit i of a number; none of any other i than 0 to 255. -/
def nbit (x : Nat) (i : Int) : Bool := decide (0 ≤ i) && decide (i < 256) && x.testBit i.toNat

theorem and_one {a : Nat} (ha : a < B) (r : Nat) : (bits BinOp.and IntKind.u64 (((a : Nat) : Int) / 2 ^ r) 1 == 1) = a.testBit r := by
  have e : ((a : Int) / 2 ^ r) = ((a / 2 ^ r : Nat) : Int) := by simp
  have hm : a / 2 ^ r < B := Nat.lt_of_le_of_lt (Nat.div_le_self _ _) ha
  rw [e, Nat.testBit_eq_decide_div_mod_eq]
  generalize a / 2 ^ r = m at *
  rw [and_one_u64 _ (by omega) (by unfold B at hm; omega)]
  rw [Bool.eq_iff_iff]
  simp only [beq_iff_eq, decide_eq_true_eq]
  omega

theorem testBit_digs {x n : Nat} (h : n < 256) : (nth (digs 4 x) (n / 64)).testBit (n % 64) = x.testBit n := by
  rw [nth_digs x (by omega)]
  have e : B = 2 ^ 64 := rfl
  rw [e, Nat.testBit_mod_two_pow, ← Nat.pow_mul, Nat.testBit_div_two_pow]
  have e2 : n % 64 + 64 * (n / 64) = n := by omega
  rw [e2]
  simp [Nat.mod_lt]

set_option maxHeartbeats 400000 in
set_option maxRecDepth 100000 in
theorem bit_in (X : List Nat) (hlx : X.length = 4) (n : Nat) (hn : n < 256) (hdx : Dig X) (D : Bool) (hD : (nth X (n / 64)).testBit (n % 64) = D) (w : World) :
    Calls Try.prog 12 #[.agg (u64s X), .int .i64 ((n : Nat) : Int)] w fun e w' => e = .returned (.bool D) ∧ Below w.heap.size w w' := by
  have hX := Has.new w (u64s X) 24
  have h1 := hX.cell (k := n / 64) (by omega)
  have HX := Lib.hid hX
  have HD := Lib.hid hD
  clear hX hD
  have e1 : IntKind.i64.wrap (((n : Nat) : Int) / 64) = ((n / 64 : Nat) : Int) := by rw [IntWalk.i64_in _ (by omega)]; simp
  have hbit := and_one (hdx.get (n / 64)) (n % 64)
  rw [HD.out] at hbit
  go_enter Try.func12, Try.ntmps12
  go_wp2
  go_ret
  exact ⟨rfl, (Below.refl _ _).alloc (Nat.le_refl _) _⟩

set_option maxHeartbeats 400000 in
theorem bit_neg (X : List Nat) (i : Int) (hi : i < 0) (w : World) :
    Calls Try.prog 12 #[.agg (u64s X), .int .i64 i] w fun e w' => e = .returned (.bool false) ∧ Below w.heap.size w w' := by
  have h1 : decide (0 ≤ i) = false := by simp; omega
  go_enter Try.func12, Try.ntmps12
  go_wp2
  go_ret
  exact ⟨rfl, (Below.refl _ _).alloc (Nat.le_refl _) _⟩

set_option maxHeartbeats 400000 in
theorem bit_big (X : List Nat) (i : Int) (hi : 256 ≤ i) (w : World) :
    Calls Try.prog 12 #[.agg (u64s X), .int .i64 i] w fun e w' => e = .returned (.bool false) ∧ Below w.heap.size w w' := by
  have h1 : decide (i < 256) = false := by simp; omega
  go_enter Try.func12, Try.ntmps12
  go_wp2
  go_ret
  exact ⟨rfl, (Below.refl _ _).alloc (Nat.le_refl _) _⟩

theorem nbit_in {x : Nat} {n : Nat} (h : n < 256) : nbit x (n : Int) = x.testBit n := by
  unfold nbit; simp; intro _; omega

theorem bit_any (x : Nat) (i : Int) (w : World) :
    Calls Try.prog 12 #[A4 x, .int .i64 i] w fun e w' => e = .returned (.bool (nbit x i)) ∧ Below w.heap.size w w' := by
  by_cases h1 : i < 0
  · have e : nbit x i = false := by unfold nbit; simp; omega
    rw [e]; exact bit_neg _ i h1 w
  · by_cases h2 : 256 ≤ i
    · have e : nbit x i = false := by unfold nbit; simp; omega
      rw [e]; exact bit_big _ i h2 w
    · obtain ⟨n, rfl⟩ := Int.eq_ofNat_of_zero_le (by omega : 0 ≤ i)
      exact bit_in _ (digs_length 4 x) n (by omega) (digs_dig 4 x) _ (by rw [nbit_in (by omega)]; exact testBit_digs (by omega)) w

/-! The reference's. -/

theorem nth_halves (L : List Nat) (j : Nat) : nth (halves L) j = if j % 2 = 0 then um (nth L (j / 2)) 4294967296 else ud (nth L (j / 2)) 4294967296 := by
  induction L generalizing j with
  | nil => simp [halves, nth, um, ud]
  | cons x L ih =>
    have e : halves (x :: L) = um x 4294967296 :: ud x 4294967296 :: halves L := rfl
    rw [e]
    match j with
    | 0 => rfl
    | 1 => rfl
    | j + 2 =>
      have e1 : nth (um x 4294967296 :: ud x 4294967296 :: halves L) (j + 2) = nth (halves L) j := rfl
      have e2 : (j + 2) / 2 = j / 2 + 1 := by omega
      have e3 : (j + 2) % 2 = j % 2 := by omega
      rw [e1, ih, e2, e3]; rfl

theorem testBit_halves (L : List Nat) (n : Nat) : (nth (halves L) (n / 32)).testBit (n % 32) = (nth L (n / 64)).testBit (n % 64) := by
  rw [nth_halves]
  have e1 : n / 32 / 2 = n / 64 := by omega
  rw [e1]
  split
  · have e2 : n % 64 = n % 32 := by omega
    rw [e2]
    unfold um
    rw [show (4294967296 : Nat) = 2 ^ 32 from rfl, Nat.testBit_mod_two_pow]
    have : n % 32 < 32 := Nat.mod_lt _ (by decide)
    simp [this]
  · have e2 : n % 64 = n % 32 + 32 := by omega
    rw [e2]
    unfold ud
    rw [show (4294967296 : Nat) = 2 ^ 32 from rfl, Nat.testBit_div_two_pow]

/-- Halved so many times. -/
def halved (x : Nat) : Nat → Nat
  | 0 => x
  | k + 1 => ud (halved x k) 2

theorem halved_eq (x k : Nat) : halved x k = x / 2 ^ k := by
  induction k with
  | zero => simp [halved]
  | succ k ih => unfold halved ud; rw [ih, Nat.div_div_eq_div_mul, Nat.pow_succ]

theorem halved_lt {x : Nat} (h : x < B) (k : Nat) : halved x k < B := by rw [halved_eq]; exact Nat.lt_of_le_of_lt (Nat.div_le_self _ _) h

set_option maxHeartbeats 400000 in
set_option maxRecDepth 100000 in
theorem rbit_any (D : List Nat) (b off n c i : Nat) (hn : D.length = n) (hd : Dig D) (hb : n ≤ 1000) (hi : i / 32 < n) (w : World) (hD : Seg w b off D) :
    Calls Try.prog 42 #[.slice (some ⟨b, off, none⟩) n c, .int .i64 ((i : Nat) : Int)] w fun e w' => e = .returned (.int .u64 ((um (halved (nth D (i / 32)) (i % 32)) 2 : Nat) : Int)) ∧ w = w' := by
  have h1 := hD (i / 32) (by omega)
  have e1 : IntKind.i64.wrap (((i : Nat) : Int) / 32) = ((i / 32 : Nat) : Int) := by rw [IntWalk.i64_in _ (by omega)]; simp
  have hr0 : i % 32 < 32 := Nat.mod_lt _ (by decide)
  have hx := Lib.hid (hd.get (i / 32))
  clear hD hd hn
  generalize nth D (i / 32) = x at *
  go_enter Try.func42, Try.ntmps42
  go_wp2
  go_loop [5, 6] (fun y k => ∃ j : Nat, j ≤ i % 32 ∧ k = .int .i64 j ∧ y = .int .u64 ((halved x j : Nat) : Int)) (fun _ k => i % 32 - (intOf k).toNat)
  case atStart => exact ⟨0, by omega, rfl, rfl⟩
  case round =>
    obtain ⟨j, hj, rfl, rfl⟩ := hrel
    by_cases hlt : j < i % 32
    · have hq : IntKind.u64.wrap (((halved x j : Nat) : Int) / 2) = ((ud (halved x j) 2 : Nat) : Int) := wrap_ud _ 2 (halved_lt hx.out j)
      go_wp2
      exact ⟨⟨j + 1, by omega, by go_num, rfl⟩, by simp [intOf]; omega⟩
    · obtain rfl : j = i % 32 := by omega
      have hq : (((halved x (i % 32) : Nat) : Int)).tmod 2 = ((um (halved x (i % 32)) 2 : Nat) : Int) := tmod_um _ 2
      go_wp2
      go_ret
      exact ⟨rfl, rfl⟩

set_option maxHeartbeats 400000 in
set_option maxRecDepth 100000 in
theorem rBit_in (X : List Nat) (hlx : X.length = 4) (hdx : Dig X) (n : Nat) (hn : n < 256) (D : Bool) (hD : (((um (halved (nth (halves X) (n / 32)) (n % 32)) 2 : Nat) : Int) == 1) = D) (w : World) :
    Calls Try.prog 13 #[.agg (u64s X), .int .i64 ((n : Nat) : Int)] w fun e w' => e = .returned (.bool D) ∧ Below w.heap.size w w' := by
  have hX := Lib.hid (Has.new w (u64s X) 24).seg
  have h8 := Lib.hid (show (halves X).length = 8 by rw [halves_length, hlx])
  have HD := Lib.hid hD
  have hdh := Lib.hid (show Dig (halves X) by
    intro y hy
    obtain ⟨k, hk, rfl⟩ := List.getElem_of_mem hy
    have := dig_halves hdx k
    rw [nth_lt hk] at this
    exact Nat.lt_trans this (by decide))
  clear hD
  go_enter Try.func13, Try.ntmps13
  go_wp2_with fail
  refine (digits_any X _ _ _ _ hlx (by omega) (by omega) hdx _ hX.out (by simp)).mono ?_
  rintro e w1 ⟨v, rfl, ho, hb⟩
  have hb1 := Lib.hid (bcall ((Below.refl w.heap.size w).alloc (Nat.le_refl _) _) hb (by simp))
  rcases ho.form with ⟨_, h2⟩ | ⟨g, c, rfl, hg1, hg3, hgc, _, hs2, _⟩
  · have h3 := h8.out; rw [h2] at h3; simp at h3
  have hs8 := h8.out
  rw [hs8]
  have HS := Lib.hid hs2
  clear ho hs2 hb
  go_wp2_with fail
  refine (rbit_any (halves X) g 0 8 c n hs8 hdh.out (by omega) (by omega) _ HS.out).mono ?_
  rintro e w3 ⟨rfl, rfl⟩
  have hq := HD.out
  go_wp2
  go_ret
  exact ⟨rfl, hb1.out⟩

set_option maxHeartbeats 400000 in
theorem rBit_neg (X : List Nat) (i : Int) (hi : i < 0) (w : World) :
    Calls Try.prog 13 #[.agg (u64s X), .int .i64 i] w fun e w' => e = .returned (.bool false) ∧ Below w.heap.size w w' := by
  have h1 : decide (0 ≤ i) = false := by simp; omega
  go_enter Try.func13, Try.ntmps13
  go_wp2
  go_ret
  exact ⟨rfl, (Below.refl _ _).alloc (Nat.le_refl _) _⟩

set_option maxHeartbeats 400000 in
theorem rBit_big (X : List Nat) (i : Int) (hi : 256 ≤ i) (w : World) :
    Calls Try.prog 13 #[.agg (u64s X), .int .i64 i] w fun e w' => e = .returned (.bool false) ∧ Below w.heap.size w w' := by
  have h1 : decide (i < 256) = false := by simp; omega
  go_enter Try.func13, Try.ntmps13
  go_wp2
  go_ret
  exact ⟨rfl, (Below.refl _ _).alloc (Nat.le_refl _) _⟩

theorem rBit_any (x : Nat) (i : Int) (w : World) :
    Calls Try.prog 13 #[A4 x, .int .i64 i] w fun e w' => e = .returned (.bool (nbit x i)) ∧ Below w.heap.size w w' := by
  by_cases h1 : i < 0
  · have e : nbit x i = false := by unfold nbit; simp; omega
    rw [e]; exact rBit_neg _ i h1 w
  · by_cases h2 : 256 ≤ i
    · have e : nbit x i = false := by unfold nbit; simp; omega
      rw [e]; exact rBit_big _ i h2 w
    · obtain ⟨n, rfl⟩ := Int.eq_ofNat_of_zero_le (by omega : 0 ≤ i)
      refine rBit_in _ (digs_length 4 x) (digs_dig 4 x) n (by omega) _ ?_ w
      rw [nbit_in (by omega), ← testBit_digs (by omega), ← testBit_halves, Nat.testBit_eq_decide_div_mod_eq, ← halved_eq]
      unfold um
      rw [Bool.eq_iff_iff]
      simp only [beq_iff_eq, decide_eq_true_eq]
      omega
end Go.Proofs.Ytbklepgbieohiaa
