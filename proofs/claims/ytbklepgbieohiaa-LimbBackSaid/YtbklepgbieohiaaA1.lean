/- The walk of shove: a number shifted by four or eight bits, and something beneath. -/
import Derived.Test.YtbklepgbieohiaaZ
import Derived.BigRegion
import Derived.Laws.Bits64b
namespace Go.Proofs.Ytbklepgbieohiaa
open Go.RowKit

/-- Digits shifted by b, and something beneath. -/
def shv (b s p : Nat) : Nat := s * 2 ^ b % B + p / 2 ^ (64 - b)

theorem shv_lt {b s p : Nat} (hb : b = 4 ∨ b = 8) (hp : p < B) : shv b s p < B := by
  rcases hb with rfl | rfl <;> (simp only [shv, B] at *; omega)

def shvs (b : Nat) (X : List Nat) (x : Nat) : List Nat := [nth X 0 * 2 ^ b % B + x, shv b (nth X 1) (nth X 0), shv b (nth X 2) (nth X 1), shv b (nth X 3) (nth X 2)]

theorem low_lt {b a x : Nat} (hb : b = 4 ∨ b = 8) (hx : x < 2 ^ b) : a * 2 ^ b % B + x < B := by
  rcases hb with rfl | rfl <;> (simp only [B] at *; omega)

theorem shvs_dig {b x : Nat} {X : List Nat} (hb : b = 4 ∨ b = 8) (hd : Dig X) (hx : x < 2 ^ b) : Dig (shvs b X x) :=
  Dig.cons (low_lt hb hx) (Dig.cons (shv_lt hb (hd.get 0)) (Dig.cons (shv_lt hb (hd.get 1)) (Dig.cons (shv_lt hb (hd.get 2)) Dig.nil)))

theorem shv_split {b : Nat} (hb : b = 4 ∨ b = 8) (a : Nat) : a * 2 ^ b = a * 2 ^ b % B + B * (a / 2 ^ (64 - b)) := by
  rcases hb with rfl | rfl <;> (simp only [B] at *; omega)

set_option maxRecDepth 100000 in
theorem shvs_key {b x : Nat} {X : List Nat} (hl : X.length = 4) (hb : b = 4 ∨ b = 8) : val X * 2 ^ b + x = val (shvs b X x) + B ^ 4 * (nth X 3 / 2 ^ (64 - b)) := by
  have hX : val X = nth X 0 + B * (nth X 1 + B * (nth X 2 + B * nth X 3)) := by
    conv => lhs; rw [list4 hl]
    simp [val]
  have s0 := shv_split hb (nth X 0); have s1 := shv_split hb (nth X 1); have s2 := shv_split hb (nth X 2); have s3 := shv_split hb (nth X 3)
  rw [hX]
  simp only [shvs, shv, val]
  generalize nth X 0 = a0 at *; generalize nth X 1 = a1 at *; generalize nth X 2 = a2 at *; generalize nth X 3 = a3 at *
  generalize a0 * 2 ^ b % B = m0 at *; generalize a1 * 2 ^ b % B = m1 at *; generalize a2 * 2 ^ b % B = m2 at *; generalize a3 * 2 ^ b % B = m3 at *
  generalize a0 / 2 ^ (64 - b) = c0 at *; generalize a1 / 2 ^ (64 - b) = c1 at *; generalize a2 / 2 ^ (64 - b) = c2 at *; generalize a3 / 2 ^ (64 - b) = c3 at *
  rcases hb with rfl | rfl <;> (simp only [B] at *; omega)

theorem shvs_val {b x : Nat} {X : List Nat} (hl : X.length = 4) (hb : b = 4 ∨ b = 8) (hd : Dig X) (hx : x < 2 ^ b) : val (shvs b X x) = (val X * 2 ^ b + x) % B ^ 4 := by
  have hlt := val_lt (shvs_dig hb hd hx)
  rw [shvs_key hl hb, Nat.add_mul_mod_self_left, Nat.mod_eq_of_lt]
  simpa [shvs] using hlt

theorem shl_split {b : Nat} (hb : b = 4 ∨ b = 8) (s : Nat) : s * 2 ^ b % B = 2 ^ b * (s % 2 ^ (64 - b)) := by
  rcases hb with rfl | rfl <;> (simp only [B] at *; omega)

theorem or_shv {b s p : Nat} (hb : b = 4 ∨ b = 8) (hp : p < B) : s * 2 ^ b % B ||| p / 2 ^ (64 - b) = shv b s p := by
  have h2 : p / 2 ^ (64 - b) < 2 ^ b := by
    rcases hb with rfl | rfl <;> (simp only [B] at *; omega)
  unfold shv
  rw [shl_split hb, Nat.two_pow_add_eq_or_of_lt h2]

theorem or_low {b s x : Nat} (hb : b = 4 ∨ b = 8) (hx : x < 2 ^ b) : s * 2 ^ b % B ||| x = s * 2 ^ b % B + x := by
  rw [shl_split hb, Nat.two_pow_add_eq_or_of_lt hx]

theorem bor_low {b s x : Nat} (hb : b = 4 ∨ b = 8) (hx : x < 2 ^ b) : bits BinOp.or IntKind.u64 (IntKind.u64.wrap (((s : Nat) : Int) * ((2 ^ b : Nat) : Int))) ((x : Nat) : Int) = ((s * 2 ^ b % B + x : Nat) : Int) := by
  rw [← Int.natCast_mul, wrap_u64]
  have h := bits_or_u64_nat (s * 2 ^ b % B) x (Nat.mod_lt _ B_pos) (by rcases hb with rfl | rfl <;> omega)
  rw [or_low hb hx] at h
  exact h

theorem bor_shv {b s p : Nat} (hb : b = 4 ∨ b = 8) (hp : p < B) :
    bits BinOp.or IntKind.u64 (IntKind.u64.wrap (((s : Nat) : Int) * ((2 ^ b : Nat) : Int))) (((p : Nat) : Int) / ((2 ^ (64 - b) : Nat) : Int)) = ((shv b s p : Nat) : Int) := by
  rw [← Int.natCast_mul, wrap_u64, show (((p : Nat) : Int) / ((2 ^ (64 - b) : Nat) : Int)) = ((p / 2 ^ (64 - b) : Nat) : Int) from rfl]
  have h := bits_or_u64_nat (s * 2 ^ b % B) (p / 2 ^ (64 - b)) (Nat.mod_lt _ B_pos) (Nat.lt_of_le_of_lt (Nat.div_le_self _ _) hp)
  rw [or_shv hb hp] at h
  exact h

set_option maxHeartbeats 400000 in
set_option maxRecDepth 100000 in
theorem shove4_core (X : List Nat) (x : Nat) (hlx : X.length = 4) (hdx : Dig X) (hx : x < 2 ^ 4) (w : World) :
    Calls Try.prog 46 #[.agg (u64s X), .int .u64 4, .int .u64 x] w fun e w' => e = .returned (.agg (u64s (shvs 4 X x))) ∧ Below w.heap.size w w' := by
  go_enter Try.func46, Try.ntmps46
  go_wp2
  go_loopw [7] (fun i wr => ∃ (k : Nat) (A : List Nat), k ≤ 3 ∧ A.length = 4 ∧ (∀ j, j ≤ k → nth A j = nth X j) ∧ (∀ j, k < j → j < 4 → nth A j = shv 4 (nth X j) (nth X (j - 1))) ∧ i = .int .i64 k ∧ Below w.heap.size w wr ∧ Has wr w.heap.size 24 (u64s A) ∧ Has wr (w.heap.size + 1) 24 (u64s [0, 0, 0, 0])) (fun i _ => (intOf i).toNat)
  case atStart =>
    refine ⟨3, X, by omega, hlx, fun _ _ => rfl, fun j h1 h2 => by omega, rfl, ((Below.refl _ _).alloc (Nat.le_refl _) _).alloc (by simp) _, (Has.new _ _ _).alloc _, ?_⟩
    have := Has.newAt (w := w.alloc (.cells (u64s X) 24)) (u64s [0, 0, 0, 0]) 24 (n := w.heap.size + 1) (by simp)
    simpa [u64s] using this
  case round =>
    obtain ⟨k, A, hk, hl, hA1, hA2, rfl, hbel, hA, hZ⟩ := hrel
    have HA := Lib.hid hA
    have HZ := Lib.hid hZ
    have Hl := Lib.hid hl
    have HA1 := Lib.hid hA1
    have HA2 := Lib.hid hA2
    by_cases hpos : 0 < k
    · obtain ⟨p, hp⟩ : ∃ p, p + 1 = k := ⟨k - 1, by omega⟩
      have h1 := hA.cell (k := k) (by omega)
      have h2 := hA.cell (k := p) (by omega)
      have h3 := hA.free k
      have e0 : (k : Int) - 1 = (p : Int) := by omega
      have hd : decide ((0 : Int) < (k : Int)) = true := by simp; omega
      have hk4 : (k : Int) < 4 := by omega
      have hp4 : (p : Int) < 4 := by omega
      have hbo := bor_shv (b := 4) (s := nth A k) (p := nth A p) (by decide) (by rw [hA1 p (by omega)]; exact hdx.get p)
      simp at hbo
      have hp2 := Lib.hid hp
      clear hA hA1 hA2 hZ hl hp
      go_wp2
      go_region
      go_wp2
      refine ⟨⟨p, A.set k (shv 4 (nth A k) (nth A p)), by have := hp2.out; omega, by simpa using Hl.out, ?_, ?_, by go_num, ?_, HA.out.set k _, HZ.out.other (by simp) _⟩, by have := hp2.out; simp [intOf]; omega⟩
      · intro j hj
        have := hp2.out
        rw [nth_set (by have := Hl.out; omega), if_neg (by omega)]
        exact HA1.out j (by omega)
      · intro j hj hj4
        have hpk := hp2.out
        rw [nth_set (by have := Hl.out; omega)]
        split
        · subst j
          rw [HA1.out k (by omega), HA1.out p (by omega), show k - 1 = p by omega]
        · exact HA2.out j (by omega) hj4
      · exact (hbel.setCell (by simp <;> omega) _).drew
    · obtain rfl : k = 0 := by omega
      have h1 := hA.cell (k := 0) (by omega)
      have h3 := hA.free 0
      have hd : decide ((0 : Int) < ((0 : Nat) : Int)) = false := by simp
      have hbo := bor_low (b := 4) (s := nth A 0) (x := x) (by decide) hx
      have hA3 := Lib.hid (HA.out.set 0 (nth A 0 * 2 ^ 4 % B + x))
      have hZ3 := Lib.hid (HZ.out.other (a := ⟨w.heap.size, 0, none⟩) (by simp) (.int .u64 ((nth A 0 * 2 ^ 4 % B + x : Nat) : Int)))
      have hb3 := Lib.hid (hbel.setCell (show w.heap.size ≤ (⟨w.heap.size, 0, none⟩ : Addr).block from Nat.le_refl _) (.int .u64 ((nth A 0 * 2 ^ 4 % B + x : Nat) : Int)))
      have hfin := Lib.hid (show A.set 0 (nth A 0 * 2 ^ 4 % B + x) = shvs 4 X x by
        have g0 := hA1 0 (by omega); have g1 := hA2 1 (by omega) (by omega); have g2 := hA2 2 (by omega) (by omega); have g3 := hA2 3 (by omega) (by omega)
        rw [shvs, ← g1, ← g2, ← g3, ← g0]
        conv => lhs; rw [list4 hl]
        rfl)
      have hls : (A.set 0 (nth A 0 * 2 ^ 4 % B + x)).length = 4 := by simpa using hl
      clear hA hA1 hA2 hZ hl
      generalize hN : nth A 0 * 2 ^ 4 % B + x = N at *
      simp at hbo
      go_wp2_with (first | (refine load4 rfl _ rfl _ rfl 24 (A.set 0 N) hA3.out hls ?_) | (refine store4 rfl _ _ rfl (w.heap.size + 1) rfl (A.set 0 N) rfl 24 _ hZ3.out hls rfl ?_; intro w1 hw1 ho1))
      rw [hfin.out] at hw1
      exact bodyPost_ret (res4 rfl rfl hw1 rfl) rfl ⟨rfl, ho1.below hb3.out (by omega)⟩

set_option maxHeartbeats 400000 in
set_option maxRecDepth 100000 in
theorem shove8_core (X : List Nat) (x : Nat) (hlx : X.length = 4) (hdx : Dig X) (hx : x < 2 ^ 8) (w : World) :
    Calls Try.prog 46 #[.agg (u64s X), .int .u64 8, .int .u64 x] w fun e w' => e = .returned (.agg (u64s (shvs 8 X x))) ∧ Below w.heap.size w w' := by
  go_enter Try.func46, Try.ntmps46
  go_wp2
  go_loopw [7] (fun i wr => ∃ (k : Nat) (A : List Nat), k ≤ 3 ∧ A.length = 4 ∧ (∀ j, j ≤ k → nth A j = nth X j) ∧ (∀ j, k < j → j < 4 → nth A j = shv 8 (nth X j) (nth X (j - 1))) ∧ i = .int .i64 k ∧ Below w.heap.size w wr ∧ Has wr w.heap.size 24 (u64s A) ∧ Has wr (w.heap.size + 1) 24 (u64s [0, 0, 0, 0])) (fun i _ => (intOf i).toNat)
  case atStart =>
    refine ⟨3, X, by omega, hlx, fun _ _ => rfl, fun j h1 h2 => by omega, rfl, ((Below.refl _ _).alloc (Nat.le_refl _) _).alloc (by simp) _, (Has.new _ _ _).alloc _, ?_⟩
    have := Has.newAt (w := w.alloc (.cells (u64s X) 24)) (u64s [0, 0, 0, 0]) 24 (n := w.heap.size + 1) (by simp)
    simpa [u64s] using this
  case round =>
    obtain ⟨k, A, hk, hl, hA1, hA2, rfl, hbel, hA, hZ⟩ := hrel
    have HA := Lib.hid hA
    have HZ := Lib.hid hZ
    have Hl := Lib.hid hl
    have HA1 := Lib.hid hA1
    have HA2 := Lib.hid hA2
    by_cases hpos : 0 < k
    · obtain ⟨p, hp⟩ : ∃ p, p + 1 = k := ⟨k - 1, by omega⟩
      have h1 := hA.cell (k := k) (by omega)
      have h2 := hA.cell (k := p) (by omega)
      have h3 := hA.free k
      have e0 : (k : Int) - 1 = (p : Int) := by omega
      have hd : decide ((0 : Int) < (k : Int)) = true := by simp; omega
      have hk4 : (k : Int) < 4 := by omega
      have hp4 : (p : Int) < 4 := by omega
      have hbo := bor_shv (b := 8) (s := nth A k) (p := nth A p) (by decide) (by rw [hA1 p (by omega)]; exact hdx.get p)
      simp at hbo
      have hp2 := Lib.hid hp
      clear hA hA1 hA2 hZ hl hp
      go_wp2
      go_region
      go_wp2
      refine ⟨⟨p, A.set k (shv 8 (nth A k) (nth A p)), by have := hp2.out; omega, by simpa using Hl.out, ?_, ?_, by go_num, ?_, HA.out.set k _, HZ.out.other (by simp) _⟩, by have := hp2.out; simp [intOf]; omega⟩
      · intro j hj
        have := hp2.out
        rw [nth_set (by have := Hl.out; omega), if_neg (by omega)]
        exact HA1.out j (by omega)
      · intro j hj hj4
        have hpk := hp2.out
        rw [nth_set (by have := Hl.out; omega)]
        split
        · subst j
          rw [HA1.out k (by omega), HA1.out p (by omega), show k - 1 = p by omega]
        · exact HA2.out j (by omega) hj4
      · exact (hbel.setCell (by simp <;> omega) _).drew
    · obtain rfl : k = 0 := by omega
      have h1 := hA.cell (k := 0) (by omega)
      have h3 := hA.free 0
      have hd : decide ((0 : Int) < ((0 : Nat) : Int)) = false := by simp
      have hbo := bor_low (b := 8) (s := nth A 0) (x := x) (by decide) hx
      have hA3 := Lib.hid (HA.out.set 0 (nth A 0 * 2 ^ 8 % B + x))
      have hZ3 := Lib.hid (HZ.out.other (a := ⟨w.heap.size, 0, none⟩) (by simp) (.int .u64 ((nth A 0 * 2 ^ 8 % B + x : Nat) : Int)))
      have hb3 := Lib.hid (hbel.setCell (show w.heap.size ≤ (⟨w.heap.size, 0, none⟩ : Addr).block from Nat.le_refl _) (.int .u64 ((nth A 0 * 2 ^ 8 % B + x : Nat) : Int)))
      have hfin := Lib.hid (show A.set 0 (nth A 0 * 2 ^ 8 % B + x) = shvs 8 X x by
        have g0 := hA1 0 (by omega); have g1 := hA2 1 (by omega) (by omega); have g2 := hA2 2 (by omega) (by omega); have g3 := hA2 3 (by omega) (by omega)
        rw [shvs, ← g1, ← g2, ← g3, ← g0]
        conv => lhs; rw [list4 hl]
        rfl)
      have hls : (A.set 0 (nth A 0 * 2 ^ 8 % B + x)).length = 4 := by simpa using hl
      clear hA hA1 hA2 hZ hl
      generalize hN : nth A 0 * 2 ^ 8 % B + x = N at *
      simp at hbo
      go_wp2_with (first | (refine load4 rfl _ rfl _ rfl 24 (A.set 0 N) hA3.out hls ?_) | (refine store4 rfl _ _ rfl (w.heap.size + 1) rfl (A.set 0 N) rfl 24 _ hZ3.out hls rfl ?_; intro w1 hw1 ho1))
      rw [hfin.out] at hw1
      exact bodyPost_ret (res4 rfl rfl hw1 rfl) rfl ⟨rfl, ho1.below hb3.out (by omega)⟩

end Go.Proofs.Ytbklepgbieohiaa
