/- The walk of wire.Int. -/
import Derived.Test.YtbmhmaejakjieaaDoorTa
import Derived.Test.YtbmhmaejakjieaaDoorPa
namespace Go.Proofs.YtbmhmaejakjieaaDoor
open Go.RowKit

/-- Byte i of a number, the highest first. -/
def byteI (n : Int) (i : Nat) : Nat := (n / 2 ^ (56 - 8 * i) % 256).toNat

theorem int_any (n : Int) (w : World) :
    Calls Tryd.prog 21 #[.int .i64 n] w fun e w' => ∃ A, e = .returned (.slice (some ⟨w.heap.size, 0, none⟩) 8 8) ∧ Below w.heap.size w w' ∧ Has w' w.heap.size 39 (u8s A) ∧ A.length = 8 ∧ ∀ q, q < 8 → nth A q = byteI n q := by
  go_enter Tryd.func21, Tryd.ntmps21
  go_wp2
  go_loopw [4, 5] (fun _ i wr => ∃ (k : Nat) (A : List Nat), k ≤ 8 ∧ A.length = 8 ∧ (∀ q, q < k → nth A q = byteI n q) ∧ i = .int .i64 k ∧ Below w.heap.size w wr ∧ Has wr w.heap.size 39 (u8s A)) (fun _ i _ => 8 - (intOf i).toNat)
  case atStart => exact ⟨0, [0, 0, 0, 0, 0, 0, 0, 0], by omega, rfl, fun q hq => by omega, rfl, (Below.refl _ _).alloc (Nat.le_refl _) _, Has.new _ _ _⟩
  case round =>
    obtain ⟨k, A, hk, hl, hA, rfl, hbel, hO⟩ := hrel
    have HA := Lib.hid hA; have HO := Lib.hid hO; have Hb := Lib.hid hbel; have Hl := Lib.hid hl
    clear hA hO hbel hl
    by_cases hlt : k < 8
    · have hd : decide ((k : Int) < 8) = true := by simp; omega
      have hk8 : (k : Int) < 8 := by omega
      have hfr := HO.out.free k
      have hc := HO.out.cellB (k := k) (by rw [Hl.out]; exact hlt)
      have hv : n / 2 ^ (56 - 8 * k) % 256 = ((byteI n k : Nat) : Int) := by unfold byteI; omega
      have hs := HO.out.setB k (byteI n k)
      have Hs := Lib.hid hs
      have Hv := Lib.hid hv
      clear hs hv
      go_wp2
      rw [Hv.out]
      refine ⟨⟨k + 1, A.set k (byteI n k), by omega, by simp [Hl.out], fun q hq => ?_, by go_num, Hb.out.setCell (Nat.le_refl _) _, Hs.out⟩, by simp [intOf]; omega⟩
      by_cases e : q = k
      · subst e
        simp [nth, List.getD_eq_getElem?_getD, Hl.out, hlt]
      · rw [show nth (A.set k (byteI n k)) q = nth A q by simp [nth, Ne.symm e]]
        exact HA.out q (by omega)
    · obtain rfl : k = 8 := by omega
      go_wp2
      exact bodyPost_ret (results_tmp rfl _ _ _) rfl ⟨A, rfl, Hb.out, HO.out, Hl.out, HA.out⟩

/-- The number as one of 64 bits without a sign. -/
def uI (n : Int) : Nat := (n % 18446744073709551616).toNat

theorem be8_of {n : Int} {A : List Nat} (hl : A.length = 8) (h : ∀ q, q < 8 → nth A q = byteI n q) : A = be8 (uI n) := by
  match A, hl with
  | [a, b, c, d, e, f, g, i], _ =>
    have h0 : a = byteI n 0 := h 0 (by omega)
    have h1 : b = byteI n 1 := h 1 (by omega)
    have h2 : c = byteI n 2 := h 2 (by omega)
    have h3 : d = byteI n 3 := h 3 (by omega)
    have h4 : e = byteI n 4 := h 4 (by omega)
    have h5 : f = byteI n 5 := h 5 (by omega)
    have h6 : g = byteI n 6 := h 6 (by omega)
    have h7 : i = byteI n 7 := h 7 (by omega)
    subst h0 h1 h2 h3 h4 h5 h6 h7
    simp only [be8, uI, byteI, List.cons.injEq, and_true]
    simp only [Nat.mul_zero, Nat.sub_zero, Nat.mul_one, Nat.reduceMul, Nat.reduceSub, Int.reducePow, Int.pow_zero]
    omega

/-- The bytes of a number. -/
theorem int_bytes (n : Int) (w : World) :
    Calls Tryd.prog 21 #[.int .i64 n] w fun e w' => e = .returned (.slice (some ⟨w.heap.size, 0, none⟩) 8 8) ∧ Below w.heap.size w w' ∧ Has w' w.heap.size 39 (u8s (be8 (uI n))) :=
  (int_any n w).mono fun e w' ⟨A, h1, h2, h3, h4, h5⟩ => ⟨h1, h2, by rw [← be8_of h4 h5]; exact h3⟩
end Go.Proofs.YtbmhmaejakjieaaDoor
