/- The walk of the reference's Bytes. -/
import Derived.Test.YtbklepgbieohiaaP
namespace Go.Proofs.Ytbklepgbieohiaa
open Go.RowKit

/-- What is left behind t bytes. -/
def shr8 (x t : Nat) : Nat := x / 2 ^ (8 * t)
theorem shr8_lt {x : Nat} (h : x < B) (t : Nat) : shr8 x t < B := Nat.lt_of_le_of_lt (Nat.div_le_self _ _) h
theorem shr8_succ (x t : Nat) : ud (shr8 x t) 256 = shr8 x (t + 1) := by
  unfold ud shr8
  rw [Nat.div_div_eq_div_mul, show (256 : Nat) = 2 ^ 8 from rfl, ← Nat.pow_add, Nat.mul_add, Nat.mul_one]

set_option maxHeartbeats 400000 in
set_option maxRecDepth 100000 in
theorem rbytes_core (X : List Nat) (hlx : X.length = 4) (hdx : Dig X) (w : World) :
    Calls Try.prog 16 #[.agg (u64s X)] w (NewBytes w (bytesOf X 32)) := by
  have hmk : ∀ w, (Instr.makeSlice 28 (.int .i64 32) (.int .i64 32)).run Try.prog w = .ok (.slice (some ⟨w.heap.size, 0, none⟩) 32 32) (w.alloc (.cells (u8s (List.replicate 32 0)) 5)) := fun _ => by kernel_rfl
  go_enter Try.func16, Try.ntmps16
  go_wp2
  go_loopw [4] (fun i wr => ∃ (k : Nat) (A : List Nat), k ≤ 4 ∧ A.length = 32 ∧ (∀ q, q < 8 * k → nth A (31 - q) = byteOf X (31 - q)) ∧ i = .int .i64 k ∧ Below w.heap.size w wr ∧ Has wr w.heap.size 24 (u64s X) ∧ Has wr (w.heap.size + 1) 5 (u8s A)) (fun i _ => 4 - (intOf i).toNat)
  case atStart =>
    exact ⟨0, List.replicate 32 0, by omega, by simp, fun q hq => by omega, rfl, ((Below.refl _ _).alloc (Nat.le_refl _) _).alloc (by simp) _, (Has.new _ _ _).alloc _, Has.newAt _ _ (by simp)⟩
  case round =>
    obtain ⟨k, A, hk, hl, hA, rfl, hbel, hX, hO⟩ := hrel
    by_cases hlt : k < 4
    · have h1 := hX.cell (k := k) (by omega)
      have hd4 : decide ((k : Int) < 4) = true := by simp; omega
      have HX := Lib.hid hX
      have HO := Lib.hid hO
      have HA := Lib.hid hA
      have Hl := Lib.hid hl
      have hxB := Lib.hid (hdx.get k)
      clear hX hO hA hl
      go_wp2
      clear h1
      go_loopw [5, 6] (fun x i wr => ∃ (t : Nat) (A : List Nat), t ≤ 8 ∧ A.length = 32 ∧ (∀ q, q < 8 * k + t → nth A (31 - q) = byteOf X (31 - q)) ∧ i = .int .i64 t ∧ x = .int .u64 ((shr8 (nth X k) t : Nat) : Int) ∧ Below w.heap.size w wr ∧ Has wr w.heap.size 24 (u64s X) ∧ Has wr (w.heap.size + 1) 5 (u8s A)) (fun _ i _ => 8 - (intOf i).toNat)
      case atStart => exact ⟨0, A, by omega, Hl.out, HA.out, rfl, by simp [shr8], hbel, HX.out, HO.out⟩
      case round =>
        obtain ⟨t, A2, ht, hl2, hA2, rfl, rfl, hbel2, hX2, hO2⟩ := hrel
        have HX2 := Lib.hid hX2
        have HA2 := Lib.hid hA2
        have Hl2 := Lib.hid hl2
        by_cases hlt2 : t < 8
        · obtain ⟨p, hp⟩ : ∃ p, 8 * k + t + p = 31 := ⟨31 - (8 * k + t), by omega⟩
          have h2 := hO2.cellB (k := p) (by omega)
          have h3 := hO2.free p
          have HO2 := Lib.hid hO2
          have e1 : (31 : Int) - 8 * (k : Int) - (t : Int) = (p : Int) := by omega
          have e2 : ((shr8 (nth X k) t : Nat) : Int).tmod 256 = ((byt (nth X k) t : Nat) : Int) := tmod_um _ 256
          have e3 : IntKind.u64.wrap (((shr8 (nth X k) t : Nat) : Int) / 256) = ((shr8 (nth X k) (t + 1) : Nat) : Int) := by rw [← shr8_succ]; exact wrap_ud _ 256 (shr8_lt hxB.out t)
          have e4 : ((byt (nth X k) t : Nat) : Int) % 256 = ((byt (nth X k) t : Nat) : Int) := by unfold byt; omega
          have hp2 := Lib.hid hp
          have hi1 : (p : Int) < 32 := by omega
          clear hO2 hX2 hA2 hl2 hp
          go_wp2_with fail
          refine ⟨⟨t + 1, A2.set p (byt (nth X k) t), by omega, by simpa using Hl2.out, ?_, by go_num, rfl, hbel2.setCell (by simp) _, HX2.out.other (by simp) _, HO2.out.setB p _⟩, by simp [intOf] <;> omega⟩
          intro q hq
          rw [nth_set (by have := Hl2.out; have := hp2.out; omega)]
          have hp3 := hp2.out
          split
          · unfold byteOf
            rw [show 3 - (31 - q) / 8 = k by omega, show 7 - (31 - q) % 8 = t by omega]
          · exact HA2.out q (by omega)
        · obtain rfl : t = 8 := by omega
          have HO2 := Lib.hid hO2
          clear hO2 hX2 hA2 hl2
          go_wp2
          exact ⟨⟨k + 1, A2, by omega, Hl2.out, HA2.out, by go_num, hbel2, HX2.out, HO2.out⟩, by simp [intOf] <;> omega⟩
    · obtain rfl : k = 4 := by omega
      have HO := Lib.hid hO
      have hfin := Lib.hid (list_of_nth (f := byteOf X) hl (fun j hj => by have := hA (31 - j) (by omega); rwa [show 31 - (31 - j) = j by omega] at this))
      clear hO hA hX hl
      go_wp2
      go_ret
      refine ⟨_, rfl, ?_, hbel⟩
      have h1 := HO.out
      rw [hfin.out] at h1
      have h3 : (u8s ((List.range 32).map (byteOf X))).size = 32 := by rw [u8s_size]; simp
      refine ⟨by simp [bytesOf], Or.inr ⟨w.heap.size + 1, 32, _, by simp [bytesOf], by omega, h1, by simp [bytesOf], by decide, by rw [h3], ?_⟩⟩
      rw [List.take_of_length_le (by rw [Array.length_toList, h3, bytesOf_length]; omega)]
      simp [u8s, bytesOf]
end Go.Proofs.Ytbklepgbieohiaa
