/- The walks of Bytes. -/
import Derived.Test.YtbklepgbieohiaaN
import Derived.Test.YtbklepgbieohiaaB
namespace Go.Proofs.Ytbklepgbieohiaa
open Go.RowKit

/-- The byte j of digits, the highest first. -/
def byt (x r : Nat) : Nat := x / 2 ^ (8 * r) % 256
def byteOf (X : List Nat) (j : Nat) : Nat := byt (nth X (3 - j / 8)) (7 - j % 8)
def bytesOf (X : List Nat) (n : Nat) : List Nat := (List.range n).map (byteOf X)

theorem bytesOf_succ (X : List Nat) (n : Nat) : bytesOf X (n + 1) = bytesOf X n ++ [byteOf X n] := by
  unfold bytesOf; rw [List.range_succ, List.map_append]; rfl
theorem bytesOf_length (X : List Nat) (n : Nat) : (bytesOf X n).length = n := by simp [bytesOf]

/-- A slice of bytes of one's own. -/
def NewBytes (w : World) (L : List Nat) (e : Ending) (w' : World) : Prop := ∃ v, e = .returned v ∧ OwnB w' w.heap.size v L ∧ Below w.heap.size w w'

set_option maxHeartbeats 400000 in
set_option maxRecDepth 100000 in
theorem bytes_core (X : List Nat) (hlx : X.length = 4) (hdx : Dig X) (w : World) :
    Calls Try.prog 15 #[.agg (u64s X)] w (NewBytes w (bytesOf X 32)) := by
  go_enter Try.func15, Try.ntmps15
  go_wp2
  go_loopw [3, 7] (fun v i wr => ∃ k : Nat, k ≤ 4 ∧ i = .int .i64 k ∧ OwnB wr (w.heap.size + 1) v (bytesOf X (8 * k)) ∧ Below w.heap.size w wr ∧ Has wr w.heap.size 24 (u64s X)) (fun _ i _ => 4 - (intOf i).toNat)
  case atStart =>
    exact ⟨0, by omega, rfl, OwnB.nil _ _, (Below.refl _ _).alloc (Nat.le_refl _) _, Has.new _ _ _⟩
  case round =>
    obtain ⟨k, hk, rfl, hO, hbel, hX⟩ := hrel
    by_cases hlt : k < 4
    · obtain ⟨m, hm⟩ : ∃ m, k + m = 3 := ⟨3 - k, by omega⟩
      have e1 : (3 : Int) - (k : Int) = (m : Int) := by omega
      have h1 := hX.cell (k := m) (by omega)
      have hi1 : (m : Int) < 4 := by omega
      have hm1 := Lib.hid hm
      have hd4 : decide ((k : Int) < 4) = true := by simp; omega
      have HX := Lib.hid hX
      have HO := Lib.hid hO
      have hxB := Lib.hid (hdx.get m)
      clear hX hO hm
      go_wp2
      clear h1 e1
      go_loopw [3, 6] (fun v i wr => ∃ (q : Int) (s t : Nat), q + 8 = 8 * (s : Int) ∧ s + t = 8 ∧ i = .int .i64 q ∧ OwnB wr (w.heap.size + 1) v (bytesOf X (8 * k + t)) ∧ Below w.heap.size w wr ∧ Has wr w.heap.size 24 (u64s X)) (fun _ i _ => (intOf i + 8).toNat)
      case atStart => exact ⟨56, 8, 0, by omega, by omega, rfl, HO.out, hbel, HX.out⟩
      case round =>
        obtain ⟨q, s, t, hq, hst, rfl, hO, hbel, hX⟩ := hrel
        have HO := Lib.hid hO; have HX := Lib.hid hX
        clear hO hX
        cases s with
        | zero =>
          obtain rfl : q = -8 := by omega
          obtain rfl : t = 8 := by omega
          clear hq hst
          go_wp2
          go_roundw
          case rel => exact ⟨k + 1, by omega, by go_num, HO.out, hbel, HX.out⟩
          case measure => simp [intOf] <;> omega
        | succ r =>
          obtain rfl : q = ((8 * r : Nat) : Int) := by omega
          have hr := Lib.hid hst
          have hr7 : r ≤ 7 := by omega
          clear hq hst
          have hy : ((nth X m : Nat) : Int) / 2 ^ (8 * r) % 256 = ((byt (nth X m) r : Nat) : Int) := by unfold byt; simp
          have hby := Lib.hid (show byteOf X (8 * k + t) = byt (nth X m) r by
            have h1 := hm1.out; have h2 := hr.out
            unfold byteOf
            rw [show 3 - (8 * k + t) / 8 = m by omega, show 7 - (8 * k + t) % 8 = r by omega])
          have hl := Lib.hid (bytesOf_length X (8 * k + t))
          go_wp2_with (refine app28 rfl _ _ rfl (w.heap.size + 1) _ _ rfl (HO.out.alloc _) wr.heap.size 0 1 1 [byt (nth X m) r] rfl rfl (seg_newB wr _ 5 rfl) (by rw [hl.out]; have := hr.out; simp; omega) (by have := HX.out.lt; simp; omega) ?_; intro v2 w2 ho2 hg2)
          go_roundw
          case rel =>
            refine ⟨8 * (r : Int) - 8, r, t + 1, by omega, by have := hr.out; omega, by simp, ?_, ?_, ?_⟩
            · rw [← Nat.add_assoc, bytesOf_succ, hby.out]; exact ho2
            · exact (hbel.alloc hbel.size _).grown hg2 (by have := hbel.size; simp; omega) (fun j hj => by have := (HO.out.lt j hj).1; omega)
            · exact (HX.out.alloc _).grown hg2 (HO.out.ne (by omega))
          case measure => simp [intOf] <;> omega
    · obtain rfl : k = 4 := by omega
      have HO := Lib.hid hO
      clear hO
      go_wp2
      go_ret
      refine ⟨_, rfl, ?_, hbel⟩
      have := HO.out
      exact ⟨this.1, this.2.imp id fun ⟨g, cap, cur, h1, h2, h3⟩ => ⟨g, cap, cur, h1, by omega, h3⟩⟩
end Go.Proofs.Ytbklepgbieohiaa
