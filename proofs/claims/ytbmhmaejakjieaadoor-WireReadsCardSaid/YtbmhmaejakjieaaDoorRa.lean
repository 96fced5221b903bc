/- The walk of wire.ReadInt. -/
import Derived.Test.YtbmhmaejakjieaaDoorNa
namespace Go.Proofs.YtbmhmaejakjieaaDoor
open Go.RowKit

/-- A word as a number with its sign. -/
def sI (u : Nat) : Int := IntKind.i64.wrap (u : Int)

theorem or_step {u x : Nat} (hx : x < 256) : bits BinOp.or IntKind.i64 (IntKind.i64.wrap (sI u * 256)) ((x : Nat) : Int) = sI (step8 u x) := by
  have h1 : (BitVec.ofInt 64 (IntKind.i64.wrap (sI u * 256))).toNat = u * 256 % 18446744073709551616 := by
    rw [BitVec.toNat_ofInt]
    unfold sI
    rw [IntKind.wrap_i64, IntKind.wrap_i64]
    omega
  have h2 : (BitVec.ofInt 64 ((x : Nat) : Int)).toNat = x := by
    rw [BitVec.ofInt_natCast, BitVec.toNat_ofNat]; exact Nat.mod_eq_of_lt (by omega)
  show IntKind.i64.wrap ((BitVec.ofInt 64 (IntKind.i64.wrap (sI u * 256)) ||| BitVec.ofInt 64 ((x : Nat) : Int)).toNat : Int) = _
  rw [BitVec.toNat_or, h1, h2]
  have h3 : u * 256 % 18446744073709551616 = 2 ^ 8 * (u * 256 % 18446744073709551616 / 256) := by omega
  have h4 : u * 256 % 18446744073709551616 ||| x = u * 256 % 18446744073709551616 + x := by
    rw [h3, ← Nat.two_pow_add_eq_or_of_lt (by omega)]
  rw [h4]
  unfold sI step8
  congr 1
  omega

/-- The number of the first k bytes. -/
def acc8 (L : List Nat) (k : Nat) : Nat := read8 (L.take k)

theorem acc8_succ {L : List Nat} {k : Nat} (h : k < L.length) : acc8 L (k + 1) = step8 (acc8 L k) (nth L k) := by
  unfold acc8 read8
  rw [List.take_succ_eq_append_getElem h, List.foldl_append, nth_lt h]
  rfl

theorem readInt_any (L : List Nat) (hl : L.length = 8) (hL : Byt L) (b off c : Nat) (w : World) (hs : SegB w b off L) :
    Calls Tryd.prog 20 #[.slice (some ⟨b, off, none⟩) 8 c] w fun e w' => e = .returned (.tuple #[.int .i64 (sI (read8 L)), .int .i64 0]) ∧ w = w' := by
  have HS := Lib.hid hs; have Hl := Lib.hid hl; have HL := Lib.hid hL
  clear hs hl hL
  go_enter Tryd.func20, Tryd.ntmps20
  go_wp2
  go_loop [4, 6, 12] (fun a _ i => ∃ k : Nat, k ≤ 8 ∧ a = .int .i64 (sI (acc8 L k)) ∧ i = .int .i64 k) (fun _ _ i => 8 - (intOf i).toNat)
  case atStart => exact ⟨0, by omega, rfl, rfl⟩
  case round =>
    obtain ⟨k, hk, rfl, rfl⟩ := hrel
    by_cases hlt : k < 8
    · have hd : decide ((k : Int) < 8) = true := by simp; omega
      have hk8 : (k : Int) < 8 := by omega
      have hc := HS.out k (by rw [Hl.out]; exact hlt)
      have hx : nth L k < 256 := by rw [nth_lt (by rw [Hl.out]; exact hlt)]; exact HL.out _ (List.getElem_mem _)
      have ho := or_step (u := acc8 L k) hx
      rw [show IntKind.i64.wrap (sI (acc8 L k) * 256) = wrap64 (sI (acc8 L k) * 256) from IntWalk.i64_left _] at ho
      have Hst := Lib.hid (acc8_succ (L := L) (k := k) (by rw [Hl.out]; exact hlt))
      generalize acc8 L k = u at *
      go_wp2
      refine ⟨⟨k + 1, by omega, ?_, by go_num⟩, by simp [intOf]; omega⟩
      rw [Hst.out]
    · obtain rfl : k = 8 := by omega
      go_wp2
      refine bodyPost_ret (results_tmp2 rfl _ _ _) rfl ⟨?_, rfl⟩
      have e : acc8 L 8 = read8 L := by unfold acc8; rw [List.take_of_length_le (by rw [Hl.out]; omega)]
      rw [e]
      rfl
end Go.Proofs.YtbmhmaejakjieaaDoor
