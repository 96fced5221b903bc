/- The walk of wire.cut where it fails. -/
import Derived.Test.YtbmhmaejakjieaaDoorCa
import Derived.Test.YtbmhmaejakjieaaDoorYa
import Derived.BigRegion
namespace Go.Proofs.YtbmhmaejakjieaaDoor
open Go.RowKit

theorem or_len {x y : Nat} (hx : x < 256) (hy : y < 256) : bits BinOp.or IntKind.i64 (((x : Nat) : Int) * 256) ((y : Nat) : Int) = ((x * 256 + y : Nat) : Int) := by
  have h := (bits_nat .i64 63 (by decide) (fun n h0 h1 => by rw [IntKind.wrap_i64]; omega) (x * 256) y (by omega) (by omega)).2
  have e : x * 256 ||| y = x * 256 + y := by
    rw [Nat.mul_comm, show 256 * x = 2 ^ 8 * x from rfl, ← Nat.two_pow_add_eq_or_of_lt (by omega)]
  rw [e] at h
  exact h

set_option maxHeartbeats 400000 in
theorem cut_short (n c : Nat) (at_ : Int) (hn : n < 2) (w : World) (a : Option Addr) :
    Calls Tryd.prog 34 #[.slice a n c, .int .i64 at_] w fun e w' => ∃ v, e = .returned (.tuple #[.slice none 0 0, .slice none 0 0, v]) ∧ Below w.heap.size w w' ∧ FaultV w' w.heap.size v 80 := by
  have hd : decide ((n : Int) < 2) = true := by simp; omega
  go_enter Tryd.func34, Tryd.ntmps34
  go_wp2
  refine bodyPost_ret (results_tmp3 rfl _ _ _) rfl ⟨_, rfl, (Below.refl _ _).alloc (Nat.le_refl _) _, _, _, rfl, Nat.le_refl _, Has.new _ _ _⟩

set_option maxHeartbeats 1000000 in
set_option maxRecDepth 100000 in
theorem cut_fail (b off n c x y : Nat) (at_ : Int) (hn : 2 ≤ n) (hx : x < 256) (hy : y < 256) (hr : n - 2 < x * 256 + y) (w : World)
    (c0 : w.cell? ⟨b, off, none⟩ = some (.int .u8 ((x : Nat) : Int))) (c1 : w.cell? ⟨b, off + 1, none⟩ = some (.int .u8 ((y : Nat) : Int))) :
    Calls Tryd.prog 34 #[.slice (some ⟨b, off, none⟩) n c, .int .i64 at_] w fun e w' => ∃ v, e = .returned (.tuple #[.slice none 0 0, .slice none 0 0, v]) ∧ Below w.heap.size w w' ∧ FaultV w' w.heap.size v 80 := by
  have hd : decide ((n : Int) < 2) = false := by simp; omega
  have ho := or_len hx hy
  have hxi : (x : Int) < 256 := by omega
  have hn0 : (0 : Int) < (n : Int) := by omega
  have hn1 : (1 : Int) < (n : Int) := by omega
  have hn2 : (2 : Int) ≤ (n : Int) := by omega
  have hm : (n : Int) - 2 = ((n - 2 : Nat) : Int) := by omega
  have hd2 : decide (n - 2 < x * 256 + y) = true := by simp [hr]
  have Hr := Lib.hid hr
  clear hr
  generalize x * 256 + y = m at *
  go_enter Tryd.func34, Tryd.ntmps34
  go_wp2
  go_region
  go_wp2
  all_goals exact bodyPost_ret (results_tmp3 rfl _ _ _) rfl ⟨_, rfl, (Below.refl _ _).drew.alloc (Nat.le_refl _) _, _, _, rfl, Nat.le_refl _, Has.new _ _ _⟩
end Go.Proofs.YtbmhmaejakjieaaDoor
