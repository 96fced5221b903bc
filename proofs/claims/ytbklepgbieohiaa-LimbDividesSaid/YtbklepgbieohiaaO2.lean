/- The walk of ref.Divide, the divisor nought. -/
import Derived.Test.YtbklepgbieohiaaO1
import Derived.Deep.Cut
namespace Go.Proofs.Ytbklepgbieohiaa
open Go.RowKit

/-- The world behind ref.Divide's first line. -/
def rdv0 (X Y : List Nat) (w : World) : World :=
  (((w.alloc (.cells (u64s X) 37)).alloc (.cells (u64s Y) 24)).alloc (.cells (u64s [0, 0, 0, 0, 0, 0, 0, 0]) 37)).alloc (.cells (u64s [0, 0, 0, 0]) 24)

theorem rdv0_eq (X Y : List Nat) (w : World) : (((w.alloc (.cells (u64s X) 37)).alloc (.cells (u64s Y) 24)).alloc (.cells #[.int .u64 0, .int .u64 0, .int .u64 0, .int .u64 0, .int .u64 0, .int .u64 0, .int .u64 0, .int .u64 0] 37)).alloc (.cells #[.int .u64 0, .int .u64 0, .int .u64 0, .int .u64 0] 24) = rdv0 X Y w := rfl

structure RDv0 (X Y : List Nat) (w u : World) : Prop where
  size : u.heap.size = w.heap.size + 4
  below : Below w.heap.size w u
  x : Has u w.heap.size 37 (u64s X)
  y : Has u (w.heap.size + 1) 24 (u64s Y)
  q0 : Has u (w.heap.size + 1 + 1) 37 (u64s [0, 0, 0, 0, 0, 0, 0, 0])
  r0 : Has u (w.heap.size + 1 + 1 + 1) 24 (u64s [0, 0, 0, 0])

theorem rdv0_has (X Y : List Nat) (w : World) : RDv0 X Y w (rdv0 X Y w) := by
  unfold rdv0
  refine ⟨by simp, ?_, ?_, ?_, ?_, ?_⟩
  · exact (((((Below.refl _ _).alloc (Nat.le_refl _) _).alloc (by simp) _).alloc (by simp; omega) _).alloc (by simp; omega) _)
  · exact ((((Has.new w (u64s X) 37).alloc _).alloc _).alloc _)
  · exact (((Has.newAt (u64s Y) 24 (by simp)).alloc _).alloc _)
  · exact ((Has.newAt _ 37 (by simp)).alloc _)
  · exact Has.newAt _ 24 (by simp)

theorem eql_zero (Y : List Nat) (hl : Y.length = 4) (w : World) :
    (binOp .eql 24 (.agg (u64s Y)) (.agg #[.int .u64 0, .int .u64 0, .int .u64 0, .int .u64 0])).run Try.prog w = .ok (.bool (Y == [0, 0, 0, 0])) w := eql4 Y [0, 0, 0, 0] hl rfl w

set_option maxHeartbeats 1000000 in
set_option maxRecDepth 100000 in
theorem rdiv_zero (X : List Nat) (w : World) :
    Calls Try.prog 35 #[.agg (u64s X), .agg (u64s [0, 0, 0, 0])] w fun e w' => e = .returned (.tuple #[A8 0, A4 0, .int .i64 10]) ∧ Below w.heap.size w w' := by
  have H := Lib.hid (rdv0_has X [0, 0, 0, 0] w)
  have heq := eql_zero [0, 0, 0, 0] rfl
  go_enter Try.func35, Try.ntmps35
  go_upto_region 1 with fail
  rw [rdv0_eq]
  generalize rdv0 X [0, 0, 0, 0] w = W at *
  go_wp2_with (first | (refine load4w rfl _ rfl _ rfl 24 [0, 0, 0, 0] H.out.y rfl ?_) | (refine store8 rfl _ _ rfl (w.heap.size + 1 + 1) rfl [0, 0, 0, 0, 0, 0, 0, 0] rfl 37 _ H.out.q0 rfl rfl ?_; intro w1 hw1 ho1) | (refine store4 rfl _ _ rfl (w.heap.size + 1 + 1 + 1) rfl [0, 0, 0, 0] rfl 24 _ (H.out.r0.only ho1 (by simp)) rfl rfl ?_; intro w2 hw2 ho2))
  exact bodyPost_ret (res84t rfl rfl rfl (hw1.only ho2 (by simp)) rfl hw2 rfl) rfl ⟨by rw [A4_zero]; rfl, ho2.below (ho1.below H.out.below (by omega)) (by omega)⟩
end Go.Proofs.Ytbklepgbieohiaa
