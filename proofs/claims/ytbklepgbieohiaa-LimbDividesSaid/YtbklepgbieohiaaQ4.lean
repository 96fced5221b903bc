/- The walk of limb.Divide: the beginning, and the divisor nought. -/
import Derived.Test.YtbklepgbieohiaaQ3
import Derived.BigRegion
namespace Go.Proofs.Ytbklepgbieohiaa
open Go.RowKit

/-- The world behind Divide's first lines. -/
def div0 (X Y : List Nat) (w : World) : World :=
  (((((w.alloc (.cells (u64s X) 37)).alloc (.cells (u64s Y) 24)).alloc (.cells (u64s [0, 0, 0, 0, 0, 0, 0, 0]) 37)).alloc (.cells (u64s [0, 0, 0, 0]) 24)).alloc (.cells (u64s [0, 0, 0, 0, 0, 0, 0, 0]) 37)).alloc (.cells (u64s [0, 0, 0, 0]) 24)

structure Div0 (X Y : List Nat) (w u : World) : Prop where
  size : u.heap.size = w.heap.size + 6
  below : Below w.heap.size w u
  x : Has u w.heap.size 37 (u64s X)
  y : Has u (w.heap.size + 1) 24 (u64s Y)
  q0 : Has u (w.heap.size + 1 + 1) 37 (u64s [0, 0, 0, 0, 0, 0, 0, 0])
  r0 : Has u (w.heap.size + 1 + 1 + 1) 24 (u64s [0, 0, 0, 0])
  q : Has u (w.heap.size + 1 + 1 + 1 + 1) 37 (u64s [0, 0, 0, 0, 0, 0, 0, 0])
  r : Has u (w.heap.size + 1 + 1 + 1 + 1 + 1) 24 (u64s [0, 0, 0, 0])

theorem div0_has (X Y : List Nat) (w : World) : Div0 X Y w (div0 X Y w) := by
  unfold div0
  refine ⟨by simp, ?_, ?_, ?_, ?_, ?_, ?_, ?_⟩
  · exact (((((((Below.refl _ _).alloc (Nat.le_refl _) _).alloc (by simp) _).alloc (by simp; omega) _).alloc (by simp; omega) _).alloc (by simp; omega) _).alloc (by simp; omega) _)
  · exact ((((((Has.new w (u64s X) 37).alloc _).alloc _).alloc _).alloc _).alloc _)
  · exact (((((Has.newAt (u64s Y) 24 (by simp)).alloc _).alloc _).alloc _).alloc _)
  · exact ((((Has.newAt _ 37 (by simp)).alloc _).alloc _).alloc _)
  · exact (((Has.newAt _ 24 (by simp)).alloc _).alloc _)
  · exact ((Has.newAt _ 37 (by simp)).alloc _)
  · exact Has.newAt _ 24 (by simp)

theorem A8_zero' : (Value.agg (u64s [0, 0, 0, 0, 0, 0, 0, 0])) = A8 0 := rfl
theorem A4_zero' : (Value.agg (u64s [0, 0, 0, 0])) = A4 0 := rfl

set_option maxHeartbeats 1000000 in
set_option maxRecDepth 100000 in
theorem div_zero (X Y : List Nat) (hly : Y.length = 4) (hn : sz Y 4 = 0) (w : World) :
    Calls Try.prog 34 #[.agg (u64s X), .agg (u64s Y)] w fun e w' => e = .returned (.tuple #[A8 0, A4 0, .int .i64 10]) ∧ Below w.heap.size w w' := by
  have H := Lib.hid (div0_has X Y w)
  have Hn := Lib.hid hn
  clear hn
  go_enter Try.func34, Try.ntmps34
  go_wp2_with fail
  refine (size_any Y _ _ _ _ hly (by omega) (by omega) (div0 X Y w) H.out.y.seg).mono ?_
  rintro e w1 ⟨rfl, rfl⟩
  rw [Hn.out]
  go_wp2
  generalize div0 X Y w = W at *
  generalize hN : w.heap.size = N at *
  have HQ := H.out.q.drew; have HR := H.out.r.drew
  rw [hN] at HQ HR
  refine wp_region_ord (fun u => Has u (N + 1 + 1 + 1 + 1) 37 (u64s [0, 0, 0, 0, 0, 0, 0, 0]) ∧ Has u (N + 1 + 1 + 1 + 1 + 1) 24 (u64s [0, 0, 0, 0])) [(true, 0), (true, 1), (false, 2), (false, 3), (true, 4)] (by kernel_rfl) (by kernel_rfl) rfl (by kernel_rfl) ?_
  refine O_read rfl ⟨HQ, HR⟩ (fun K' hK => ?_)
  refine R_load8s rfl _ rfl _ rfl 37 _ (fun _ h => h.1) rfl ?_
  go_simp
  refine hK _ ?_
  clear hK K'
  refine O_read rfl ⟨HQ, HR⟩ (fun K' hK => ?_)
  refine R_load4s rfl _ rfl _ rfl 24 _ (fun _ h => h.2) rfl ?_
  go_simp
  refine hK _ ?_
  clear hK K'
  refine O_call rfl (fun K' hK => ?_)
  refine R_store8 rfl _ _ rfl (N + 1 + 1) rfl _ rfl 37 _ (by have := H.out.q0.drew; rw [hN] at this; exact this) rfl rfl ?_
  intro w1 hw1 ho1
  go_simp
  have HQ1 := HQ.only ho1 (by omega); have HR1 := HR.only ho1 (by omega)
  refine hK _ _ ⟨HQ1, HR1⟩ ?_
  clear hK K'
  refine O_call rfl (fun K' hK => ?_)
  refine R_store4 rfl _ _ rfl (N + 1 + 1 + 1) rfl _ rfl 24 _ (by have := H.out.r0.drew.only ho1 (by omega); rw [hN] at this; exact this) rfl rfl ?_
  intro w2 hw2 ho2
  go_simp
  have HQ2 := HQ1.only ho2 (by omega); have HR2 := HR1.only ho2 (by omega)
  refine hK _ _ ⟨HQ2, HR2⟩ ?_
  clear hK K'
  refine O_read rfl ⟨HQ2, HR2⟩ (fun K' hK => ?_); refine R_pure ?_ rfl (fun w => ?_) ?_; rotate_left; (focus (first | (go_simp; rfl) | (go_simp; done))); go_simp; refine hK _ ?_; clear hK K'
  refine O_nil ?_
  go_wp2
  refine bodyPost_ret (res84t rfl rfl rfl (hw1.only ho2 (by omega)) rfl hw2 rfl) rfl ⟨by rw [A4_zero]; rfl, ?_⟩
  have hb := H.out.below
  exact ho2.below (ho1.below hb.drew (by omega)) (by omega)
end Go.Proofs.Ytbklepgbieohiaa
