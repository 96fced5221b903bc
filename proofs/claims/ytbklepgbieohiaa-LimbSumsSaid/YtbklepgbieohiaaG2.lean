/- The walk of LimbSums. -/
import Derived.Test.YtbklepgbieohiaaG1
import Derived.Test.YtbklepgbieohiaaJ
namespace Go.Proofs.Ytbklepgbieohiaa
open Go.RowKit

set_option maxHeartbeats 1000000 in
set_option maxRecDepth 100000 in
theorem sums_core (X Y R S Z : List Nat) (c d : Bool) (m : Int) (hlx : X.length = 4) (hly : Y.length = 4) (hlr : R.length = 4) (hls : S.length = 4) (hlz : Z.length = 8)
    (h21 : ∀ w, Calls Try.prog 21 #[.agg (u64s X), .agg (u64s Y)] w fun e w' => e = .returned (.tuple #[.agg (u64s R), .bool c]) ∧ Below w.heap.size w w')
    (h22 : ∀ w, Calls Try.prog 22 #[.agg (u64s X), .agg (u64s Y)] w fun e w' => e = .returned (.tuple #[.agg (u64s R), .bool c]) ∧ Below w.heap.size w w')
    (h23 : ∀ w, Calls Try.prog 23 #[.agg (u64s X), .agg (u64s Y)] w fun e w' => e = .returned (.tuple #[.agg (u64s S), .bool d]) ∧ Below w.heap.size w w')
    (h24 : ∀ w, Calls Try.prog 24 #[.agg (u64s X), .agg (u64s Y)] w fun e w' => e = .returned (.tuple #[.agg (u64s S), .bool d]) ∧ Below w.heap.size w w')
    (h25 : ∀ w, Calls Try.prog 25 #[.agg (u64s X), .agg (u64s Y)] w fun e w' => e = .returned (.int .i64 m) ∧ Below w.heap.size w w')
    (h26 : ∀ w, Calls Try.prog 26 #[.agg (u64s X), .agg (u64s Y)] w fun e w' => e = .returned (.int .i64 m) ∧ Below w.heap.size w w')
    (h27 : ∀ w, Calls Try.prog 27 #[.agg (u64s X)] w fun e w' => e = .returned (.agg (u64s Z)) ∧ Below w.heap.size w w')
    (h28 : ∀ w, Calls Try.prog 28 #[.agg (u64s X)] w fun e w' => e = .returned (.agg (u64s Z)) ∧ Below w.heap.size w w') (w : World) :
    Calls Try.prog 4 #[.agg (u64s X), .agg (u64s Y)] w fun e w' => e = .returned (.bool true) ∧ Below w.heap.size w w' := by
  have H21 := Lib.hid h21; have H22 := Lib.hid h22; have H23 := Lib.hid h23; have H24 := Lib.hid h24
  have H25 := Lib.hid h25; have H26 := Lib.hid h26; have H27 := Lib.hid h27; have H28 := Lib.hid h28
  clear h21 h22 h23 h24 h25 h26 h27 h28
  have hX := Lib.hid ((Has.new w (u64s X) 24).alloc (.cells (u64s Y) 24))
  have hY := Lib.hid (Has.newAt (w := w.alloc (.cells (u64s X) 24)) (u64s Y) 24 (n := w.heap.size + 1) (by simp))
  have b0 := Lib.hid (((Below.refl w.heap.size w).alloc (Nat.le_refl _) (.cells (u64s X) 24)).alloc (by simp) (.cells (u64s Y) 24))
  have n0 := Lib.hid (show w.heap.size ≤ ((w.alloc (.cells (u64s X) 24)).alloc (.cells (u64s Y) 24)).heap.size by simp; omega)
  go_enter Try.func4, Try.ntmps4
  go_wp2_with (first | (refine load4 rfl _ rfl _ rfl 24 X hX.out hlx ?_) | (refine load4 rfl _ rfl _ rfl 24 Y hY.out hly ?_))
  refine (H21.out _).mono ?_
  rintro e w1 ⟨rfl, hb1⟩
  have hX1 := Lib.hid ((hX.out.below hb1 hX.out.lt).alloc (.cells (u64s R) 24))
  have hY1 := Lib.hid ((hY.out.below hb1 hY.out.lt).alloc (.cells (u64s R) 24))
  have hA1 := Lib.hid (Has.new w1 (u64s R) 24)
  have b1 := Lib.hid ((bcall b0.out hb1 n0.out).alloc (Nat.le_trans n0.out hb1.size) (.cells (u64s R) 24))
  have n1 := Lib.hid (show w.heap.size ≤ (w1.alloc (.cells (u64s R) 24)).heap.size from Nat.le_trans (Nat.le_trans n0.out hb1.size) (by simp))
  clear hb1
  go_wp2_with (first | (refine store4new rfl _ _ rfl rfl R rfl hlr _ rfl ?_) | (refine load4 rfl _ rfl _ rfl 24 X hX1.out hlx ?_) | (refine load4 rfl _ rfl _ rfl 24 Y hY1.out hly ?_))
  refine (H22.out _).mono ?_
  rintro e w2 ⟨rfl, hb2⟩
  have hX2 := Lib.hid ((hX1.out.below hb2 hX1.out.lt).alloc (.cells (u64s R) 24))
  have hY2 := Lib.hid ((hY1.out.below hb2 hY1.out.lt).alloc (.cells (u64s R) 24))
  have hA2 := Lib.hid ((hA1.out.below hb2 hA1.out.lt).alloc (.cells (u64s R) 24))
  have hB2 := Lib.hid (Has.new w2 (u64s R) 24)
  have b2 := Lib.hid ((bcall b1.out hb2 n1.out).alloc (Nat.le_trans n1.out hb2.size) (.cells (u64s R) 24))
  have n2 := Lib.hid (show w.heap.size ≤ (w2.alloc (.cells (u64s R) 24)).heap.size from Nat.le_trans (Nat.le_trans n1.out hb2.size) (by simp))
  clear hb2
  go_wp2_with (first | (refine store4new rfl _ _ rfl rfl R rfl hlr _ rfl ?_) | (refine load4 rfl _ rfl _ rfl 24 X hX2.out hlx ?_) | (refine load4 rfl _ rfl _ rfl 24 Y hY2.out hly ?_))
  refine (H23.out _).mono ?_
  rintro e w3 ⟨rfl, hb3⟩
  have hX3 := Lib.hid ((hX2.out.below hb3 hX2.out.lt).alloc (.cells (u64s S) 24))
  have hY3 := Lib.hid ((hY2.out.below hb3 hY2.out.lt).alloc (.cells (u64s S) 24))
  have hA3 := Lib.hid ((hA2.out.below hb3 hA2.out.lt).alloc (.cells (u64s S) 24))
  have hB3 := Lib.hid ((hB2.out.below hb3 hB2.out.lt).alloc (.cells (u64s S) 24))
  have hC3 := Lib.hid (Has.new w3 (u64s S) 24)
  have b3 := Lib.hid ((bcall b2.out hb3 n2.out).alloc (Nat.le_trans n2.out hb3.size) (.cells (u64s S) 24))
  have n3 := Lib.hid (show w.heap.size ≤ (w3.alloc (.cells (u64s S) 24)).heap.size from Nat.le_trans (Nat.le_trans n2.out hb3.size) (by simp))
  clear hb3
  go_wp2_with (first | (refine store4new rfl _ _ rfl rfl S rfl hls _ rfl ?_) | (refine load4 rfl _ rfl _ rfl 24 X hX3.out hlx ?_) | (refine load4 rfl _ rfl _ rfl 24 Y hY3.out hly ?_))
  refine (H24.out _).mono ?_
  rintro e w4 ⟨rfl, hb4⟩
  have hX4 := Lib.hid ((hX3.out.below hb4 hX3.out.lt).alloc (.cells (u64s S) 24))
  have hY4 := Lib.hid ((hY3.out.below hb4 hY3.out.lt).alloc (.cells (u64s S) 24))
  have hA4 := Lib.hid ((hA3.out.below hb4 hA3.out.lt).alloc (.cells (u64s S) 24))
  have hB4 := Lib.hid ((hB3.out.below hb4 hB3.out.lt).alloc (.cells (u64s S) 24))
  have hC4 := Lib.hid ((hC3.out.below hb4 hC3.out.lt).alloc (.cells (u64s S) 24))
  have hD4 := Lib.hid (Has.new w4 (u64s S) 24)
  have b4 := Lib.hid ((bcall b3.out hb4 n3.out).alloc (Nat.le_trans n3.out hb4.size) (.cells (u64s S) 24))
  have n4 := Lib.hid (show w.heap.size ≤ (w4.alloc (.cells (u64s S) 24)).heap.size from Nat.le_trans (Nat.le_trans n3.out hb4.size) (by simp))
  clear hb4
  go_wp2_with (first | (refine store4new rfl _ _ rfl rfl S rfl hls _ rfl ?_))
  generalize w4.alloc (.cells (u64s S) 24) = W at *
  refine wp_region_inv (Kp W) (by kernel_rfl) (by kernel_rfl) (by kernel_rfl) (Kp.start W) ?_
  have hq := eql4 R R hlr hlr
  have hqs := eql4 S S hls hls
  have hqz := eql8 Z Z hlz hlz
  repeat (first | (refine I_step (fun K' hK => ?_); refine I_load4 rfl _ rfl _ rfl 24 R hA4.out hlr ?_; go_simp; refine hK _ ?_; clear hK K') | (refine I_step (fun K' hK => ?_); refine I_load4 rfl _ rfl _ rfl 24 R hB4.out hlr ?_; go_simp; refine hK _ ?_; clear hK K') | (refine I_step (fun K' hK => ?_); refine I_load4 rfl _ rfl _ rfl 24 S hC4.out hls ?_; go_simp; refine hK _ ?_; clear hK K') | (refine I_step (fun K' hK => ?_); refine I_load4 rfl _ rfl _ rfl 24 S hD4.out hls ?_; go_simp; refine hK _ ?_; clear hK K') | (refine I_step (fun K' hK => ?_); refine I_load4 rfl _ rfl _ rfl 24 X hX4.out hlx ?_; go_simp; refine hK _ ?_; clear hK K') | (refine I_step (fun K' hK => ?_); refine I_load4 rfl _ rfl _ rfl 24 Y hY4.out hly ?_; go_simp; refine hK _ ?_; clear hK K') | (refine I_step (fun K' hK => ?_); refine I_calls _ 25 _ rfl (fun w => ?_) H25.out ?_; (focus (go_simp; done)); go_simp; refine hK _ ?_; clear hK K') | (refine I_step (fun K' hK => ?_); refine I_calls _ 26 _ rfl (fun w => ?_) H26.out ?_; (focus (go_simp; done)); go_simp; refine hK _ ?_; clear hK K') | (refine I_step (fun K' hK => ?_); refine I_calls _ 27 _ rfl (fun w => ?_) H27.out ?_; (focus (go_simp; done)); go_simp; refine hK _ ?_; clear hK K') | (refine I_step (fun K' hK => ?_); refine I_calls _ 28 _ rfl (fun w => ?_) H28.out ?_; (focus (go_simp; done)); go_simp; refine hK _ ?_; clear hK K') | (refine I_step (fun K' hK => ?_); refine I_calls _ 20 _ rfl (fun w => ?_) works_any ?_; (focus (go_simp; done)); go_simp; refine hK _ ?_; clear hK K') | (refine I_step (fun K' hK => ?_); refine I_pure ?_ rfl (fun w => ?_) ?_; rotate_left; (focus (first | (go_simp; rfl) | (go_simp; done))); go_simp; refine hK _ ?_; clear hK K'))
  refine I_nil ?_
  intro w' hw'
  go_wp2
  go_ret
  refine ⟨?_, bcall b4.out hw' n4.out⟩
  first | rfl | (go_simp; done) | kernel_rfl
end Go.Proofs.Ytbklepgbieohiaa
