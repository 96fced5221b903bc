/- The walk of LimbProducts. -/
import Derived.Test.YtbklepgbieohiaaG1
import Derived.Test.YtbklepgbieohiaaJ
import Derived.Test.YtbklepgbieohiaaD1
import Derived.Deep.Cut
namespace Go.Proofs.Ytbklepgbieohiaa
open Go.RowKit

set_option maxHeartbeats 1000000 in
set_option maxRecDepth 100000 in
theorem products_core (X Y V Q R M : List Nat) (ev : Int) (hlx : X.length = 4) (hly : Y.length = 4) (hlv : V.length = 8) (hlq : Q.length = 8) (hlr : R.length = 4) (hlm : M.length = 8)
    (h34 : ∀ w, Calls Try.prog 34 #[.agg (u64s V), .agg (u64s X)] w fun e w' => e = .returned (.tuple #[.agg (u64s Q), .agg (u64s R), .int .i64 ev]) ∧ Below w.heap.size w w')
    (h35 : ∀ w, Calls Try.prog 35 #[.agg (u64s V), .agg (u64s X)] w fun e w' => e = .returned (.tuple #[.agg (u64s Q), .agg (u64s R), .int .i64 ev]) ∧ Below w.heap.size w w')
    (h36 : ∀ w, Calls Try.prog 36 #[.agg (u64s X), .agg (u64s Y)] w fun e w' => e = .returned (.agg (u64s M)) ∧ Below w.heap.size w w')
    (h37 : ∀ w, Calls Try.prog 37 #[.agg (u64s X), .agg (u64s Y)] w fun e w' => e = .returned (.agg (u64s M)) ∧ Below w.heap.size w w') (w : World) :
    Calls Try.prog 7 #[.agg (u64s X), .agg (u64s Y), .agg (u64s V)] w fun e w' => e = .returned (.bool true) ∧ Below w.heap.size w w' := by
  have H34 := Lib.hid h34; have H35 := Lib.hid h35; have H36 := Lib.hid h36; have H37 := Lib.hid h37
  clear h34 h35 h36 h37
  have hX0 := Lib.hid (((Has.new w (u64s X) 24).alloc (.cells (u64s Y) 24)).alloc (.cells (u64s V) 37))
  have hY0 := Lib.hid ((Has.newAt (w := w.alloc (.cells (u64s X) 24)) (u64s Y) 24 (n := w.heap.size + 1) (by simp)).alloc (.cells (u64s V) 37))
  have hV0 := Lib.hid (Has.newAt (w := (w.alloc (.cells (u64s X) 24)).alloc (.cells (u64s Y) 24)) (u64s V) 37 (n := w.heap.size + 1 + 1) (by simp))
  have b0 := Lib.hid ((((Below.refl w.heap.size w).alloc (Nat.le_refl _) (.cells (u64s X) 24)).alloc (by simp) (.cells (u64s Y) 24)).alloc (by simp; omega) (.cells (u64s V) 37))
  have hs0 := Lib.hid (show (((w.alloc (.cells (u64s X) 24)).alloc (.cells (u64s Y) 24)).alloc (.cells (u64s V) 37)).heap.size = w.heap.size + 3 by simp)
  go_enter Try.func7, Try.ntmps7
  go_wp2_with (first | (refine load8 rfl _ rfl _ rfl 37 V hV0.out hlv ?_) | (refine load4 rfl _ rfl _ rfl 24 X hX0.out hlx ?_) | (go_at_call 34; fail))
  refine (H34.out _).mono ?_
  rintro e w1 ⟨rfl, hb1⟩
  have hz8 := Lib.hid ((Has.new w1 (u64s [0, 0, 0, 0, 0, 0, 0, 0]) 37).alloc (.cells (u64s [0, 0, 0, 0]) 24))
  have hz4 := Lib.hid (Has.newAt (w := w1.alloc (.cells (u64s [0, 0, 0, 0, 0, 0, 0, 0]) 37)) (u64s [0, 0, 0, 0]) 24 (n := w1.heap.size + 1) (by simp))
  have hgt1 := Lib.hid (show w.heap.size + 3 ≤ w1.heap.size from by have := hb1.size; have := hs0.out; omega)
  go_upto_region 2 with (first | (refine store8 rfl _ _ rfl w1.heap.size rfl Q rfl 37 _ hz8.out hlq rfl ?_; intro t1 ht1 ho1) | (refine store4 rfl _ _ rfl (w1.heap.size + 1) rfl R rfl 24 _ (hz4.out.only ho1 (by omega)) hlr rfl ?_; intro u1 hu1 hp1))
  have hX1 := Lib.hid (((((hX0.out.below hb1 hX0.out.lt).alloc (.cells (u64s [0, 0, 0, 0, 0, 0, 0, 0]) 37)).alloc (.cells (u64s [0, 0, 0, 0]) 24)).only ho1 (by have := hX0.out.lt; have := hb1.size; omega)).only hp1 (by have := hX0.out.lt; have := hb1.size; omega))
  have hY1 := Lib.hid (((((hY0.out.below hb1 hY0.out.lt).alloc (.cells (u64s [0, 0, 0, 0, 0, 0, 0, 0]) 37)).alloc (.cells (u64s [0, 0, 0, 0]) 24)).only ho1 (by have := hY0.out.lt; have := hb1.size; omega)).only hp1 (by have := hY0.out.lt; have := hb1.size; omega))
  have hV1 := Lib.hid (((((hV0.out.below hb1 hV0.out.lt).alloc (.cells (u64s [0, 0, 0, 0, 0, 0, 0, 0]) 37)).alloc (.cells (u64s [0, 0, 0, 0]) 24)).only ho1 (by have := hV0.out.lt; have := hb1.size; omega)).only hp1 (by have := hV0.out.lt; have := hb1.size; omega))
  have hQ1 := Lib.hid (ht1.only hp1 (by omega))
  have hR1 := Lib.hid hu1
  have b1 := Lib.hid (hp1.below (ho1.below (((bcall b0.out hb1 (by have := hs0.out; omega)).alloc (by have := hs0.out; have := hb1.size; omega) (.cells (u64s [0, 0, 0, 0, 0, 0, 0, 0]) 37)).alloc (by have := hs0.out; have := hb1.size; simp; omega) (.cells (u64s [0, 0, 0, 0]) 24)) (by have := hgt1.out; have := hs0.out; have := hb1.size; omega)) (by have := hgt1.out; have := hs0.out; have := hb1.size; omega))
  have hs1 := Lib.hid (show u1.heap.size = w1.heap.size + 2 by rw [hp1.size, ho1.size]; simp)
  have hn1 := Lib.hid (show w.heap.size ≤ u1.heap.size from by have := hs1.out; have := hgt1.out; omega)
  clear hz8 hz4 hb1 ht1 ho1 hu1 hp1
  go_wp2_with (first | (refine load8 rfl _ rfl _ rfl 37 V hV1.out hlv ?_) | (refine load4 rfl _ rfl _ rfl 24 X hX1.out hlx ?_) | (go_at_call 35; fail))
  refine (H35.out _).mono ?_
  rintro e w2 ⟨rfl, hb2⟩
  have hz8 := Lib.hid ((Has.new w2 (u64s [0, 0, 0, 0, 0, 0, 0, 0]) 37).alloc (.cells (u64s [0, 0, 0, 0]) 24))
  have hz4 := Lib.hid (Has.newAt (w := w2.alloc (.cells (u64s [0, 0, 0, 0, 0, 0, 0, 0]) 37)) (u64s [0, 0, 0, 0]) 24 (n := w2.heap.size + 1) (by simp))
  have hgt2 := Lib.hid (show w1.heap.size + 2 ≤ w2.heap.size from by have := hb2.size; have := hs1.out; omega)
  go_upto_region 3 with (first | (refine store8 rfl _ _ rfl w2.heap.size rfl Q rfl 37 _ hz8.out hlq rfl ?_; intro t2 ht2 ho2) | (refine store4 rfl _ _ rfl (w2.heap.size + 1) rfl R rfl 24 _ (hz4.out.only ho2 (by omega)) hlr rfl ?_; intro u2 hu2 hp2))
  have hX2 := Lib.hid (((((hX1.out.below hb2 hX1.out.lt).alloc (.cells (u64s [0, 0, 0, 0, 0, 0, 0, 0]) 37)).alloc (.cells (u64s [0, 0, 0, 0]) 24)).only ho2 (by have := hX1.out.lt; have := hb2.size; omega)).only hp2 (by have := hX1.out.lt; have := hb2.size; omega))
  have hY2 := Lib.hid (((((hY1.out.below hb2 hY1.out.lt).alloc (.cells (u64s [0, 0, 0, 0, 0, 0, 0, 0]) 37)).alloc (.cells (u64s [0, 0, 0, 0]) 24)).only ho2 (by have := hY1.out.lt; have := hb2.size; omega)).only hp2 (by have := hY1.out.lt; have := hb2.size; omega))
  have hV2 := Lib.hid (((((hV1.out.below hb2 hV1.out.lt).alloc (.cells (u64s [0, 0, 0, 0, 0, 0, 0, 0]) 37)).alloc (.cells (u64s [0, 0, 0, 0]) 24)).only ho2 (by have := hV1.out.lt; have := hb2.size; omega)).only hp2 (by have := hV1.out.lt; have := hb2.size; omega))
  have hQ2 := Lib.hid (((((hQ1.out.below hb2 hQ1.out.lt).alloc (.cells (u64s [0, 0, 0, 0, 0, 0, 0, 0]) 37)).alloc (.cells (u64s [0, 0, 0, 0]) 24)).only ho2 (by have := hQ1.out.lt; have := hb2.size; omega)).only hp2 (by have := hQ1.out.lt; have := hb2.size; omega))
  have hR2 := Lib.hid (((((hR1.out.below hb2 hR1.out.lt).alloc (.cells (u64s [0, 0, 0, 0, 0, 0, 0, 0]) 37)).alloc (.cells (u64s [0, 0, 0, 0]) 24)).only ho2 (by have := hR1.out.lt; have := hb2.size; omega)).only hp2 (by have := hR1.out.lt; have := hb2.size; omega))
  have hQb2 := Lib.hid (ht2.only hp2 (by omega))
  have hRb2 := Lib.hid hu2
  have b2 := Lib.hid (hp2.below (ho2.below (((bcall b1.out hb2 (by have := hn1.out; omega)).alloc (by have := hn1.out; have := hb2.size; omega) (.cells (u64s [0, 0, 0, 0, 0, 0, 0, 0]) 37)).alloc (by have := hn1.out; have := hb2.size; simp; omega) (.cells (u64s [0, 0, 0, 0]) 24)) (by have := hgt2.out; have := hn1.out; have := hb2.size; omega)) (by have := hgt2.out; have := hn1.out; have := hb2.size; omega))
  have hs2 := Lib.hid (show u2.heap.size = w2.heap.size + 2 by rw [hp2.size, ho2.size]; simp)
  have hn2 := Lib.hid (show w.heap.size ≤ u2.heap.size from by have := hs2.out; have := hgt2.out; have := hgt1.out; have := hs1.out; omega)
  clear hz8 hz4 hb2 ht2 ho2 hu2 hp2
  go_simp
  refine wp_region_inv (Kp u2) (by kernel_rfl) (by kernel_rfl) (by kernel_rfl) (Kp.start u2) ?_
  have hq := eql8 M M hlm hlm
  have hqq := eql8 Q Q hlq hlq
  have hqr := eql4 R R hlr hlr
  repeat (first | (refine I_step (fun K' hK => ?_); refine I_load4 rfl _ rfl _ rfl 24 X hX2.out hlx ?_; go_simp; refine hK _ ?_; clear hK K') | (refine I_step (fun K' hK => ?_); refine I_load4 rfl _ rfl _ rfl 24 Y hY2.out hly ?_; go_simp; refine hK _ ?_; clear hK K') | (refine I_step (fun K' hK => ?_); refine I_load8 rfl _ rfl _ rfl 37 Q hQ2.out hlq ?_; go_simp; refine hK _ ?_; clear hK K') | (refine I_step (fun K' hK => ?_); refine I_load8 rfl _ rfl _ rfl 37 Q hQb2.out hlq ?_; go_simp; refine hK _ ?_; clear hK K') | (refine I_step (fun K' hK => ?_); refine I_load4 rfl _ rfl _ rfl 24 R hR2.out hlr ?_; go_simp; refine hK _ ?_; clear hK K') | (refine I_step (fun K' hK => ?_); refine I_load4 rfl _ rfl _ rfl 24 R hRb2.out hlr ?_; go_simp; refine hK _ ?_; clear hK K') | (refine I_step (fun K' hK => ?_); refine I_calls _ 36 _ rfl (fun w => ?_) H36.out ?_; (focus (go_simp; done)); go_simp; refine hK _ ?_; clear hK K') | (refine I_step (fun K' hK => ?_); refine I_calls _ 37 _ rfl (fun w => ?_) H37.out ?_; (focus (go_simp; done)); go_simp; refine hK _ ?_; clear hK K') | (refine I_step (fun K' hK => ?_); refine I_calls _ 20 _ rfl (fun w => ?_) works_any ?_; (focus (go_simp; done)); go_simp; refine hK _ ?_; clear hK K') | (refine I_step (fun K' hK => ?_); refine I_pure ?_ rfl (fun w => ?_) ?_; rotate_left; (focus (first | (go_simp; rfl) | (go_simp; done))); go_simp; refine hK _ ?_; clear hK K'))
  refine I_nil ?_
  intro w' hw'
  go_wp2
  go_ret
  refine ⟨?_, bcall b2.out hw' hn2.out⟩
  first | rfl | (go_simp; done) | kernel_rfl
end Go.Proofs.Ytbklepgbieohiaa
