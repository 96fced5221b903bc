/- The walk of LimbBack. -/
import Derived.Test.YtbklepgbieohiaaG1
import Derived.Test.YtbklepgbieohiaaO7
import Derived.Test.YtbklepgbieohiaaO2
import Derived.Deep.Cut
namespace Go.Proofs.Ytbklepgbieohiaa
open Go.RowKit

set_option maxHeartbeats 2000000 in
set_option maxRecDepth 100000 in
theorem back_zero (X Y S M Q : List Nat) (c d : Bool) (hlx : X.length = 4) (hly : Y.length = 4) (hls : S.length = 4) (hlm : M.length = 8) (hlq : Q.length = 8)
    (h21 : ∀ w, Calls Try.prog 21 #[.agg (u64s X), .agg (u64s Y)] w fun e w' => e = .returned (.tuple #[.agg (u64s S), .bool c]) ∧ Below w.heap.size w w')
    (h23 : ∀ w, Calls Try.prog 23 #[.agg (u64s S), .agg (u64s Y)] w fun e w' => e = .returned (.tuple #[.agg (u64s X), .bool d]) ∧ Below w.heap.size w w')
    (h36 : ∀ w, Calls Try.prog 36 #[.agg (u64s X), .agg (u64s Y)] w fun e w' => e = .returned (.agg (u64s M)) ∧ Below w.heap.size w w')
    (hz : (Y == [0, 0, 0, 0]) = true) (hM : (M == [0, 0, 0, 0, 0, 0, 0, 0]) = true) (w : World) :
    Calls Try.prog 8 #[.agg (u64s X), .agg (u64s Y)] w fun e w' => e = .returned (.bool true) ∧ Below w.heap.size w w' := by
  have H21 := Lib.hid h21; have H23 := Lib.hid h23; have H36 := Lib.hid h36
  clear h21 h23 h36
  have hX0 := Lib.hid ((Has.new w (u64s X) 24).alloc (.cells (u64s Y) 24))
  have hY0 := Lib.hid (Has.newAt (w := w.alloc (.cells (u64s X) 24)) (u64s Y) 24 (n := w.heap.size + 1) (by simp))
  have b0 := Lib.hid (((Below.refl w.heap.size w).alloc (Nat.le_refl _) (.cells (u64s X) 24)).alloc (by simp) (.cells (u64s Y) 24))
  have n0 := Lib.hid (show w.heap.size ≤ ((w.alloc (.cells (u64s X) 24)).alloc (.cells (u64s Y) 24)).heap.size by simp; omega)
  go_enter Try.func8, Try.ntmps8
  go_upto_region 1 with fail
  generalize (w.alloc (.cells (u64s X) 24)).alloc (.cells (u64s Y) 24) = W0 at *
  go_upto_region 3 with (go_at_call 20; refine (works_any _).mono ?_; rintro e w1 ⟨rfl, hb1⟩)
  have hX1 := Lib.hid (hX0.out.below hb1 hX0.out.lt)
  have hY1 := Lib.hid (hY0.out.below hb1 hY0.out.lt)
  have b1 := Lib.hid (bcall b0.out hb1 n0.out)
  have n1 := Lib.hid (Nat.le_trans n0.out hb1.size)
  clear hb1
  go_wp2_with (first | (go_at_call 21; fail) | (refine load4w rfl _ rfl _ rfl 24 X hX1.out hlx ?_) | (refine load4w rfl _ rfl _ rfl 24 Y hY1.out hly ?_))
  refine (H21.out _).mono ?_
  rintro e w2 ⟨rfl, hb2⟩
  have hX2 := Lib.hid ((hX1.out.below hb2 hX1.out.lt).alloc (.cells (u64s S) 24))
  have hY2 := Lib.hid ((hY1.out.below hb2 hY1.out.lt).alloc (.cells (u64s S) 24))
  have hS2 := Lib.hid (Has.new w2 (u64s S) 24)
  have b2 := Lib.hid ((bcall b1.out hb2 n1.out).alloc (Nat.le_trans n1.out hb2.size) (.cells (u64s S) 24))
  have n2 := Lib.hid (show w.heap.size ≤ (w2.alloc (.cells (u64s S) 24)).heap.size from Nat.le_trans (Nat.le_trans n1.out hb2.size) (by simp))
  clear hb2
  go_wp2_with (first | (go_at_call 23; fail) | (refine store4new rfl _ _ rfl rfl S rfl hls _ rfl ?_) | (refine load4w rfl _ rfl _ rfl 24 S hS2.out hls ?_) | (refine load4w rfl _ rfl _ rfl 24 Y hY2.out hly ?_))
  refine (H23.out _).mono ?_
  rintro e w3 ⟨rfl, hb3⟩
  have hX3 := Lib.hid ((hX2.out.below hb3 hX2.out.lt).alloc (.cells (u64s X) 24))
  have hY3 := Lib.hid ((hY2.out.below hb3 hY2.out.lt).alloc (.cells (u64s X) 24))
  have hD3 := Lib.hid (Has.new w3 (u64s X) 24)
  have b3 := Lib.hid ((bcall b2.out hb3 n2.out).alloc (Nat.le_trans n2.out hb3.size) (.cells (u64s X) 24))
  have n3 := Lib.hid (show w.heap.size ≤ (w3.alloc (.cells (u64s X) 24)).heap.size from Nat.le_trans (Nat.le_trans n2.out hb3.size) (by simp))
  clear hb3
  have hnx : (!(X == X)) = false := by simp
  have heq := eql_zero Y hly
  rw [hz] at heq
  have heq8 : ∀ w, (binOp .eql 37 (.agg (u64s M)) (.agg #[.int .u64 0, .int .u64 0, .int .u64 0, .int .u64 0, .int .u64 0, .int .u64 0, .int .u64 0, .int .u64 0])).run Try.prog w = .ok (.bool true) w := fun w => by
    have h := eql8 M [0, 0, 0, 0, 0, 0, 0, 0] hlm rfl w
    rw [hM] at h
    exact h
  go_wp2_with (first | (refine neq4w rfl _ _ 24 rfl X X rfl rfl hlx hlx ?_; rw [hnx]) | (go_at_call 36; refine (H36.out _).mono ?_; rintro e w4 ⟨rfl, hb4⟩) | (refine store4new rfl _ _ rfl rfl X rfl hlx _ rfl ?_) | (refine load4w rfl _ rfl _ rfl 24 X hD3.out hlx ?_) | (refine load4w rfl _ rfl _ rfl 24 X hX3.out hlx ?_) | (refine load4w rfl _ rfl _ rfl 24 Y hY3.out hly ?_))
  go_ret
  exact ⟨rfl, bcall b3.out hb4 n3.out⟩

set_option maxHeartbeats 2000000 in
set_option maxRecDepth 100000 in
theorem back_some (X Y S M Q : List Nat) (c d : Bool) (hlx : X.length = 4) (hly : Y.length = 4) (hls : S.length = 4) (hlm : M.length = 8) (hlq : Q.length = 8)
    (h21 : ∀ w, Calls Try.prog 21 #[.agg (u64s X), .agg (u64s Y)] w fun e w' => e = .returned (.tuple #[.agg (u64s S), .bool c]) ∧ Below w.heap.size w w')
    (h23 : ∀ w, Calls Try.prog 23 #[.agg (u64s S), .agg (u64s Y)] w fun e w' => e = .returned (.tuple #[.agg (u64s X), .bool d]) ∧ Below w.heap.size w w')
    (h36 : ∀ w, Calls Try.prog 36 #[.agg (u64s X), .agg (u64s Y)] w fun e w' => e = .returned (.agg (u64s M)) ∧ Below w.heap.size w w')
    (hz : (Y == [0, 0, 0, 0]) = false)
    (h34 : ∀ w, Calls Try.prog 34 #[.agg (u64s M), .agg (u64s Y)] w fun e w' => e = .returned (.tuple #[.agg (u64s Q), .agg (u64s [0, 0, 0, 0]), .int .i64 0]) ∧ Below w.heap.size w w')
    (h27 : ∀ w, Calls Try.prog 27 #[.agg (u64s X)] w fun e w' => e = .returned (.agg (u64s Q)) ∧ Below w.heap.size w w') (w : World) :
    Calls Try.prog 8 #[.agg (u64s X), .agg (u64s Y)] w fun e w' => e = .returned (.bool true) ∧ Below w.heap.size w w' := by
  have H21 := Lib.hid h21; have H23 := Lib.hid h23; have H36 := Lib.hid h36
  clear h21 h23 h36
  have hX0 := Lib.hid ((Has.new w (u64s X) 24).alloc (.cells (u64s Y) 24))
  have hY0 := Lib.hid (Has.newAt (w := w.alloc (.cells (u64s X) 24)) (u64s Y) 24 (n := w.heap.size + 1) (by simp))
  have b0 := Lib.hid (((Below.refl w.heap.size w).alloc (Nat.le_refl _) (.cells (u64s X) 24)).alloc (by simp) (.cells (u64s Y) 24))
  have n0 := Lib.hid (show w.heap.size ≤ ((w.alloc (.cells (u64s X) 24)).alloc (.cells (u64s Y) 24)).heap.size by simp; omega)
  go_enter Try.func8, Try.ntmps8
  go_upto_region 1 with fail
  generalize (w.alloc (.cells (u64s X) 24)).alloc (.cells (u64s Y) 24) = W0 at *
  go_upto_region 3 with (go_at_call 20; refine (works_any _).mono ?_; rintro e w1 ⟨rfl, hb1⟩)
  have hX1 := Lib.hid (hX0.out.below hb1 hX0.out.lt)
  have hY1 := Lib.hid (hY0.out.below hb1 hY0.out.lt)
  have b1 := Lib.hid (bcall b0.out hb1 n0.out)
  have n1 := Lib.hid (Nat.le_trans n0.out hb1.size)
  clear hb1
  go_wp2_with (first | (go_at_call 21; fail) | (refine load4w rfl _ rfl _ rfl 24 X hX1.out hlx ?_) | (refine load4w rfl _ rfl _ rfl 24 Y hY1.out hly ?_))
  refine (H21.out _).mono ?_
  rintro e w2 ⟨rfl, hb2⟩
  have hX2 := Lib.hid ((hX1.out.below hb2 hX1.out.lt).alloc (.cells (u64s S) 24))
  have hY2 := Lib.hid ((hY1.out.below hb2 hY1.out.lt).alloc (.cells (u64s S) 24))
  have hS2 := Lib.hid (Has.new w2 (u64s S) 24)
  have b2 := Lib.hid ((bcall b1.out hb2 n1.out).alloc (Nat.le_trans n1.out hb2.size) (.cells (u64s S) 24))
  have n2 := Lib.hid (show w.heap.size ≤ (w2.alloc (.cells (u64s S) 24)).heap.size from Nat.le_trans (Nat.le_trans n1.out hb2.size) (by simp))
  clear hb2
  go_wp2_with (first | (go_at_call 23; fail) | (refine store4new rfl _ _ rfl rfl S rfl hls _ rfl ?_) | (refine load4w rfl _ rfl _ rfl 24 S hS2.out hls ?_) | (refine load4w rfl _ rfl _ rfl 24 Y hY2.out hly ?_))
  refine (H23.out _).mono ?_
  rintro e w3 ⟨rfl, hb3⟩
  have hX3 := Lib.hid ((hX2.out.below hb3 hX2.out.lt).alloc (.cells (u64s X) 24))
  have hY3 := Lib.hid ((hY2.out.below hb3 hY2.out.lt).alloc (.cells (u64s X) 24))
  have hD3 := Lib.hid (Has.new w3 (u64s X) 24)
  have b3 := Lib.hid ((bcall b2.out hb3 n2.out).alloc (Nat.le_trans n2.out hb3.size) (.cells (u64s X) 24))
  have n3 := Lib.hid (show w.heap.size ≤ (w3.alloc (.cells (u64s X) 24)).heap.size from Nat.le_trans (Nat.le_trans n2.out hb3.size) (by simp))
  clear hb3
  have hnx : (!(X == X)) = false := by simp
  have heq := eql_zero Y hly
  rw [hz] at heq
  have H34 := Lib.hid h34; have H27 := Lib.hid h27
  clear h34 h27
  go_upto_region 9 with (first | (refine neq4w rfl _ _ 24 rfl X X rfl rfl hlx hlx ?_; rw [hnx]) | (refine store4new rfl _ _ rfl rfl X rfl hlx _ rfl ?_) | (refine load4w rfl _ rfl _ rfl 24 X hD3.out hlx ?_) | (refine load4w rfl _ rfl _ rfl 24 X hX3.out hlx ?_) | (refine load4w rfl _ rfl _ rfl 24 Y hY3.out hly ?_))
  generalize w3.alloc (.cells (u64s X) 24) = W at *
  go_cut [9, 10, 11] from 37 to 45 (fun s9 s10 s11 wx => ∃ g9 g10, s9 = .pointer (some ⟨g9, 0, none⟩) ∧ s10 = .pointer (some ⟨g10, 0, none⟩) ∧ s11 = .int .i64 0 ∧ Kp W wx ∧ Has wx g9 37 (u64s Q) ∧ Has wx g10 24 (u64s [0, 0, 0, 0]))
  case first =>
    have he := Ev.start W undef undef
    refine wp_region_tree (Kp W) (.read 0 (.read 1 (.read 3 (.fork (.alt 2 (.fork (.alt 4 (.read 5 (.read 6 (.read 7 (.read 8 (.fork (.alt 9 (.fork (.alt 10 (.fork (.alt 11 (.fork (.alt 12 (.read 13 .leaf) .stop)) .stop)) .stop)) (.alt 10 (.fork (.alt 9 (.fork (.alt 11 (.fork (.alt 12 (.read 13 .leaf) .stop)) .stop)) .stop)) .stop))))))) (.alt 9 (.fork (.alt 4 (.read 5 (.read 6 (.read 7 (.read 8 (.fork (.alt 10 (.fork (.alt 11 (.fork (.alt 12 (.read 13 .leaf) .stop)) .stop)) .stop)))))) (.alt 10 (.fork (.alt 4 (.read 5 (.read 6 (.read 7 (.read 8 (.fork (.alt 11 (.fork (.alt 12 (.read 13 .leaf) .stop)) .stop)))))) .stop)) .stop))) (.alt 10 (.fork (.alt 4 (.read 5 (.read 6 (.read 7 (.read 8 (.fork (.alt 9 (.fork (.alt 11 (.fork (.alt 12 (.read 13 .leaf) .stop)) .stop)) .stop)))))) (.alt 9 (.fork (.alt 4 (.read 5 (.read 6 (.read 7 (.read 8 (.fork (.alt 11 (.fork (.alt 12 (.read 13 .leaf) .stop)) .stop)))))) .stop)) .stop))) .stop)))) (.alt 9 (.fork (.alt 2 (.fork (.alt 4 (.read 5 (.read 6 (.read 7 (.read 8 (.fork (.alt 10 (.fork (.alt 11 (.fork (.alt 12 (.read 13 .leaf) .stop)) .stop)) .stop)))))) (.alt 10 (.fork (.alt 4 (.read 5 (.read 6 (.read 7 (.read 8 (.fork (.alt 11 (.fork (.alt 12 (.read 13 .leaf) .stop)) .stop)))))) .stop)) .stop))) (.alt 10 (.fork (.alt 2 (.fork (.alt 4 (.read 5 (.read 6 (.read 7 (.read 8 (.fork (.alt 11 (.fork (.alt 12 (.read 13 .leaf) .stop)) .stop)))))) .stop)) .stop)) .stop))) (.alt 10 (.fork (.alt 2 (.fork (.alt 4 (.read 5 (.read 6 (.read 7 (.read 8 (.fork (.alt 9 (.fork (.alt 11 (.fork (.alt 12 (.read 13 .leaf) .stop)) .stop)) .stop)))))) (.alt 9 (.fork (.alt 4 (.read 5 (.read 6 (.read 7 (.read 8 (.fork (.alt 11 (.fork (.alt 12 (.read 13 .leaf) .stop)) .stop)))))) .stop)) .stop))) (.alt 9 (.fork (.alt 2 (.fork (.alt 4 (.read 5 (.read 6 (.read 7 (.read 8 (.fork (.alt 11 (.fork (.alt 12 (.read 13 .leaf) .stop)) .stop)))))) .stop)) .stop)) .stop))) .stop))))))) (by kernel_rfl) (by kernel_rfl) (by kernel_rfl) ?_
    repeat' (first | (exact T_stop) | (refine T_fork ?_) | (refine T_alt rfl (fun K' hK => ?_) ?_) | (refine R_alloc8 rfl rfl ?_; intro g1 w1 hg1 hb1 hl1; go_simp; refine hK _ _ (Ev.a9 he hg1 hb1 hl1).keep ?_; replace he := Ev.a9 he hg1 hb1 hl1; clear hK K' hg1 hb1 hl1) | (refine R_alloc4 rfl rfl ?_; intro g1 w1 hg1 hb1 hl1; go_simp; refine hK _ _ (Ev.a10 he hg1 hb1 hl1).keep ?_; replace he := Ev.a10 he hg1 hb1 hl1; clear hK K' hg1 hb1 hl1) | (refine R_callc 36 _ rfl (fun w => ?_) (H36.out _) ?_; (focus (go_simp; done)); rintro e w1 ⟨rfl, hb1⟩; refine ⟨_, rfl, ?_⟩; go_simp; refine hK _ _ (Ev.call he hb1).keep ?_; replace he := Ev.call he hb1; clear hK K' hb1) | (refine R_callc 34 _ rfl (fun w => ?_) (H34.out _) ?_; (focus (go_simp; done)); rintro e w1 ⟨rfl, hb1⟩; refine ⟨_, rfl, ?_⟩; go_simp; refine hK _ _ (Ev.call he hb1).keep ?_; replace he := Ev.call he hb1; clear hK K' hb1) | (refine T_read rfl he.keep (fun K' hK => ?_); refine R_load4 rfl _ rfl _ rfl 24 X hX3.out hlx ?_; go_simp; refine hK _ ?_; clear hK K') | (refine T_read rfl he.keep (fun K' hK => ?_); refine R_load4 rfl _ rfl _ rfl 24 Y hY3.out hly ?_; go_simp; refine hK _ ?_; clear hK K') | (refine T_read rfl hf.1 (fun K' hK => ?_); refine R_pure ?_ rfl (fun w => ?_) ?_; rotate_left; (focus (first | (go_simp; rfl) | (go_simp; done))); go_simp; refine hK _ ?_; clear hK K') | (refine T_read rfl he.keep (fun K' hK => ?_); refine R_pure ?_ rfl (fun w => ?_) ?_; rotate_left; (focus (first | (go_simp; rfl) | (go_simp; done))); go_simp; refine hK _ ?_; clear hK K') | (refine R_store8 rfl _ _ rfl _ rfl Q rfl 37 _ (Ev.h9 he).1 hlq rfl ?_; intro w2 hw2 ho2; go_simp; have hs := Ev.st8 he hw2 ho2; refine hK _ _ hs.1 ?_; clear hK K' hw2 ho2) | (refine R_store4 rfl _ _ rfl _ rfl [0, 0, 0, 0] rfl 24 _ hs.2.2.1 rfl rfl ?_; intro w3 hw3 ho3; go_simp; have hf := st4 hs hw3 ho3; refine hK _ _ hf.1 ?_; clear hK K' hw3 ho3) | (refine T_leaf ?_; go_wp2; go_meet; exact ⟨_, _, rfl, rfl, rfl, hf.1, hf.2.1, hf.2.2⟩))
  case rest =>
    obtain ⟨g9, g10, rfl, rfl, rfl, k4, hQ, hR⟩ := hcut
    have hX4 := Lib.hid (hX3.out.below k4 hX3.out.lt)
    have hQ4 := Lib.hid hQ; have hR4 := Lib.hid hR
    have b4 := Lib.hid (bcall b3.out k4 n3.out)
    have n4 := Lib.hid (Nat.le_trans n3.out k4.size)
    clear hQ hR k4
    have hq8 := eql8 Q Q hlq hlq
    have hq4 : ∀ w, (binOp .eql 24 (.agg (u64s [0, 0, 0, 0])) (.agg #[.int .u64 0, .int .u64 0, .int .u64 0, .int .u64 0])).run Try.prog w = .ok (.bool true) w := eql_zero [0, 0, 0, 0] rfl
    go_wp2
    refine wp_region_inv (Kp _) (by kernel_rfl) (by kernel_rfl) (by kernel_rfl) (Kp.start _) ?_
    repeat (first | (refine I_step (fun K' hK => ?_); refine I_load4 rfl _ rfl _ rfl 24 [0, 0, 0, 0] hR4.out rfl ?_; go_simp; refine hK _ ?_; clear hK K') | (refine I_step (fun K' hK => ?_); refine I_load8 rfl _ rfl _ rfl 37 Q hQ4.out hlq ?_; go_simp; refine hK _ ?_; clear hK K') | (refine I_step (fun K' hK => ?_); refine I_load4 rfl _ rfl _ rfl 24 X hX4.out hlx ?_; go_simp; refine hK _ ?_; clear hK K') | (refine I_step (fun K' hK => ?_); refine I_calls _ 27 _ rfl (fun w => ?_) H27.out ?_; (focus (go_simp; done)); go_simp; refine hK _ ?_; clear hK K') | (refine I_step (fun K' hK => ?_); refine I_pure ?_ rfl (fun w => ?_) ?_; rotate_left; (focus (first | (go_simp; rfl) | (go_simp; done))); go_simp; refine hK _ ?_; clear hK K'))
    refine I_nil ?_
    intro w' hw'
    go_wp2
    go_ret
    refine ⟨?_, bcall b4.out hw' n4.out⟩
    first | rfl | (go_simp; done) | kernel_rfl
end Go.Proofs.Ytbklepgbieohiaa
