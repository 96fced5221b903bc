/- The walk of LimbDivides. -/
import Derived.Test.YtbklepgbieohiaaG1
import Derived.Test.YtbklepgbieohiaaO7
import Derived.Test.YtbklepgbieohiaaO2
import Derived.Deep.Cut
namespace Go.Proofs.Ytbklepgbieohiaa
open Go.RowKit

set_option maxHeartbeats 4000000 in
set_option maxRecDepth 100000 in
theorem divides_zero (X Y Z V : List Nat) (hlx : X.length = 4) (hly : Y.length = 4) (hlz : Z.length = 4)
    (hz : (Z == [0, 0, 0, 0]) = true)
    (h27 : ∀ w, Calls Try.prog 27 #[.agg (u64s X)] w fun e w' => e = .returned (.agg (u64s V)) ∧ Below w.heap.size w w')
    (h34 : ∀ w, Calls Try.prog 34 #[.agg (u64s V), .agg (u64s Z)] w fun e w' => e = .returned (.tuple #[.agg (u64s [0, 0, 0, 0, 0, 0, 0, 0]), .agg (u64s [0, 0, 0, 0]), .int .i64 10]) ∧ Below w.heap.size w w') (w : World) :
    Calls Try.prog 9 #[.agg (u64s X), .agg (u64s Y), .agg (u64s Z)] w fun e w' => e = .returned (.bool true) ∧ Below w.heap.size w w' := by
  have H27 := Lib.hid h27; have H34 := Lib.hid h34
  clear h27 h34
  have hX0 := Lib.hid (((Has.new w (u64s X) 24).alloc (.cells (u64s Y) 24)).alloc (.cells (u64s Z) 24))
  have hY0 := Lib.hid ((Has.newAt (w := w.alloc (.cells (u64s X) 24)) (u64s Y) 24 (n := w.heap.size + 1) (by simp)).alloc (.cells (u64s Z) 24))
  have hZ0 := Lib.hid (Has.newAt (w := (w.alloc (.cells (u64s X) 24)).alloc (.cells (u64s Y) 24)) (u64s Z) 24 (n := w.heap.size + 1 + 1) (by simp))
  have b0 := Lib.hid ((((Below.refl w.heap.size w).alloc (Nat.le_refl _) (.cells (u64s X) 24)).alloc (by simp) (.cells (u64s Y) 24)).alloc (by simp; omega) (.cells (u64s Z) 24))
  have n0 := Lib.hid (show w.heap.size ≤ (((w.alloc (.cells (u64s X) 24)).alloc (.cells (u64s Y) 24)).alloc (.cells (u64s Z) 24)).heap.size by simp; omega)
  have heq := eql_zero Z hlz
  rw [hz] at heq
  go_enter Try.func9, Try.ntmps9
  go_upto_region 1 with fail
  generalize ((w.alloc (.cells (u64s X) 24)).alloc (.cells (u64s Y) 24)).alloc (.cells (u64s Z) 24) = W0 at *
  go_upto_region 3 with (go_at_call 20; refine (works_any _).mono ?_; rintro e w1 ⟨rfl, hb1⟩)
  have hX1 := Lib.hid (hX0.out.below hb1 hX0.out.lt)
  have hY1 := Lib.hid (hY0.out.below hb1 hY0.out.lt)
  have hZ1 := Lib.hid (hZ0.out.below hb1 hZ0.out.lt)
  have b1 := Lib.hid (bcall b0.out hb1 n0.out)
  have n1 := Lib.hid (Nat.le_trans n0.out hb1.size)
  clear hb1 hX0 hY0 hZ0
  go_upto_region 4 with (first | (refine load4w rfl _ rfl _ rfl 24 Z hZ1.out hlz ?_))
  go_cut [7, 8, 9] from 25 to 32 (fun s9 s10 s11 wx => ∃ g9 g10, s9 = .pointer (some ⟨g9, 0, none⟩) ∧ s10 = .pointer (some ⟨g10, 0, none⟩) ∧ s11 = .int .i64 10 ∧ Kp w1 wx ∧ Has wx g9 37 (u64s [0, 0, 0, 0, 0, 0, 0, 0]) ∧ Has wx g10 24 (u64s [0, 0, 0, 0]))
  case first =>
    have he := Ev.start w1 undef undef
    refine wp_region_tree (Kp w1) (.read 0 (.read 2 (.fork (.alt 1 (.fork (.alt 3 (.read 4 (.read 5 (.read 6 (.read 7 (.fork (.alt 8 (.fork (.alt 9 (.fork (.alt 10 (.fork (.alt 11 (.read 12 .leaf) .stop)) .stop)) .stop)) (.alt 9 (.fork (.alt 8 (.fork (.alt 10 (.fork (.alt 11 (.read 12 .leaf) .stop)) .stop)) .stop)) .stop))))))) (.alt 8 (.fork (.alt 3 (.read 4 (.read 5 (.read 6 (.read 7 (.fork (.alt 9 (.fork (.alt 10 (.fork (.alt 11 (.read 12 .leaf) .stop)) .stop)) .stop)))))) (.alt 9 (.fork (.alt 3 (.read 4 (.read 5 (.read 6 (.read 7 (.fork (.alt 10 (.fork (.alt 11 (.read 12 .leaf) .stop)) .stop)))))) .stop)) .stop))) (.alt 9 (.fork (.alt 3 (.read 4 (.read 5 (.read 6 (.read 7 (.fork (.alt 8 (.fork (.alt 10 (.fork (.alt 11 (.read 12 .leaf) .stop)) .stop)) .stop)))))) (.alt 8 (.fork (.alt 3 (.read 4 (.read 5 (.read 6 (.read 7 (.fork (.alt 10 (.fork (.alt 11 (.read 12 .leaf) .stop)) .stop)))))) .stop)) .stop))) .stop)))) (.alt 8 (.fork (.alt 1 (.fork (.alt 3 (.read 4 (.read 5 (.read 6 (.read 7 (.fork (.alt 9 (.fork (.alt 10 (.fork (.alt 11 (.read 12 .leaf) .stop)) .stop)) .stop)))))) (.alt 9 (.fork (.alt 3 (.read 4 (.read 5 (.read 6 (.read 7 (.fork (.alt 10 (.fork (.alt 11 (.read 12 .leaf) .stop)) .stop)))))) .stop)) .stop))) (.alt 9 (.fork (.alt 1 (.fork (.alt 3 (.read 4 (.read 5 (.read 6 (.read 7 (.fork (.alt 10 (.fork (.alt 11 (.read 12 .leaf) .stop)) .stop)))))) .stop)) .stop)) .stop))) (.alt 9 (.fork (.alt 1 (.fork (.alt 3 (.read 4 (.read 5 (.read 6 (.read 7 (.fork (.alt 8 (.fork (.alt 10 (.fork (.alt 11 (.read 12 .leaf) .stop)) .stop)) .stop)))))) (.alt 8 (.fork (.alt 3 (.read 4 (.read 5 (.read 6 (.read 7 (.fork (.alt 10 (.fork (.alt 11 (.read 12 .leaf) .stop)) .stop)))))) .stop)) .stop))) (.alt 8 (.fork (.alt 1 (.fork (.alt 3 (.read 4 (.read 5 (.read 6 (.read 7 (.fork (.alt 10 (.fork (.alt 11 (.read 12 .leaf) .stop)) .stop)))))) .stop)) .stop)) .stop))) .stop)))))) (by kernel_rfl) (by kernel_rfl) (by kernel_rfl) ?_
    repeat' (first | (exact T_stop) | (refine T_fork ?_) | (refine T_alt rfl (fun K' hK => ?_) ?_) | (refine R_alloc8 rfl rfl ?_; intro g1 w1 hg1 hb1 hl1; go_simp; refine hK _ _ (Ev.a9 he hg1 hb1 hl1).keep ?_; replace he := Ev.a9 he hg1 hb1 hl1; clear hK K' hg1 hb1 hl1) | (refine R_alloc4 rfl rfl ?_; intro g1 w1 hg1 hb1 hl1; go_simp; refine hK _ _ (Ev.a10 he hg1 hb1 hl1).keep ?_; replace he := Ev.a10 he hg1 hb1 hl1; clear hK K' hg1 hb1 hl1) | (refine R_callc 27 _ rfl (fun w => ?_) (H27.out _) ?_; (focus (go_simp; done)); rintro e w1 ⟨rfl, hb1⟩; refine ⟨_, rfl, ?_⟩; go_simp; refine hK _ _ (Ev.call he hb1).keep ?_; replace he := Ev.call he hb1; clear hK K' hb1) | (refine R_callc 34 _ rfl (fun w => ?_) (H34.out _) ?_; (focus (go_simp; done)); rintro e w1 ⟨rfl, hb1⟩; refine ⟨_, rfl, ?_⟩; go_simp; refine hK _ _ (Ev.call he hb1).keep ?_; replace he := Ev.call he hb1; clear hK K' hb1) | (refine T_read rfl he.keep (fun K' hK => ?_); refine R_load4 rfl _ rfl _ rfl 24 X hX1.out hlx ?_; go_simp; refine hK _ ?_; clear hK K') | (refine T_read rfl he.keep (fun K' hK => ?_); refine R_load4 rfl _ rfl _ rfl 24 Z hZ1.out hlz ?_; go_simp; refine hK _ ?_; clear hK K') | (refine T_read rfl hf.1 (fun K' hK => ?_); refine R_pure ?_ rfl (fun w => ?_) ?_; rotate_left; (focus (first | (go_simp; rfl) | (go_simp; done))); go_simp; refine hK _ ?_; clear hK K') | (refine T_read rfl he.keep (fun K' hK => ?_); refine R_pure ?_ rfl (fun w => ?_) ?_; rotate_left; (focus (first | (go_simp; rfl) | (go_simp; done))); go_simp; refine hK _ ?_; clear hK K') | (refine R_store8 rfl _ _ rfl _ rfl [0, 0, 0, 0, 0, 0, 0, 0] rfl 37 _ (Ev.h9 he).1 rfl rfl ?_; intro w2 hw2 ho2; go_simp; have hs := Ev.st8 he hw2 ho2; refine hK _ _ hs.1 ?_; clear hK K' hw2 ho2) | (refine R_store4 rfl _ _ rfl _ rfl [0, 0, 0, 0] rfl 24 _ hs.2.2.1 rfl rfl ?_; intro w3 hw3 ho3; go_simp; have hf := st4 hs hw3 ho3; refine hK _ _ hf.1 ?_; clear hK K' hw3 ho3) | (refine T_leaf ?_; go_wp2; go_meet; exact ⟨_, _, rfl, rfl, rfl, hf.1, hf.2.1, hf.2.2⟩))
  case rest =>
    obtain ⟨g9, g10, rfl, rfl, rfl, k4, -, -⟩ := hcut
    have b4 := Lib.hid (bcall b1.out k4 n1.out)
    clear k4
    go_wp2
    go_ret
    exact ⟨rfl, b4.out⟩

set_option maxHeartbeats 4000000 in
set_option maxRecDepth 100000 in
theorem divides_some (X Y Z Q R P M V U : List Nat) (hlx : X.length = 4) (hly : Y.length = 4) (hlz : Z.length = 4)
    (hz : (Z == [0, 0, 0, 0]) = false) (hlq : Q.length = 8) (hlr : R.length = 4) (hlp : P.length = 8) (hlm : M.length = 8) (hlv : V.length = 8) (hlu : U.length = 8)
    (hq4 : nth Q 4 = 0) (hp4 : nth P 4 = 0) (c : Int) (hc : decide (c < 0) = true)
    (h27 : ∀ w, Calls Try.prog 27 #[.agg (u64s X)] w fun e w' => e = .returned (.agg (u64s V)) ∧ Below w.heap.size w w')
    (h34 : ∀ w, Calls Try.prog 34 #[.agg (u64s V), .agg (u64s Z)] w fun e w' => e = .returned (.tuple #[.agg (u64s Q), .agg (u64s R), .int .i64 0]) ∧ Below w.heap.size w w')
    (h36 : ∀ w, Calls Try.prog 36 #[.agg (u64s [nth Q 0, nth Q 1, nth Q 2, nth Q 3]), .agg (u64s Z)] w fun e w' => e = .returned (.agg (u64s P)) ∧ Below w.heap.size w w')
    (h21 : ∀ w, Calls Try.prog 21 #[.agg (u64s [nth P 0, nth P 1, nth P 2, nth P 3]), .agg (u64s R)] w fun e w' => e = .returned (.tuple #[.agg (u64s X), .bool false]) ∧ Below w.heap.size w w')
    (h36_2 : ∀ w, Calls Try.prog 36 #[.agg (u64s Y), .agg (u64s Z)] w fun e w' => e = .returned (.agg (u64s M)) ∧ Below w.heap.size w w')
    (h34_2 : ∀ w, Calls Try.prog 34 #[.agg (u64s M), .agg (u64s Z)] w fun e w' => e = .returned (.tuple #[.agg (u64s U), .agg (u64s [0, 0, 0, 0]), .int .i64 0]) ∧ Below w.heap.size w w')
    (h25 : ∀ w, Calls Try.prog 25 #[.agg (u64s R), .agg (u64s Z)] w fun e w' => e = .returned (.int .i64 c) ∧ Below w.heap.size w w')
    (h27_2 : ∀ w, Calls Try.prog 27 #[.agg (u64s Y)] w fun e w' => e = .returned (.agg (u64s U)) ∧ Below w.heap.size w w') (w : World) :
    Calls Try.prog 9 #[.agg (u64s X), .agg (u64s Y), .agg (u64s Z)] w fun e w' => e = .returned (.bool true) ∧ Below w.heap.size w w' := by
  have H27 := Lib.hid h27; have H34 := Lib.hid h34; have H36 := Lib.hid h36; have H21 := Lib.hid h21; have H36_2 := Lib.hid h36_2; have H34_2 := Lib.hid h34_2; have H25 := Lib.hid h25; have H27_2 := Lib.hid h27_2
  clear h27 h34 h36 h21 h36_2 h34_2 h25 h27_2
  have Hq4 := Lib.hid hq4; have Hp4 := Lib.hid hp4
  clear hq4 hp4
  have hX0 := Lib.hid (((Has.new w (u64s X) 24).alloc (.cells (u64s Y) 24)).alloc (.cells (u64s Z) 24))
  have hY0 := Lib.hid ((Has.newAt (w := w.alloc (.cells (u64s X) 24)) (u64s Y) 24 (n := w.heap.size + 1) (by simp)).alloc (.cells (u64s Z) 24))
  have hZ0 := Lib.hid (Has.newAt (w := (w.alloc (.cells (u64s X) 24)).alloc (.cells (u64s Y) 24)) (u64s Z) 24 (n := w.heap.size + 1 + 1) (by simp))
  have b0 := Lib.hid ((((Below.refl w.heap.size w).alloc (Nat.le_refl _) (.cells (u64s X) 24)).alloc (by simp) (.cells (u64s Y) 24)).alloc (by simp; omega) (.cells (u64s Z) 24))
  have n0 := Lib.hid (show w.heap.size ≤ (((w.alloc (.cells (u64s X) 24)).alloc (.cells (u64s Y) 24)).alloc (.cells (u64s Z) 24)).heap.size by simp; omega)
  have heq := eql_zero Z hlz
  rw [hz] at heq
  go_enter Try.func9, Try.ntmps9
  go_upto_region 1 with fail
  generalize ((w.alloc (.cells (u64s X) 24)).alloc (.cells (u64s Y) 24)).alloc (.cells (u64s Z) 24) = W0 at *
  go_upto_region 3 with (go_at_call 20; refine (works_any _).mono ?_; rintro e w1 ⟨rfl, hb1⟩)
  have hX1 := Lib.hid (hX0.out.below hb1 hX0.out.lt)
  have hY1 := Lib.hid (hY0.out.below hb1 hY0.out.lt)
  have hZ1 := Lib.hid (hZ0.out.below hb1 hZ0.out.lt)
  have b1 := Lib.hid (bcall b0.out hb1 n0.out)
  have n1 := Lib.hid (Nat.le_trans n0.out hb1.size)
  clear hb1 hX0 hY0 hZ0
  go_upto_region 6 with (first | (refine load4w rfl _ rfl _ rfl 24 Z hZ1.out hlz ?_))
  go_cut [10, 11, 12] from 35 to 42 (fun s9 s10 s11 wx => ∃ g9 g10, s9 = .pointer (some ⟨g9, 0, none⟩) ∧ s10 = .pointer (some ⟨g10, 0, none⟩) ∧ s11 = .int .i64 0 ∧ Kp w1 wx ∧ Has wx g9 37 (u64s Q) ∧ Has wx g10 24 (u64s R))
  case first =>
    have he := Ev.start w1 undef undef
    refine wp_region_tree (Kp w1) (.read 0 (.read 2 (.fork (.alt 1 (.fork (.alt 3 (.read 4 (.read 5 (.read 6 (.read 7 (.fork (.alt 8 (.fork (.alt 9 (.fork (.alt 10 (.fork (.alt 11 (.read 12 .leaf) .stop)) .stop)) .stop)) (.alt 9 (.fork (.alt 8 (.fork (.alt 10 (.fork (.alt 11 (.read 12 .leaf) .stop)) .stop)) .stop)) .stop))))))) (.alt 8 (.fork (.alt 3 (.read 4 (.read 5 (.read 6 (.read 7 (.fork (.alt 9 (.fork (.alt 10 (.fork (.alt 11 (.read 12 .leaf) .stop)) .stop)) .stop)))))) (.alt 9 (.fork (.alt 3 (.read 4 (.read 5 (.read 6 (.read 7 (.fork (.alt 10 (.fork (.alt 11 (.read 12 .leaf) .stop)) .stop)))))) .stop)) .stop))) (.alt 9 (.fork (.alt 3 (.read 4 (.read 5 (.read 6 (.read 7 (.fork (.alt 8 (.fork (.alt 10 (.fork (.alt 11 (.read 12 .leaf) .stop)) .stop)) .stop)))))) (.alt 8 (.fork (.alt 3 (.read 4 (.read 5 (.read 6 (.read 7 (.fork (.alt 10 (.fork (.alt 11 (.read 12 .leaf) .stop)) .stop)))))) .stop)) .stop))) .stop)))) (.alt 8 (.fork (.alt 1 (.fork (.alt 3 (.read 4 (.read 5 (.read 6 (.read 7 (.fork (.alt 9 (.fork (.alt 10 (.fork (.alt 11 (.read 12 .leaf) .stop)) .stop)) .stop)))))) (.alt 9 (.fork (.alt 3 (.read 4 (.read 5 (.read 6 (.read 7 (.fork (.alt 10 (.fork (.alt 11 (.read 12 .leaf) .stop)) .stop)))))) .stop)) .stop))) (.alt 9 (.fork (.alt 1 (.fork (.alt 3 (.read 4 (.read 5 (.read 6 (.read 7 (.fork (.alt 10 (.fork (.alt 11 (.read 12 .leaf) .stop)) .stop)))))) .stop)) .stop)) .stop))) (.alt 9 (.fork (.alt 1 (.fork (.alt 3 (.read 4 (.read 5 (.read 6 (.read 7 (.fork (.alt 8 (.fork (.alt 10 (.fork (.alt 11 (.read 12 .leaf) .stop)) .stop)) .stop)))))) (.alt 8 (.fork (.alt 3 (.read 4 (.read 5 (.read 6 (.read 7 (.fork (.alt 10 (.fork (.alt 11 (.read 12 .leaf) .stop)) .stop)))))) .stop)) .stop))) (.alt 8 (.fork (.alt 1 (.fork (.alt 3 (.read 4 (.read 5 (.read 6 (.read 7 (.fork (.alt 10 (.fork (.alt 11 (.read 12 .leaf) .stop)) .stop)))))) .stop)) .stop)) .stop))) .stop)))))) (by kernel_rfl) (by kernel_rfl) (by kernel_rfl) ?_
    repeat' (first | (exact T_stop) | (refine T_fork ?_) | (refine T_alt rfl (fun K' hK => ?_) ?_) | (refine R_alloc8 rfl rfl ?_; intro g1 w1 hg1 hb1 hl1; go_simp; refine hK _ _ (Ev.a9 he hg1 hb1 hl1).keep ?_; replace he := Ev.a9 he hg1 hb1 hl1; clear hK K' hg1 hb1 hl1) | (refine R_alloc4 rfl rfl ?_; intro g1 w1 hg1 hb1 hl1; go_simp; refine hK _ _ (Ev.a10 he hg1 hb1 hl1).keep ?_; replace he := Ev.a10 he hg1 hb1 hl1; clear hK K' hg1 hb1 hl1) | (refine R_callc 27 _ rfl (fun w => ?_) (H27.out _) ?_; (focus (go_simp; done)); rintro e w1 ⟨rfl, hb1⟩; refine ⟨_, rfl, ?_⟩; go_simp; refine hK _ _ (Ev.call he hb1).keep ?_; replace he := Ev.call he hb1; clear hK K' hb1) | (refine R_callc 34 _ rfl (fun w => ?_) (H34.out _) ?_; (focus (go_simp; done)); rintro e w1 ⟨rfl, hb1⟩; refine ⟨_, rfl, ?_⟩; go_simp; refine hK _ _ (Ev.call he hb1).keep ?_; replace he := Ev.call he hb1; clear hK K' hb1) | (refine T_read rfl he.keep (fun K' hK => ?_); refine R_load4 rfl _ rfl _ rfl 24 X hX1.out hlx ?_; go_simp; refine hK _ ?_; clear hK K') | (refine T_read rfl he.keep (fun K' hK => ?_); refine R_load4 rfl _ rfl _ rfl 24 Z hZ1.out hlz ?_; go_simp; refine hK _ ?_; clear hK K') | (refine T_read rfl hf.1 (fun K' hK => ?_); refine R_pure ?_ rfl (fun w => ?_) ?_; rotate_left; (focus (first | (go_simp; rfl) | (go_simp; done))); go_simp; refine hK _ ?_; clear hK K') | (refine T_read rfl he.keep (fun K' hK => ?_); refine R_pure ?_ rfl (fun w => ?_) ?_; rotate_left; (focus (first | (go_simp; rfl) | (go_simp; done))); go_simp; refine hK _ ?_; clear hK K') | (refine R_store8 rfl _ _ rfl _ rfl Q rfl 37 _ (Ev.h9 he).1 hlq rfl ?_; intro w2 hw2 ho2; go_simp; have hs := Ev.st8 he hw2 ho2; refine hK _ _ hs.1 ?_; clear hK K' hw2 ho2) | (refine R_store4 rfl _ _ rfl _ rfl R rfl 24 _ hs.2.2.1 hlr rfl ?_; intro w3 hw3 ho3; go_simp; have hf := st4 hs hw3 ho3; refine hK _ _ hf.1 ?_; clear hK K' hw3 ho3) | (refine T_leaf ?_; go_wp2; go_meet; exact ⟨_, _, rfl, rfl, rfl, hf.1, hf.2.1, hf.2.2⟩))
  case rest =>
    obtain ⟨gq, gr, rfl, rfl, rfl, k4, hQ, hR⟩ := hcut
    have hX4 := Lib.hid (hX1.out.below k4 hX1.out.lt)
    have hY4 := Lib.hid (hY1.out.below k4 hY1.out.lt)
    have hZ4 := Lib.hid (hZ1.out.below k4 hZ1.out.lt)
    have hQ4 := Lib.hid hQ; have hR4 := Lib.hid hR
    have b4 := Lib.hid (bcall b1.out k4 n1.out)
    have n4 := Lib.hid (Nat.le_trans n1.out k4.size)
    clear hQ hR k4 hX1 hY1 hZ1
    have c0 := hQ4.out.cell (k := 0) (by omega); have c1 := hQ4.out.cell (k := 1) (by omega); have c2 := hQ4.out.cell (k := 2) (by omega); have c3 := hQ4.out.cell (k := 3) (by omega)
    go_upto_region 8 with (first | (refine store4new rfl _ _ rfl rfl [nth Q 0, nth Q 1, nth Q 2, nth Q 3] rfl rfl _ rfl ?_))
    clear c0 c1 c2 c3
    have hX5 := Lib.hid (hX4.out.alloc (.cells (u64s [nth Q 0, nth Q 1, nth Q 2, nth Q 3]) 24))
    have hY5 := Lib.hid (hY4.out.alloc (.cells (u64s [nth Q 0, nth Q 1, nth Q 2, nth Q 3]) 24))
    have hZ5 := Lib.hid (hZ4.out.alloc (.cells (u64s [nth Q 0, nth Q 1, nth Q 2, nth Q 3]) 24))
    have hQ5 := Lib.hid (hQ4.out.alloc (.cells (u64s [nth Q 0, nth Q 1, nth Q 2, nth Q 3]) 24))
    have hR5 := Lib.hid (hR4.out.alloc (.cells (u64s [nth Q 0, nth Q 1, nth Q 2, nth Q 3]) 24))
    have hL5 := Lib.hid (Has.new wc (u64s [nth Q 0, nth Q 1, nth Q 2, nth Q 3]) 24)
    have b5 := Lib.hid (b4.out.alloc n4.out (.cells (u64s [nth Q 0, nth Q 1, nth Q 2, nth Q 3]) 24))
    have n5 := Lib.hid (show w.heap.size ≤ (wc.alloc (.cells (u64s [nth Q 0, nth Q 1, nth Q 2, nth Q 3]) 24)).heap.size from Nat.le_trans n4.out (by simp))
    clear hX4 hY4 hZ4 hQ4 hR4
    go_wp2_with (first | (go_at_call 36; fail) | (refine load4w rfl _ rfl _ rfl 24 [nth Q 0, nth Q 1, nth Q 2, nth Q 3] hL5.out rfl ?_) | (refine load4w rfl _ rfl _ rfl 24 Z hZ5.out hlz ?_))
    refine (H36.out _).mono ?_
    rintro e w6 ⟨rfl, hb6⟩
    have hX6 := Lib.hid ((hX5.out.below hb6 hX5.out.lt).alloc (.cells (u64s P) 37))
    have hY6 := Lib.hid ((hY5.out.below hb6 hY5.out.lt).alloc (.cells (u64s P) 37))
    have hZ6 := Lib.hid ((hZ5.out.below hb6 hZ5.out.lt).alloc (.cells (u64s P) 37))
    have hQ6 := Lib.hid ((hQ5.out.below hb6 hQ5.out.lt).alloc (.cells (u64s P) 37))
    have hR6 := Lib.hid ((hR5.out.below hb6 hR5.out.lt).alloc (.cells (u64s P) 37))
    have hP6 := Lib.hid (Has.new w6 (u64s P) 37)
    have b6 := Lib.hid ((bcall b5.out hb6 n5.out).alloc (Nat.le_trans n5.out hb6.size) (.cells (u64s P) 37))
    have n6 := Lib.hid (show w.heap.size ≤ (w6.alloc (.cells (u64s P) 37)).heap.size from Nat.le_trans (Nat.le_trans n5.out hb6.size) (by simp))
    clear hb6 hX5 hY5 hZ5 hQ5 hR5 hL5
    go_upto_region 9 with (first | (refine store8new rfl _ _ rfl rfl P rfl hlp _ rfl ?_))
    generalize hg6 : w6.heap.size = gp at *
    generalize w6.alloc (.cells (u64s P) 37) = W6 at *
    clear hg6
    have c0 := hP6.out.cell (k := 0) (by omega); have c1 := hP6.out.cell (k := 1) (by omega); have c2 := hP6.out.cell (k := 2) (by omega); have c3 := hP6.out.cell (k := 3) (by omega)
    go_wp2_with (first | (go_at_call 21; fail) | (refine load4w rfl _ rfl _ rfl 24 R hR6.out hlr ?_))
    refine (H21.out _).mono ?_
    rintro e w7 ⟨rfl, hb7⟩
    clear c0 c1 c2 c3
    have hX7 := Lib.hid ((hX6.out.below hb7 hX6.out.lt).alloc (.cells (u64s X) 24))
    have hY7 := Lib.hid ((hY6.out.below hb7 hY6.out.lt).alloc (.cells (u64s X) 24))
    have hZ7 := Lib.hid ((hZ6.out.below hb7 hZ6.out.lt).alloc (.cells (u64s X) 24))
    have hQ7 := Lib.hid ((hQ6.out.below hb7 hQ6.out.lt).alloc (.cells (u64s X) 24))
    have hR7 := Lib.hid ((hR6.out.below hb7 hR6.out.lt).alloc (.cells (u64s X) 24))
    have hP7 := Lib.hid ((hP6.out.below hb7 hP6.out.lt).alloc (.cells (u64s X) 24))
    have hB7 := Lib.hid (Has.new w7 (u64s X) 24)
    have b7 := Lib.hid ((bcall b6.out hb7 n6.out).alloc (Nat.le_trans n6.out hb7.size) (.cells (u64s X) 24))
    have n7 := Lib.hid (show w.heap.size ≤ (w7.alloc (.cells (u64s X) 24)).heap.size from Nat.le_trans (Nat.le_trans n6.out hb7.size) (by simp))
    clear hb7 hX6 hY6 hZ6 hQ6 hR6 hP6
    go_upto_region 10 with (first | (refine store4new rfl _ _ rfl rfl X rfl hlx _ rfl ?_))
    generalize hg7 : w7.heap.size = gb at *
    generalize w7.alloc (.cells (u64s X) 24) = W7 at *
    clear hg7
    go_cut [17, 18, 19] from 69 to 77 (fun s9 s10 s11 wx => ∃ g9 g10, s9 = .pointer (some ⟨g9, 0, none⟩) ∧ s10 = .pointer (some ⟨g10, 0, none⟩) ∧ s11 = .int .i64 0 ∧ Kp W7 wx ∧ Has wx g9 37 (u64s U) ∧ Has wx g10 24 (u64s [0, 0, 0, 0]))
    case first =>
      have he := Ev.start W7 undef undef
      refine wp_region_tree (Kp W7) (.read 0 (.read 1 (.read 3 (.fork (.alt 2 (.fork (.alt 4 (.read 5 (.read 6 (.read 7 (.read 8 (.fork (.alt 9 (.fork (.alt 10 (.fork (.alt 11 (.fork (.alt 12 (.read 13 .leaf) .stop)) .stop)) .stop)) (.alt 10 (.fork (.alt 9 (.fork (.alt 11 (.fork (.alt 12 (.read 13 .leaf) .stop)) .stop)) .stop)) .stop))))))) (.alt 9 (.fork (.alt 4 (.read 5 (.read 6 (.read 7 (.read 8 (.fork (.alt 10 (.fork (.alt 11 (.fork (.alt 12 (.read 13 .leaf) .stop)) .stop)) .stop)))))) (.alt 10 (.fork (.alt 4 (.read 5 (.read 6 (.read 7 (.read 8 (.fork (.alt 11 (.fork (.alt 12 (.read 13 .leaf) .stop)) .stop)))))) .stop)) .stop))) (.alt 10 (.fork (.alt 4 (.read 5 (.read 6 (.read 7 (.read 8 (.fork (.alt 9 (.fork (.alt 11 (.fork (.alt 12 (.read 13 .leaf) .stop)) .stop)) .stop)))))) (.alt 9 (.fork (.alt 4 (.read 5 (.read 6 (.read 7 (.read 8 (.fork (.alt 11 (.fork (.alt 12 (.read 13 .leaf) .stop)) .stop)))))) .stop)) .stop))) .stop)))) (.alt 9 (.fork (.alt 2 (.fork (.alt 4 (.read 5 (.read 6 (.read 7 (.read 8 (.fork (.alt 10 (.fork (.alt 11 (.fork (.alt 12 (.read 13 .leaf) .stop)) .stop)) .stop)))))) (.alt 10 (.fork (.alt 4 (.read 5 (.read 6 (.read 7 (.read 8 (.fork (.alt 11 (.fork (.alt 12 (.read 13 .leaf) .stop)) .stop)))))) .stop)) .stop))) (.alt 10 (.fork (.alt 2 (.fork (.alt 4 (.read 5 (.read 6 (.read 7 (.read 8 (.fork (.alt 11 (.fork (.alt 12 (.read 13 .leaf) .stop)) .stop)))))) .stop)) .stop)) .stop))) (.alt 10 (.fork (.alt 2 (.fork (.alt 4 (.read 5 (.read 6 (.read 7 (.read 8 (.fork (.alt 9 (.fork (.alt 11 (.fork (.alt 12 (.read 13 .leaf) .stop)) .stop)) .stop)))))) (.alt 9 (.fork (.alt 4 (.read 5 (.read 6 (.read 7 (.read 8 (.fork (.alt 11 (.fork (.alt 12 (.read 13 .leaf) .stop)) .stop)))))) .stop)) .stop))) (.alt 9 (.fork (.alt 2 (.fork (.alt 4 (.read 5 (.read 6 (.read 7 (.read 8 (.fork (.alt 11 (.fork (.alt 12 (.read 13 .leaf) .stop)) .stop)))))) .stop)) .stop)) .stop))) .stop))))))) (by kernel_rfl) (by kernel_rfl) (by kernel_rfl) ?_
      repeat' (first | (exact T_stop) | (refine T_fork ?_) | (refine T_alt rfl (fun K' hK => ?_) ?_) | (refine R_alloc8 rfl rfl ?_; intro g1 w1 hg1 hb1 hl1; go_simp; refine hK _ _ (Ev.a9 he hg1 hb1 hl1).keep ?_; replace he := Ev.a9 he hg1 hb1 hl1; clear hK K' hg1 hb1 hl1) | (refine R_alloc4 rfl rfl ?_; intro g1 w1 hg1 hb1 hl1; go_simp; refine hK _ _ (Ev.a10 he hg1 hb1 hl1).keep ?_; replace he := Ev.a10 he hg1 hb1 hl1; clear hK K' hg1 hb1 hl1) | (refine R_callc 36 _ rfl (fun w => ?_) (H36_2.out _) ?_; (focus (go_simp; done)); rintro e w1 ⟨rfl, hb1⟩; refine ⟨_, rfl, ?_⟩; go_simp; refine hK _ _ (Ev.call he hb1).keep ?_; replace he := Ev.call he hb1; clear hK K' hb1) | (refine R_callc 34 _ rfl (fun w => ?_) (H34_2.out _) ?_; (focus (go_simp; done)); rintro e w1 ⟨rfl, hb1⟩; refine ⟨_, rfl, ?_⟩; go_simp; refine hK _ _ (Ev.call he hb1).keep ?_; replace he := Ev.call he hb1; clear hK K' hb1) | (refine T_read rfl he.keep (fun K' hK => ?_); refine R_load4 rfl _ rfl _ rfl 24 Y hY7.out hly ?_; go_simp; refine hK _ ?_; clear hK K') | (refine T_read rfl he.keep (fun K' hK => ?_); refine R_load4 rfl _ rfl _ rfl 24 Z hZ7.out hlz ?_; go_simp; refine hK _ ?_; clear hK K') | (refine T_read rfl hf.1 (fun K' hK => ?_); refine R_pure ?_ rfl (fun w => ?_) ?_; rotate_left; (focus (first | (go_simp; rfl) | (go_simp; done))); go_simp; refine hK _ ?_; clear hK K') | (refine T_read rfl he.keep (fun K' hK => ?_); refine R_pure ?_ rfl (fun w => ?_) ?_; rotate_left; (focus (first | (go_simp; rfl) | (go_simp; done))); go_simp; refine hK _ ?_; clear hK K') | (refine R_store8 rfl _ _ rfl _ rfl U rfl 37 _ (Ev.h9 he).1 hlu rfl ?_; intro w2 hw2 ho2; go_simp; have hs := Ev.st8 he hw2 ho2; refine hK _ _ hs.1 ?_; clear hK K' hw2 ho2) | (refine R_store4 rfl _ _ rfl _ rfl [0, 0, 0, 0] rfl 24 _ hs.2.2.1 rfl rfl ?_; intro w3 hw3 ho3; go_simp; have hf := st4 hs hw3 ho3; refine hK _ _ hf.1 ?_; clear hK K' hw3 ho3) | (refine T_leaf ?_; go_wp2; go_meet; exact ⟨_, _, rfl, rfl, rfl, hf.1, hf.2.1, hf.2.2⟩))
    case rest =>
      obtain ⟨gu, gz, rfl, rfl, rfl, k8, hU, hzz⟩ := hcut
      have hX8 := Lib.hid (hX7.out.below k8 hX7.out.lt)
      have hY8 := Lib.hid (hY7.out.below k8 hY7.out.lt)
      have hZ8 := Lib.hid (hZ7.out.below k8 hZ7.out.lt)
      have hQ8 := Lib.hid (hQ7.out.below k8 hQ7.out.lt)
      have hR8 := Lib.hid (hR7.out.below k8 hR7.out.lt)
      have hP8 := Lib.hid (hP7.out.below k8 hP7.out.lt)
      have hB8 := Lib.hid (hB7.out.below k8 hB7.out.lt)
      have hU8 := Lib.hid hU; have hz8 := Lib.hid hzz
      have b8 := Lib.hid (bcall b7.out k8 n7.out)
      have n8 := Lib.hid (Nat.le_trans n7.out k8.size)
      clear hU hzz k8 hX7 hY7 hZ7 hQ7 hR7 hP7 hB7
      have hqx := eql4 X X hlx hlx
      have hqu := eql8 U U hlu hlu
      have hqz : ∀ w, (binOp .eql 24 (.agg (u64s [0, 0, 0, 0])) (.agg #[.int .u64 0, .int .u64 0, .int .u64 0, .int .u64 0])).run Try.prog w = .ok (.bool true) w := eql_zero [0, 0, 0, 0] rfl
      go_wp2
      refine wp_region_inv (Kp _) (by kernel_rfl) (by kernel_rfl) (by kernel_rfl) (Kp.start _) ?_
      repeat (first | (refine I_step (fun K' hK => ?_); refine I_load4 rfl _ rfl _ rfl 24 X hB8.out hlx ?_; go_simp; refine hK _ ?_; clear hK K') | (refine I_step (fun K' hK => ?_); refine I_load4 rfl _ rfl _ rfl 24 X hX8.out hlx ?_; go_simp; refine hK _ ?_; clear hK K') | (refine I_step (fun K' hK => ?_); refine I_load4 rfl _ rfl _ rfl 24 R hR8.out hlr ?_; go_simp; refine hK _ ?_; clear hK K') | (refine I_step (fun K' hK => ?_); refine I_load4 rfl _ rfl _ rfl 24 Z hZ8.out hlz ?_; go_simp; refine hK _ ?_; clear hK K') | (refine I_step (fun K' hK => ?_); refine I_load4 rfl _ rfl _ rfl 24 Y hY8.out hly ?_; go_simp; refine hK _ ?_; clear hK K') | (refine I_step (fun K' hK => ?_); refine I_load4 rfl _ rfl _ rfl 24 [0, 0, 0, 0] hz8.out rfl ?_; go_simp; refine hK _ ?_; clear hK K') | (refine I_step (fun K' hK => ?_); refine I_load8 rfl _ rfl _ rfl 37 U hU8.out hlu ?_; go_simp; refine hK _ ?_; clear hK K') | (refine I_step (fun K' hK => ?_); refine I_calls _ 25 _ rfl (fun w => ?_) H25.out ?_; (focus (go_simp; done)); go_simp; refine hK _ ?_; clear hK K') | (refine I_step (fun K' hK => ?_); refine I_calls _ 27 _ rfl (fun w => ?_) H27_2.out ?_; (focus (go_simp; done)); go_simp; refine hK _ ?_; clear hK K') | (refine I_step (fun K' hK => ?_); refine I_read (.int .u64 ((nth P 4 : Nat) : Int)) rfl (fun w hS => ?_) ?_; (focus (have hc := (hP8.out.below hS hP8.out.lt).cell (k := 4) (by omega); go_simp; done)); rw [Hp4.out]; go_simp; refine hK _ ?_; clear hK K') | (refine I_step (fun K' hK => ?_); refine I_read (.int .u64 ((nth Q 4 : Nat) : Int)) rfl (fun w hS => ?_) ?_; (focus (have hc := (hQ8.out.below hS hQ8.out.lt).cell (k := 4) (by omega); go_simp; done)); rw [Hq4.out]; go_simp; refine hK _ ?_; clear hK K') | (refine I_step (fun K' hK => ?_); refine I_pure ?_ rfl (fun w => ?_) ?_; rotate_left; (focus (first | (go_simp; rfl) | (go_simp; done))); go_simp; refine hK _ ?_; clear hK K'))
      refine I_nil ?_
      intro w' hw'
      go_wp2
      go_ret
      refine ⟨?_, bcall b8.out hw' n8.out⟩
      first | rfl | (go_simp; done) | kernel_rfl
end Go.Proofs.Ytbklepgbieohiaa
