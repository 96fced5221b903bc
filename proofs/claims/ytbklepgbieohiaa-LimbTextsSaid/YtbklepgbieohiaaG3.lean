/- The walk of LimbTells. -/
import Derived.Test.YtbklepgbieohiaaG1
import Derived.Test.YtbklepgbieohiaaY
import Derived.Test.YtbklepgbieohiaaP
import Derived.Test.YtbklepgbieohiaaT
namespace Go.Proofs.Ytbklepgbieohiaa
open Go.RowKit

theorem BV.below {w w' : World} {v : Value} {L : List Nat} (h : BV w v L) (hb : Below w.heap.size w w') : BV w' v L := by
  rcases h with h | ⟨b, off, c, h1, h2⟩
  · exact Or.inl h
  · refine Or.inr ⟨b, off, c, h1, ?_⟩
    by_cases hl : 0 < L.length
    · exact h2.below hb (h2.lt hl)
    · intro j hj; omega

set_option maxHeartbeats 2000000 in
set_option maxRecDepth 100000 in
theorem tells_core (X Bs : List Nat) (i n : Int) (b : Bool) (t : ByteArray) (hlx : X.length = 4)
    (h10 : ∀ w, Calls Try.prog 10 #[.agg (u64s X)] w fun e w' => e = .returned (.int .i64 n) ∧ Below w.heap.size w w')
    (h11 : ∀ w, Calls Try.prog 11 #[.agg (u64s X)] w fun e w' => e = .returned (.int .i64 n) ∧ Below w.heap.size w w')
    (h12 : ∀ w, Calls Try.prog 12 #[.agg (u64s X), .int .i64 i] w fun e w' => e = .returned (.bool b) ∧ Below w.heap.size w w')
    (h13 : ∀ w, Calls Try.prog 13 #[.agg (u64s X), .int .i64 i] w fun e w' => e = .returned (.bool b) ∧ Below w.heap.size w w')
    (h15 : ∀ w, Calls Try.prog 15 #[.agg (u64s X)] w (NewBytes w Bs)) (h16 : ∀ w, Calls Try.prog 16 #[.agg (u64s X)] w (NewBytes w Bs)) (hBs : Byt Bs)
    (h17 : ∀ w, Calls Try.prog 17 #[.agg (u64s X)] w fun e w' => e = .returned (.string t) ∧ Below w.heap.size w w')
    (h18 : ∀ w, Calls Try.prog 18 #[.agg (u64s X)] w fun e w' => e = .returned (.string t) ∧ Below w.heap.size w w')
    (h19 : ∀ w, Calls Try.prog 19 #[.int .u64 (nth X 0)] w fun e w' => e = .returned (.agg (u64s [nth X 0, 0, 0, 0])) ∧ Below w.heap.size w w') (w : World) :
    Calls Try.prog 3 #[.agg (u64s X), .int .i64 i] w fun e w' => e = .returned (.bool true) ∧ Below w.heap.size w w' := by
  have H10 := Lib.hid h10; have H11 := Lib.hid h11; have H12 := Lib.hid h12; have H13 := Lib.hid h13
  have H15 := Lib.hid h15; have H16 := Lib.hid h16; have H17 := Lib.hid h17; have H18 := Lib.hid h18; have H19 := Lib.hid h19
  have H14 : Hid (∀ (v1 v2 : Value) (w : World), BV w v1 Bs → BV w v2 Bs → Calls Try.prog 14 #[v1, v2] w fun e w' => e = .returned (.bool true) ∧ Below w.heap.size w w') :=
    Lib.hid fun v1 v2 w h1 h2 => (same_any v1 v2 Bs Bs w h1 h2 hBs hBs).mono fun e w' ⟨he, hw⟩ => by subst hw; exact ⟨by simpa using he, Below.refl _ _⟩
  clear h10 h11 h12 h13 h15 h16 h17 h18 h19 hBs
  have hX := Lib.hid (Has.new w (u64s X) 24)
  have b0 := Lib.hid ((Below.refl w.heap.size w).alloc (Nat.le_refl _) (.cells (u64s X) 24))
  have n0 := Lib.hid (show w.heap.size ≤ (w.alloc (.cells (u64s X) 24)).heap.size by simp)
  have hu : (#[Value.int .u64 ((nth X 0 : Nat) : Int), .int .u64 0, .int .u64 0, .int .u64 0] : Array Value) = u64s [nth X 0, 0, 0, 0] := rfl
  have hq := eql4 [nth X 0, 0, 0, 0] [nth X 0, 0, 0, 0] rfl rfl
  go_enter Try.func3, Try.ntmps3
  go_wp2
  generalize hG : w.heap.size = G at *
  generalize w.alloc (.cells (u64s X) 24) = W at *
  have k0 : Kp W W.drew := Kp.start W
  refine wp_region_ord (Kp W) [(true, 0), (true, 2), (false, 1), (false, 3), (true, 4), (true, 5), (true, 6), (true, 7), (true, 9), (true, 10), (false, 8), (false, 11), (true, 12), (true, 13), (true, 14), (true, 15), (true, 17), (false, 16), (false, 18), (false, 19), (true, 20), (true, 21), (true, 22), (true, 24), (false, 23), (false, 25), (true, 26), (true, 27), (true, 28), (true, 29), (true, 30), (true, 32), (true, 33), (true, 34), (false, 31), (true, 35), (true, 36), (true, 37), (false, 38), (true, 39), (true, 40)] (by kernel_rfl) (by kernel_rfl) rfl (by kernel_rfl) ?_
  repeat (first | (refine O_read rfl (by assumption) (fun K' hK => ?_); refine R_load4 rfl _ rfl _ rfl 24 _ hX.out hlx ?_; go_simp; refine hK _ ?_; clear hK K') | (refine O_read rfl (by assumption) (fun K' hK => ?_); refine R_pure ?_ rfl (fun w => ?_) ?_; rotate_left; (focus (first | (go_simp; rfl) | (go_simp; done))); go_simp; refine hK _ ?_; clear hK K') | (refine O_read rfl (by assumption) (fun K' hK => ?_); refine R_read (.int .u64 ((nth X 0 : Nat) : Int)) rfl (fun w hS => ?_) ?_; (focus (have hc := (hX.out.below hS hX.out.lt).cell (k := 0) (by rw [hlx]; decide); go_simp; done)); go_simp; refine hK _ ?_; clear hK K'))
  refine O_call rfl (fun K' hK => ?_)
  refine R_callc 10 _ rfl (fun w => ?_) (H10.out _) ?_
  · go_simp; done
  rintro e w1 ⟨rfl, hb⟩
  have k1 : Kp W w1 := bcall k0 hb (k0).size
  refine ⟨_, rfl, hK _ _ k1 ?_⟩
  clear hK K'
  go_simp
  refine O_call rfl (fun K' hK => ?_)
  refine R_callc 11 _ rfl (fun w => ?_) (H11.out _) ?_
  · go_simp; done
  rintro e w2 ⟨rfl, hb⟩
  have k2 : Kp W w2 := bcall k1 hb (k1).size
  refine ⟨_, rfl, hK _ _ k2 ?_⟩
  clear hK K'
  go_simp
  repeat (first | (refine O_read rfl (by assumption) (fun K' hK => ?_); refine R_load4 rfl _ rfl _ rfl 24 _ hX.out hlx ?_; go_simp; refine hK _ ?_; clear hK K') | (refine O_read rfl (by assumption) (fun K' hK => ?_); refine R_pure ?_ rfl (fun w => ?_) ?_; rotate_left; (focus (first | (go_simp; rfl) | (go_simp; done))); go_simp; refine hK _ ?_; clear hK K') | (refine O_read rfl (by assumption) (fun K' hK => ?_); refine R_read (.int .u64 ((nth X 0 : Nat) : Int)) rfl (fun w hS => ?_) ?_; (focus (have hc := (hX.out.below hS hX.out.lt).cell (k := 0) (by rw [hlx]; decide); go_simp; done)); go_simp; refine hK _ ?_; clear hK K'))
  refine O_call rfl (fun K' hK => ?_)
  refine R_callc 12 _ rfl (fun w => ?_) (H12.out _) ?_
  · go_simp; done
  rintro e w3 ⟨rfl, hb⟩
  have k3 : Kp W w3 := bcall k2 hb (k2).size
  refine ⟨_, rfl, hK _ _ k3 ?_⟩
  clear hK K'
  go_simp
  refine O_call rfl (fun K' hK => ?_)
  refine R_callc 13 _ rfl (fun w => ?_) (H13.out _) ?_
  · go_simp; done
  rintro e w4 ⟨rfl, hb⟩
  have k4 : Kp W w4 := bcall k3 hb (k3).size
  refine ⟨_, rfl, hK _ _ k4 ?_⟩
  clear hK K'
  go_simp
  repeat (first | (refine O_read rfl (by assumption) (fun K' hK => ?_); refine R_load4 rfl _ rfl _ rfl 24 _ hX.out hlx ?_; go_simp; refine hK _ ?_; clear hK K') | (refine O_read rfl (by assumption) (fun K' hK => ?_); refine R_pure ?_ rfl (fun w => ?_) ?_; rotate_left; (focus (first | (go_simp; rfl) | (go_simp; done))); go_simp; refine hK _ ?_; clear hK K') | (refine O_read rfl (by assumption) (fun K' hK => ?_); refine R_read (.int .u64 ((nth X 0 : Nat) : Int)) rfl (fun w hS => ?_) ?_; (focus (have hc := (hX.out.below hS hX.out.lt).cell (k := 0) (by rw [hlx]; decide); go_simp; done)); go_simp; refine hK _ ?_; clear hK K'))
  refine O_call rfl (fun K' hK => ?_)
  refine R_callc 15 _ rfl (fun w => ?_) (H15.out _) ?_
  · go_simp; done
  rintro e w5 ⟨v1, rfl, ho1, hb⟩
  have k5 : Kp W w5 := bcall k4 hb (k4).size
  refine ⟨_, rfl, hK _ _ k5 ?_⟩
  clear hK K'
  have hv1 := Lib.hid ho1.bv; clear ho1
  go_simp
  refine O_call rfl (fun K' hK => ?_)
  refine R_callc 16 _ rfl (fun w => ?_) (H16.out _) ?_
  · go_simp; done
  rintro e w6 ⟨v2, rfl, ho2, hb⟩
  have k6 : Kp W w6 := bcall k5 hb (k5).size
  refine ⟨_, rfl, hK _ _ k6 ?_⟩
  clear hK K'
  have hv2 := Lib.hid ho2.bv; clear ho2
  have hv1' := Lib.hid (hv1.out.below hb)
  go_simp
  refine O_call rfl (fun K' hK => ?_)
  refine R_callc 14 _ rfl (fun w => ?_) (H14.out v1 v2 _ hv1'.out hv2.out) ?_
  · go_simp; done
  rintro e w7 ⟨rfl, hb⟩
  have k7 : Kp W w7 := bcall k6 hb (k6).size
  refine ⟨_, rfl, hK _ _ k7 ?_⟩
  clear hK K'
  go_simp
  repeat (first | (refine O_read rfl (by assumption) (fun K' hK => ?_); refine R_load4 rfl _ rfl _ rfl 24 _ hX.out hlx ?_; go_simp; refine hK _ ?_; clear hK K') | (refine O_read rfl (by assumption) (fun K' hK => ?_); refine R_pure ?_ rfl (fun w => ?_) ?_; rotate_left; (focus (first | (go_simp; rfl) | (go_simp; done))); go_simp; refine hK _ ?_; clear hK K') | (refine O_read rfl (by assumption) (fun K' hK => ?_); refine R_read (.int .u64 ((nth X 0 : Nat) : Int)) rfl (fun w hS => ?_) ?_; (focus (have hc := (hX.out.below hS hX.out.lt).cell (k := 0) (by rw [hlx]; decide); go_simp; done)); go_simp; refine hK _ ?_; clear hK K'))
  refine O_call rfl (fun K' hK => ?_)
  refine R_callc 17 _ rfl (fun w => ?_) (H17.out _) ?_
  · go_simp; done
  rintro e w8 ⟨rfl, hb⟩
  have k8 : Kp W w8 := bcall k7 hb (k7).size
  refine ⟨_, rfl, hK _ _ k8 ?_⟩
  clear hK K'
  go_simp
  refine O_call rfl (fun K' hK => ?_)
  refine R_callc 18 _ rfl (fun w => ?_) (H18.out _) ?_
  · go_simp; done
  rintro e w9 ⟨rfl, hb⟩
  have k9 : Kp W w9 := bcall k8 hb (k8).size
  refine ⟨_, rfl, hK _ _ k9 ?_⟩
  clear hK K'
  go_simp
  repeat (first | (refine O_read rfl (by assumption) (fun K' hK => ?_); refine R_load4 rfl _ rfl _ rfl 24 _ hX.out hlx ?_; go_simp; refine hK _ ?_; clear hK K') | (refine O_read rfl (by assumption) (fun K' hK => ?_); refine R_pure ?_ rfl (fun w => ?_) ?_; rotate_left; (focus (first | (go_simp; rfl) | (go_simp; done))); go_simp; refine hK _ ?_; clear hK K') | (refine O_read rfl (by assumption) (fun K' hK => ?_); refine R_read (.int .u64 ((nth X 0 : Nat) : Int)) rfl (fun w hS => ?_) ?_; (focus (have hc := (hX.out.below hS hX.out.lt).cell (k := 0) (by rw [hlx]; decide); go_simp; done)); go_simp; refine hK _ ?_; clear hK K'))
  refine O_call rfl (fun K' hK => ?_)
  refine R_callc 19 _ rfl (fun w => ?_) (H19.out _) ?_
  · go_simp; done
  rintro e w10 ⟨rfl, hb⟩
  have k10 : Kp W w10 := bcall k9 hb (k9).size
  refine ⟨_, rfl, hK _ _ k10 ?_⟩
  clear hK K'
  go_simp
  repeat (first | (refine O_read rfl (by assumption) (fun K' hK => ?_); refine R_load4 rfl _ rfl _ rfl 24 _ hX.out hlx ?_; go_simp; refine hK _ ?_; clear hK K') | (refine O_read rfl (by assumption) (fun K' hK => ?_); refine R_pure ?_ rfl (fun w => ?_) ?_; rotate_left; (focus (first | (go_simp; rfl) | (go_simp; done))); go_simp; refine hK _ ?_; clear hK K') | (refine O_read rfl (by assumption) (fun K' hK => ?_); refine R_read (.int .u64 ((nth X 0 : Nat) : Int)) rfl (fun w hS => ?_) ?_; (focus (have hc := (hX.out.below hS hX.out.lt).cell (k := 0) (by rw [hlx]; decide); go_simp; done)); go_simp; refine hK _ ?_; clear hK K'))
  repeat (first | (refine O_read rfl (by assumption) (fun K' hK => ?_); refine R_load4 rfl _ rfl _ rfl 24 _ hX.out hlx ?_; go_simp; refine hK _ ?_; clear hK K') | (refine O_read rfl (by assumption) (fun K' hK => ?_); refine R_pure ?_ rfl (fun w => ?_) ?_; rotate_left; (focus (first | (go_simp; rfl) | (go_simp; done))); go_simp; refine hK _ ?_; clear hK K') | (refine O_read rfl (by assumption) (fun K' hK => ?_); refine R_read (.int .u64 ((nth X 0 : Nat) : Int)) rfl (fun w hS => ?_) ?_; (focus (have hc := (hX.out.below hS hX.out.lt).cell (k := 0) (by rw [hlx]; decide); go_simp; done)); go_simp; refine hK _ ?_; clear hK K'))
  refine O_call rfl (fun K' hK => ?_)
  refine R_callc 20 _ rfl (fun w => ?_) (works_any _) ?_
  · go_simp; done
  rintro e w11 ⟨rfl, hb⟩
  have k11 : Kp W w11 := bcall k10 hb (k10).size
  refine ⟨_, rfl, hK _ _ k11 ?_⟩
  clear hK K'
  go_simp
  repeat (first | (refine O_read rfl (by assumption) (fun K' hK => ?_); refine R_load4 rfl _ rfl _ rfl 24 _ hX.out hlx ?_; go_simp; refine hK _ ?_; clear hK K') | (refine O_read rfl (by assumption) (fun K' hK => ?_); refine R_pure ?_ rfl (fun w => ?_) ?_; rotate_left; (focus (first | (go_simp; rfl) | (go_simp; done))); go_simp; refine hK _ ?_; clear hK K') | (refine O_read rfl (by assumption) (fun K' hK => ?_); refine R_read (.int .u64 ((nth X 0 : Nat) : Int)) rfl (fun w hS => ?_) ?_; (focus (have hc := (hX.out.below hS hX.out.lt).cell (k := 0) (by rw [hlx]; decide); go_simp; done)); go_simp; refine hK _ ?_; clear hK K'))
  refine O_nil ?_
  go_wp2
  go_ret
  subst hG
  refine ⟨?_, bcall b0.out k11 n0.out⟩
  first | rfl | (go_simp; done) | kernel_rfl
end Go.Proofs.Ytbklepgbieohiaa
