/- The walk of ref.Divide, the divisor not nought. -/
import Derived.Test.YtbklepgbieohiaaO2
import Derived.Deep.CutBlock
import Derived.Deep.LoopGhost
namespace Go.Proofs.Ytbklepgbieohiaa
open Go.RowKit

/-- What lies in the heap while ref.Divide runs. -/
structure RDW (w : World) (N : Nat) (X Y Q R : List Nat) (u : World) : Prop where
  below : Below N w u
  x : Has u N 37 (u64s X)
  y : Has u (N + 1) 24 (u64s Y)
  q0 : Has u (N + 1 + 1) 37 (u64s [0, 0, 0, 0, 0, 0, 0, 0])
  r0 : Has u (N + 1 + 1 + 1) 24 (u64s [0, 0, 0, 0])
  q : Has u (N + 4) 37 (u64s Q)
  r : Has u (N + 4 + 1) 24 (u64s R)

section
variable {w u v : World} {N : Nat} {X Y Q R : List Nat}

theorem RDW.keep (h : RDW w N X Y Q R u) (k : Below u.heap.size u v) : RDW w N X Y Q R v :=
  ⟨bcall h.below k (by have := h.x.lt; omega), h.x.below k h.x.lt, h.y.below k h.y.lt, h.q0.below k h.q0.lt, h.r0.below k h.r0.lt, h.q.below k h.q.lt, h.r.below k h.r.lt⟩

theorem RDW.turnR (h : RDW w N X Y Q R u) {R' : List Nat} (o : Only (N + 4 + 1) u v) (hA : Has v (N + 4 + 1) 24 (u64s R')) : RDW w N X Y Q R' v :=
  ⟨o.below h.below (by omega), h.x.only o (by omega), h.y.only o (by omega), h.q0.only o (by omega), h.r0.only o (by omega), h.q.only o (by omega), hA⟩

theorem RDW.setQ (h : RDW w N X Y Q R u) (k x : Nat) : RDW w N X Y (Q.set k x) R (u.setCell ⟨N + 4, k, none⟩ (.int .u64 ((x : Nat) : Int))) :=
  ⟨h.below.setCell (by simp) _, h.x.other (by simp) _, h.y.other (by simp) _, h.q0.other (by simp) _, h.r0.other (by simp) _, h.q.set k x, h.r.other (by simp) _⟩

theorem RDW.past (h : RDW w N X Y Q R u) {g : Nat} (hg : N + 4 + 1 < g) (k : Nat) (x : Value) : RDW w N X Y Q R (u.setCell ⟨g, k, none⟩ x) :=
  ⟨h.below.setCell (by simp; omega) _, h.x.other (by simp; omega) _, h.y.other (by simp; omega) _, h.q0.other (by simp; omega) _, h.r0.other (by simp; omega) _, h.q.other (by simp; omega) _, h.r.other (by simp; omega) _⟩

theorem RDW.alloc (h : RDW w N X Y Q R u) (o : Obj) : RDW w N X Y Q R (u.alloc o) :=
  ⟨h.below.alloc (by have := h.x.lt; omega) _, h.x.alloc _, h.y.alloc _, h.q0.alloc _, h.r0.alloc _, h.q.alloc _, h.r.alloc _⟩
end

theorem cmpN_lt (x y : Nat) : decide (cmpN x y < 0) = decide (x < y) := by
  unfold cmpN
  by_cases h : x = y
  · simp [h]
  · by_cases h2 : x < y <;> simp [h, h2]

theorem cmpN_ge (x y : Nat) : decide (0 ≤ cmpN x y) = decide (y ≤ x) := by
  unfold cmpN
  by_cases h : x = y
  · simp [h]
  · by_cases h2 : x < y
    · simp [h, h2]
    · simp [h, h2]; omega

set_option maxHeartbeats 1000000 in
set_option maxRecDepth 100000 in
theorem rdiv_some (X Y : List Nat) (hlx : X.length = 8) (hly : Y.length = 4) (hdx : Dig X) (hdy : Dig Y) (hne : (Y == [0, 0, 0, 0]) = false) (hm0 : 0 < val Y) (w : World) :
    Calls Try.prog 35 #[.agg (u64s X), .agg (u64s Y)] w fun e w' => e = .returned (.tuple #[A8 (val X / val Y), A4 (val X % val Y), .int .i64 0]) ∧ Below w.heap.size w w' := by
  have H := Lib.hid (rdv0_has X Y w)
  have heq := eql_zero Y hly
  rw [hne] at heq
  have Hm0 := Lib.hid hm0
  have Hne := Lib.hid hne
  clear hm0 hne
  go_enter Try.func35, Try.ntmps35
  go_upto_region 1 with fail
  rw [rdv0_eq]
  have hN := H.out.size
  have H1 := Lib.hid (show RDW w w.heap.size X Y [0, 0, 0, 0, 0, 0, 0, 0] [0, 0, 0, 0] (((rdv0 X Y w).alloc (.cells (u64s [0, 0, 0, 0, 0, 0, 0, 0]) 37)).alloc (.cells (u64s [0, 0, 0, 0]) 24)) from
    ⟨(H.out.below.alloc (by omega) _).alloc (by simp; omega) _, (H.out.x.alloc _).alloc _, (H.out.y.alloc _).alloc _, (H.out.q0.alloc _).alloc _, (H.out.r0.alloc _).alloc _, (Has.newAt _ 37 (by omega)).alloc _, Has.newAt _ 24 (by simp; omega)⟩)
  generalize rdv0 X Y w = W at *
  go_upto_region 5 with (first | (refine load4w rfl _ rfl _ rfl 24 Y H.out.y hly ?_) | (refine store8new rfl _ _ rfl rfl [0, 0, 0, 0, 0, 0, 0, 0] rfl rfl _ rfl ?_) | (refine store4new rfl _ _ rfl (by simp; rw [hN]; rfl) [0, 0, 0, 0] rfl rfl _ rfl ?_))
  have hVe : (W.alloc (.cells #[.int .u64 0, .int .u64 0, .int .u64 0, .int .u64 0, .int .u64 0, .int .u64 0, .int .u64 0, .int .u64 0] 37)).alloc (.cells (u64s [0, 0, 0, 0]) 24) = (W.alloc (.cells (u64s [0, 0, 0, 0, 0, 0, 0, 0]) 37)).alloc (.cells (u64s [0, 0, 0, 0]) 24) := rfl
  rw [hVe]
  clear hVe
  generalize (W.alloc (.cells (u64s [0, 0, 0, 0, 0, 0, 0, 0]) 37)).alloc (.cells (u64s [0, 0, 0, 0]) 24) = V at *
  have HS := Lib.hid (RDiv.start (X := X) hlx Hm0.out)
  clear H hN heq
  generalize hN : w.heap.size = N at *
  go_wp2
  go_loopw [9, 10, 11, 12, 13] (fun b i _ _ _ wr => ∃ (k : Nat) (Q : List Nat) (r : Nat) (b' : Bool), k ≤ 8 ∧ b = .bool b' ∧ i = .int .i64 ((k : Int) - 1) ∧ RDiv (val X) (val Y) k X Q r b' ∧ RDW w N X Y Q (digs 4 r) wr) (fun _ i _ _ _ _ => (intOf i + 1).toNat)
  case atStart => exact ⟨8, _, 0, false, by omega, rfl, rfl, HS.out, by have e : digs 4 0 = [0, 0, 0, 0] := rfl; rw [e]; exact H1.out⟩
  case round =>
    obtain ⟨k, Q, r, b, hk, rfl, rfl, hD, hW⟩ := hrel
    have HD := Lib.hid hD; have HW := Lib.hid hW
    clear hD hW HS H1
    cases k with
    | zero =>
      have hn1 : (((0 : Nat) : Int) - 1) = -1 := by omega
      rw [hn1]
      go_wp2
      have HQd := HW.out.q.drew; have HRd := HW.out.r.drew
      refine wp_region_ord (fun u => Has u (N + 4) 37 (u64s Q) ∧ Has u (N + 4 + 1) 24 (u64s (digs 4 r))) [(true, 0), (true, 1), (false, 2), (false, 3), (true, 4)] (by kernel_rfl) (by kernel_rfl) rfl (by kernel_rfl) ?_
      refine O_read rfl ⟨HQd, HRd⟩ (fun K' hK => ?_)
      refine R_load8s rfl _ rfl _ rfl 37 _ (fun _ h => h.1) HD.out.qlen ?_
      go_simp
      refine hK _ ?_
      clear hK K'
      refine O_read rfl ⟨HQd, HRd⟩ (fun K' hK => ?_)
      refine R_load4s rfl _ rfl _ rfl 24 _ (fun _ h => h.2) (digs_length 4 r) ?_
      go_simp
      refine hK _ ?_
      clear hK K'
      refine O_call rfl (fun K' hK => ?_)
      refine R_store8 rfl _ _ rfl (N + 1 + 1) rfl _ rfl 37 _ HW.out.q0.drew HD.out.qlen rfl ?_
      intro w4 hw4 ho4
      go_simp
      have HQ1 := HQd.only ho4 (by omega); have HR1 := HRd.only ho4 (by omega)
      refine hK _ _ ⟨HQ1, HR1⟩ ?_
      clear hK K'
      refine O_call rfl (fun K' hK => ?_)
      refine R_store4 rfl _ _ rfl (N + 1 + 1 + 1) rfl _ rfl 24 _ (HW.out.r0.drew.only ho4 (by omega)) (digs_length 4 r) rfl ?_
      intro w5 hw5 ho5
      go_simp
      have HQ2 := HQ1.only ho5 (by omega); have HR2 := HR1.only ho5 (by omega)
      refine hK _ _ ⟨HQ2, HR2⟩ ?_
      clear hK K'
      refine O_read rfl ⟨HQ2, HR2⟩ (fun K' hK => ?_); refine R_pure ?_ rfl (fun w => ?_) ?_; rotate_left; (focus (first | (go_simp; rfl) | (go_simp; done))); go_simp; refine hK _ ?_; clear hK K'
      refine O_nil ?_
      go_wp2
      refine bodyPost_ret (res84t rfl rfl rfl (hw4.only ho5 (by omega)) HD.out.qlen hw5 (digs_length 4 r)) rfl ⟨?_, by rw [hN]; exact ho5.below (ho4.below HW.out.below.drew (by omega)) (by omega)⟩
      obtain ⟨a1, a2⟩ := HD.out.result
      have b1 := eq_digs HD.out.qlen HD.out.qdig
      rw [a1] at b1
      rw [b1, a2]
      rfl
    | succ j =>
      have hi1 : (((j + 1 : Nat) : Int) - 1) = (j : Int) := by omega
      have hj8 : (j : Int) < 8 := by omega
      rw [hi1]
      go_upto_region 9 with fail
      go_cut [35] from 25 to 34 (fun v wx => v = .bool (!b && decide (nth X j < val Y)) ∧ Kp wr wx)
      case first =>
        have q0 : Kp wr wr.drew := Kp.start wr
        cases b with
        | true =>
          refine wp_region_ord (Kp wr) [(true, 0), (true, 1), (true, 2), (true, 3), (true, 4), (true, 5), (true, 6), (true, 7), (false, 8), (true, 9), (true, 10)] (by kernel_rfl) (by kernel_rfl) rfl (by kernel_rfl) ?_
          repeat (first | (refine O_read rfl (by assumption) (fun K' hK => ?_); refine R_pure ?_ rfl (fun w => ?_) ?_; rotate_left; (focus (first | (go_simp; rfl) | (go_simp; done))); go_simp; refine hK _ ?_; clear hK K') | (refine O_read rfl (by assumption) (fun K' hK => ?_); refine R_skip rfl ?_; go_simp; refine hK _ ?_; clear hK K') | (refine O_call rfl (fun K' hK => ?_); refine R_callskip rfl ?_; go_simp; refine hK _ _ q0 ?_; clear hK K'))
          refine O_nil ?_
          go_wp2
          go_meet
          exact ⟨rfl, q0⟩
        | false =>
          refine wp_region_ord (Kp wr) [(true, 0), (true, 1), (true, 2), (true, 3), (true, 4), (true, 5), (true, 6), (true, 7), (false, 8), (true, 9), (true, 10)] (by kernel_rfl) (by kernel_rfl) rfl (by kernel_rfl) ?_
          repeat (first | (refine O_read rfl (by assumption) (fun K' hK => ?_); refine R_load4 rfl _ rfl _ rfl 24 _ HW.out.y hly ?_; go_simp; refine hK _ ?_; clear hK K') | (refine O_read rfl (by assumption) (fun K' hK => ?_); refine R_read (.int .u64 ((nth X j : Nat) : Int)) rfl (fun w hS => ?_) ?_; (focus (have hc := (HW.out.x.below hS HW.out.x.lt).cell (k := j) (by omega); go_simp; done)); go_simp; refine hK _ ?_; clear hK K') | (refine O_read rfl (by assumption) (fun K' hK => ?_); refine R_pure ?_ rfl (fun w => ?_) ?_; rotate_left; (focus (first | (go_simp; rfl) | (go_simp; done))); go_simp; refine hK _ ?_; clear hK K'))
          refine O_call rfl (fun K' hK => ?_)
          refine R_callc 26 #[.agg (u64s [nth X j, 0, 0, 0]), .agg (u64s Y)] rfl (fun w => ?_) (rcmp_core [nth X j, 0, 0, 0] Y rfl hly (Dig.cons (hdx.get j) (by simp [Dig, B])) hdy _) ?_
          · go_simp; rfl
          rintro e w1 ⟨rfl, hb1⟩
          have q1 : Kp wr w1 := bcall q0 hb1 (q0).size
          refine ⟨_, rfl, hK _ _ q1 ?_⟩
          clear hK K'
          go_simp
          have hcl := cmpN_lt (val [nth X j, 0, 0, 0]) (val Y)
          rw [show val [nth X j, 0, 0, 0] = nth X j by simp [val]] at *
          generalize cmpN (nth X j) (val Y) = c0 at *
          repeat (refine O_read rfl (by assumption) (fun K' hK => ?_); refine R_pure ?_ rfl (fun w => ?_) ?_; rotate_left; (focus (first | (go_simp; rfl) | (go_simp; done))); go_simp; refine hK _ ?_; clear hK K')
          refine O_nil ?_
          go_wp2
          go_meet
          exact ⟨rfl, q1⟩
      case rest =>
        obtain ⟨rfl, hk1⟩ := hcut
        have HW1 := Lib.hid (HW.out.keep hk1)
        clear HW hk1
        by_cases hs : (!b && decide (nth X j < val Y)) = true
        · rw [hs]
          simp only [Bool.and_eq_true, Bool.not_eq_true', decide_eq_true_eq] at hs
          obtain ⟨rfl, hx⟩ := hs
          have HS := Lib.hid (HD.out.small (by omega) hx)
          have hc1 := HW1.out.x.cell (k := j) (by omega)
          have hd0 : digs 4 (nth X j) = [nth X j, 0, 0, 0] := by
            have h1 := eq_digs (L := [nth X j, 0, 0, 0]) (k := 4) rfl (Dig.cons (hdx.get j) (by simp [Dig, B]))
            rw [show val [nth X j, 0, 0, 0] = nth X j by simp [val]] at h1
            exact h1.symm
          have Hd0 := Lib.hid hd0
          clear hx hd0
          go_wp2_with (first | (refine store4 rfl _ _ rfl (N + 4 + 1) rfl [nth X j, 0, 0, 0] rfl 24 _ HW1.out.r rfl (digs_length 4 r) ?_; intro w2 hw2 ho2; have hc2 := (HW1.out.turnR ho2 hw2).x.cell (k := j) (by omega); have HW2 := Lib.hid (HW1.out.turnR ho2 hw2)))
          exact ⟨⟨j, Q, nth X j, decide (0 < nth X j), by omega, rfl, rfl, HS.out, by rw [Hd0.out]; exact HW2.out⟩, by simp [intOf]⟩
        · have hsf : (!b && decide (nth X j < val Y)) = false := by simpa using hs
          rw [hsf]
          have HB := Lib.hid (HD.out.bits hdx (by omega))
          clear hs hsf HD
          go_wp2
          go_loopw [11, 12, 13] (fun tp _ _ wr2 => ∃ (c : Nat) (Q : List Nat) (r : Nat), tp = .int .u64 ((2 ^ c / 2 : Nat) : Int) ∧ RBit (val X) (val Y) j c X Q r ∧ RDW w N X Y Q (digs 4 r) wr2) (fun tp _ _ _ => (intOf tp).toNat)
          case atStart => exact ⟨64, Q, r, rfl, HB.out, HW1.out⟩
          case round =>
            obtain ⟨c, Q, r, rfl, hB, hW⟩ := hrel
            have HB2 := Lib.hid hB; have HW := Lib.hid hW
            clear hB hW HB HW1
            cases c with
            | zero =>
              have hz : ((2 ^ 0 / 2 : Nat) : Int) = 0 := rfl
              rw [hz]
              have HE := Lib.hid HB2.out.done
              go_wp2
              exact ⟨⟨j, Q, r, true, by omega, rfl, rfl, HE.out, HW.out⟩, by simp [intOf]⟩
            | succ d =>
              have hz : 2 ^ (d + 1) / 2 = 2 ^ d := by rw [Nat.pow_succ, Nat.mul_div_cancel _ (by decide)]
              rw [hz]
              have hd64 : d < 64 := by have := HB2.out.cle; omega
              have hpos : 0 < 2 ^ d := Nat.two_pow_pos d
              have hbit := and_bit (hdx.get j) hd64
              have hrm : r < B ^ 4 := by
                have h1 := val_lt hdy
                rw [hly] at h1
                exact Nat.lt_trans HB2.out.low h1
              have hmB : val Y < B ^ 4 := by have h1 := val_lt hdy; rw [hly] at h1; exact h1
              have hadd := Lib.hid (radd_any r r hrm hrm)
              have Htw := Lib.hid (twice_step (bit := nth X j / 2 ^ d % 2) hmB HB2.out.low (by have : nth X j / 2 ^ d % 2 < 2 := Nat.mod_lt _ (by decide); omega))
              have Hpd : Hid (2 ^ d / 2 < 2 ^ d) := Lib.hid (Nat.div_lt_self hpos (by decide))
              have hdv : IntKind.u64.wrap (((2 ^ d : Nat) : Int) / 2) = ((2 ^ d / 2 : Nat) : Int) := wrap_ud (2 ^ d) 2 (show 2 ^ d < 2 ^ 64 from Nat.pow_lt_pow_right (by decide) hd64)
              have HB3 := Lib.hid (And.intro (fun h => HB2.out.stay h) (And.intro HB2.out.room (fun h => HB2.out.strike (by omega) h)))
              generalize hp2 : 2 ^ d = p at *
              have Hp2 := Lib.hid hp2
              clear hp2
              have hd1 : decide ((0 : Int) < ((p : Nat) : Int)) = true := by simp only [decide_eq_true_eq]; omega
              clear hz
              have hbl : nth X j / p % 2 ≤ 1 := by have : nth X j / p % 2 < 2 := Nat.mod_lt _ (by decide); omega
              generalize nth X j / p % 2 = bt at *
              have HZ : Hid (bt * p = 0 ↔ bt = 0) := Lib.hid (by rw [Nat.mul_eq_zero]; omega)
              generalize bt * p = z at *
              generalize (r + r) % B ^ 4 = e at *
              go_upto_region 16 with (first | (refine store4new rfl _ _ rfl rfl (digs 4 e) rfl (digs_length _ _) _ rfl ?_) | (refine load4w rfl _ rfl _ rfl 24 (digs 4 r) HW.out.r (digs_length 4 r) ?_) | (go_at_call 22; refine (hadd.out _).mono ?_; rintro e' w3 ⟨rfl, hb3⟩))
              have HT := Lib.hid (Has.new w3 (u64s (digs 4 e)) 24)
              have HW3 := Lib.hid ((HW.out.keep hb3).alloc (.cells (u64s (digs 4 e)) 24))
              have hgt : N + 4 + 1 < w3.heap.size := by have := HW.out.r.lt; have := hb3.size; omega
              clear hadd HW hb3
              generalize w3.alloc (.cells (u64s (digs 4 e)) 24) = V3 at *
              generalize w3.heap.size = gt at *
              have hcx := HW3.out.x.cell (k := j) (by omega)
              go_upto_if 57 with fail
              go_cut [11] from 58 to 61 (fun tp wx => tp = .int .u64 ((p : Nat) : Int) ∧ Has wx gt 24 (u64s (digs 4 (e + bt))) ∧ RDW w N X Y Q (digs 4 r) wx)
              case first =>
                by_cases hz : z = 0
                · have hb0 : bt = 0 := HZ.out.1 hz
                  have hzi : (((z : Nat) : Int) == 0) = true := by simp [hz]
                  clear hz
                  go_wp2
                  go_meet
                  exact ⟨rfl, by rw [hb0, Nat.add_zero]; exact HT.out, HW3.out⟩
                · have hb0 : bt ≠ 0 := fun h => hz (HZ.out.2 h)
                  have hb1 : bt = 1 := by omega
                  have hzi : (((z : Nat) : Int) == 0) = false := by simp; omega
                  have hct := HT.out.cell (k := 0) (by rw [digs_length]; omega)
                  have hcf := HT.out.free 0
                  have hwa : IntKind.u64.wrap (((nth (digs 4 e) 0 : Nat) : Int) + 1) = ((uadd (nth (digs 4 e) 0) 1 : Nat) : Int) := wrap_add _ 1
                  have HTs := Lib.hid (HT.out.set 0 (uadd (nth (digs 4 e) 0) 1))
                  have HWs := Lib.hid (HW3.out.past hgt 0 (.int .u64 ((uadd (nth (digs 4 e) 0) 1 : Nat) : Int)))
                  clear hz
                  go_wp2
                  go_meet
                  refine ⟨rfl, ?_, HWs.out⟩
                  have h1 := HTs.out
                  rw [Htw.out.1] at h1
                  rw [hb1]
                  exact h1
              case rest =>
                obtain ⟨rfl, hT2, hW4⟩ := hcut
                have HT2 := Lib.hid hT2; have HW4 := Lib.hid hW4
                clear hT2 hW4 HT HW3 hcx
                have Hlt := Lib.hid Htw.out.2.1
                go_upto_region 19 with (first | (refine load4w rfl _ rfl _ rfl 24 (digs 4 (e + bt)) HT2.out (digs_length _ _) ?_) | (refine store4 rfl _ _ rfl (N + 4 + 1) rfl (digs 4 (e + bt)) rfl 24 _ HW4.out.r (digs_length _ _) (digs_length _ _) ?_; intro w5 hw5 ho5))
                have HW5 := Lib.hid (HW4.out.turnR ho5 hw5)
                clear HW4 HT2 hw5 ho5
                have hsub := rsub_any (e + bt) (val Y) Hlt.out hmB
                have hY4 := eq_digs hly hdy
                unfold A4 at hsub
                rw [← hY4] at hsub
                have Hsub := Lib.hid hsub
                have hcmp := rcmp_core (digs 4 (e + bt)) Y (digs_length _ _) hly (digs_dig _ _) hdy
                rw [val_digs_lt Hlt.out] at hcmp
                have Hcmp := Lib.hid hcmp
                have hcge := cmpN_ge (e + bt) (val Y)
                clear hsub hY4 hcmp
                generalize e + bt = tw at *
                have Hstr : Hid ((decide (B ^ 4 ≤ r + r) || decide (val Y ≤ tw)) = decide (val Y ≤ 2 * r + bt)) := Lib.hid (by rw [← Bool.decide_or]; exact decide_eq_decide.2 Htw.out.2.2.1)
                generalize decide (B ^ 4 ≤ r + r) = ov at *
                generalize cmpN tw (val Y) = c0 at *
                go_simp
                go_cut [69] from 63 to 68 (fun v wx => v = .bool (ov || decide (val Y ≤ tw)) ∧ RDW w N X Y Q (digs 4 tw) wx)
                case first =>
                  cases ov with
                  | true =>
                    go_wp2
                    go_meet
                    exact ⟨rfl, HW5.out⟩
                  | false =>
                    go_wp2_with (first | (refine load4w rfl _ rfl _ rfl 24 (digs 4 tw) HW5.out.r (digs_length _ _) ?_) | (refine load4w rfl _ rfl _ rfl 24 Y HW5.out.y hly ?_) | (go_at_call 26; refine (Hcmp.out _).mono ?_; rintro e' w6 ⟨rfl, hb6⟩))
                    go_meet
                    exact ⟨rfl, HW5.out.keep hb6⟩
                case rest =>
                  obtain ⟨rfl, hW6⟩ := hcut
                  have HW6 := Lib.hid hW6
                  clear hW6 HW5 Hcmp hcge
                  by_cases hst : val Y ≤ 2 * r + bt
                  · have hse : (ov || decide (val Y ≤ tw)) = true := by rw [Hstr.out]; exact decide_eq_true hst
                    rw [hse]
                    have HE := Lib.hid (HB3.out.2.2 hst)
                    have Hr2 := Lib.hid (Htw.out.2.2.2.1 hst)
                    have hwq := wrap_add (nth Q j) p
                    clear hst hse
                    go_wp2_with (first | (refine load4w rfl _ rfl _ rfl 24 (digs 4 tw) HW6.out.r (digs_length _ _) ?_) | (refine load4w rfl _ rfl _ rfl 24 Y HW6.out.y hly ?_) | (go_at_call 24; refine (Hsub.out _).mono ?_; rintro e' w7 ⟨rfl, hb7⟩) | (refine store4 rfl _ _ rfl (N + 4 + 1) rfl (digs 4 ((tw + B ^ 4 - val Y) % B ^ 4)) rfl 24 _ (HW6.out.keep hb7).r (digs_length _ _) (digs_length _ _) ?_; intro w8 hw8 ho8; have HW8 := Lib.hid ((HW6.out.keep hb7).turnR ho8 hw8); have hcq := HW8.out.q.cell (k := j) (by have := HB2.out.qlen; omega); have hcf := HW8.out.q.free j))
                    refine ⟨⟨d, Q.set j (uadd (nth Q j) p), 2 * r + bt - val Y, by rw [Hp2.out]; simp, HE.out, ?_⟩, by have := Hpd.out; simp only [intOf]; omega⟩
                    have h9 := HW8.out.setQ j (uadd (nth Q j) p)
                    rw [Hr2.out] at h9
                    exact h9
                  · have hse : (ov || decide (val Y ≤ tw)) = false := by rw [Hstr.out]; exact decide_eq_false hst
                    rw [hse]
                    have HE := Lib.hid (HB3.out.1 (by omega))
                    have Hr2 := Lib.hid (Htw.out.2.2.2.2 (by omega))
                    clear hst hse
                    go_wp2
                    refine ⟨⟨d, Q, 2 * r + bt, by rw [Hp2.out]; simp, HE.out, ?_⟩, by have := Hpd.out; simp only [intOf]; omega⟩
                    rw [← Hr2.out]
                    exact HW6.out
end Go.Proofs.Ytbklepgbieohiaa
