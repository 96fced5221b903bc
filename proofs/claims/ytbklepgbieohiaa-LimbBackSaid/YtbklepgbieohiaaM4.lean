/- The walk of ref.Mul. -/
import Derived.Test.YtbklepgbieohiaaM3
namespace Go.Proofs.Ytbklepgbieohiaa
open Go.RowKit

theorem nth_zeros (n q : Nat) : nth (List.replicate n 0) q = 0 := by
  unfold nth
  rw [List.getD_eq_getElem?_getD, List.getElem?_replicate]
  split <;> rfl

set_option maxHeartbeats 1000000 in
set_option maxRecDepth 100000 in
theorem rmul_core (X Y R : List Nat) (hlx : X.length = 4) (hly : Y.length = 4) (hdx : Dig X) (hdy : Dig Y)
    (HF : Hid (∀ A, RMulOut (halves X) (halves Y) 8 A → (List.range 8).map (half2 (A.take 16)) = R)) (w : World) :
    Calls Try.prog 37 #[.agg (u64s X), .agg (u64s Y)] w fun e w' => e = .returned (.agg (u64s R)) ∧ Below w.heap.size w w' := by
  have hX := Lib.hid ((Has.new w (u64s X) 24).alloc (.cells (u64s Y) 24))
  have hY := Lib.hid (Has.newAt (w := w.alloc (.cells (u64s X) 24)) (u64s Y) 24 (n := w.heap.size + 1) (by simp))
  have b0 := Lib.hid (((Below.refl w.heap.size w).alloc (Nat.le_refl _) (.cells (u64s X) 24)).alloc (by simp) (.cells (u64s Y) 24))
  have hlX8 := Lib.hid (show (halves X).length = 8 by rw [halves_length, hlx])
  have hlY8 := Lib.hid (show (halves Y).length = 8 by rw [halves_length, hly])
  have hmk : ∀ w, (Instr.makeSlice 53 (.int .i64 17) (.int .i64 17)).run Try.prog w = .ok (.slice (some ⟨w.heap.size, 0, none⟩) 17 17) (w.alloc (.cells (u64s ([0, 0, 0, 0, 0, 0, 0, 0, 0, 0, 0, 0, 0, 0, 0, 0, 0])) 22)) := make53 17 (by omega)
  go_enter Try.func37, Try.ntmps37
  go_wp2
  have hX1 := Lib.hid (hX.out.alloc (.cells (u64s [0, 0, 0, 0, 0, 0, 0, 0]) 37))
  have hY1 := Lib.hid (hY.out.alloc (.cells (u64s [0, 0, 0, 0, 0, 0, 0, 0]) 37))
  have b1 := Lib.hid (b0.out.alloc (by simp; omega) (.cells (u64s [0, 0, 0, 0, 0, 0, 0, 0]) 37))
  have hZ1 := Lib.hid (Has.newAt (w := (w.alloc (.cells (u64s X) 24)).alloc (.cells (u64s Y) 24)) (u64s [0, 0, 0, 0, 0, 0, 0, 0]) 37 (n := w.heap.size + 1 + 1) (by simp))
  have hsz := Lib.hid (show (((w.alloc (.cells (u64s X) 24)).alloc (.cells (u64s Y) 24)).alloc (.cells (u64s [0, 0, 0, 0, 0, 0, 0, 0]) 37)).heap.size = w.heap.size + 1 + 1 + 1 by simp)
  have z8 : (#[Value.int .u64 0, .int .u64 0, .int .u64 0, .int .u64 0, .int .u64 0, .int .u64 0, .int .u64 0, .int .u64 0] : Array Value) = u64s [0, 0, 0, 0, 0, 0, 0, 0] := rfl
  rw [z8]
  generalize ((w.alloc (.cells (u64s X) 24)).alloc (.cells (u64s Y) 24)).alloc (.cells (u64s [0, 0, 0, 0, 0, 0, 0, 0]) 37) = W at *
  have k0 : Kp W W.drew := Kp.start W
  refine wp_region_ord (Kp W) [(true, 0), (true, 2), (false, 1), (false, 3), (true, 4), (true, 5)] (by kernel_rfl) (by kernel_rfl) rfl (by kernel_rfl) ?_
  repeat (refine O_read rfl (by assumption) (fun K' hK => ?_); refine R_pure ?_ rfl (fun w => ?_) ?_; rotate_left; (focus (first | (go_simp; rfl) | (go_simp; done))); go_simp; refine hK _ ?_; clear hK K')
  refine O_call rfl (fun K' hK => ?_)
  refine R_callc 41 _ rfl (fun w => ?_) (digits_any X _ 0 4 4 hlx (by omega) (by omega) hdx _ ((hX1.out.below k0 hX1.out.lt).seg) (hX1.out.below k0 hX1.out.lt).lt) ?_
  · go_simp; done
  rintro e w1 ⟨v1, rfl, o1, hb⟩
  have k1 : Kp W w1 := bcall k0 hb (k0).size
  refine ⟨_, rfl, hK _ _ k1 ?_⟩
  clear hK K'
  go_simp
  repeat (refine O_read rfl (by assumption) (fun K' hK => ?_); refine R_pure ?_ rfl (fun w => ?_) ?_; rotate_left; (focus (first | (go_simp; rfl) | (go_simp; done))); go_simp; refine hK _ ?_; clear hK K')
  refine O_call rfl (fun K' hK => ?_)
  refine R_callc 41 _ rfl (fun w => ?_) (digits_any Y _ 0 4 4 hly (by omega) (by omega) hdy _ ((hY1.out.below k1 hY1.out.lt).seg) (hY1.out.below k1 hY1.out.lt).lt) ?_
  · go_simp; done
  rintro e w2 ⟨v2, rfl, o2, hb⟩
  have k2 : Kp W w2 := bcall k1 hb (k1).size
  refine ⟨_, rfl, hK _ _ k2 ?_⟩
  clear hK K'
  go_simp
  have hb2 := hb
  rcases o1.form with ⟨_, h⟩ | ⟨g1, c1, rfl, hg1, hg1', hc1, _, hs1, _⟩
  · have h8 := hlX8.out; rw [h] at h8; simp at h8
  rcases o2.form with ⟨_, h⟩ | ⟨g2, c2, rfl, hg2, hg2', hc2, _, hs2, _⟩
  · have h8 := hlY8.out; rw [h] at h8; simp at h8
  rw [hlX8.out, hlY8.out]
  have hd := hsz.out
  have hw1 := k1.size
  have hw2 := hb2.size
  simp at hg1
  have HS1 := Lib.hid ((hs1.below hb2 hg1').alloc (.cells (u64s ([0, 0, 0, 0, 0, 0, 0, 0, 0, 0, 0, 0, 0, 0, 0, 0, 0])) 22))
  have HS2 := Lib.hid (hs2.alloc (.cells (u64s ([0, 0, 0, 0, 0, 0, 0, 0, 0, 0, 0, 0, 0, 0, 0, 0, 0])) 22))
  have HZ2 := Lib.hid ((hZ1.out.below k2 hZ1.out.lt).alloc (.cells (u64s ([0, 0, 0, 0, 0, 0, 0, 0, 0, 0, 0, 0, 0, 0, 0, 0, 0])) 22))
  have HO2 := Lib.hid (Has.new w2 (u64s ([0, 0, 0, 0, 0, 0, 0, 0, 0, 0, 0, 0, 0, 0, 0, 0, 0])) 22)
  have Hb2 := Lib.hid ((bcall b1.out k2 (by omega)).alloc (by omega) (.cells (u64s ([0, 0, 0, 0, 0, 0, 0, 0, 0, 0, 0, 0, 0, 0, 0, 0, 0])) 22))
  have hG3 : w.heap.size + 1 + 1 + 1 ≤ w2.heap.size := by omega
  have hn1 : g1 ≠ w2.heap.size := by omega
  have hn2 : g2 ≠ w2.heap.size := by omega
  clear hs1 hs2 o1 o2 hg1 hg1' hg2 hg2' hw1 hw2 hd hb hb2 hX1 hY1 hZ1 hX hY b0 b1 hsz
  repeat (refine O_read rfl (by assumption) (fun K' hK => ?_); refine R_pure ?_ rfl (fun w => ?_) ?_; rotate_left; (focus (first | (go_simp; rfl) | (go_simp; done))); go_simp; refine hK _ ?_; clear hK K')
  refine O_nil ?_
  go_wp2
  generalize hg3 : w2.heap.size = g3 at *
  generalize hW2 : w2.alloc (.cells (u64s ([0, 0, 0, 0, 0, 0, 0, 0, 0, 0, 0, 0, 0, 0, 0, 0, 0])) 22) = W2 at *
  clear hg3 hmk hW2
  have hb3 : w.heap.size ≤ g3 := by omega
  go_loopw [8] (fun i wr => ∃ (k : Nat) (A : List Nat), k ≤ 8 ∧ RMulOut (halves X) (halves Y) k A ∧ i = .int .i64 k ∧ Below w.heap.size w wr ∧ Seg wr g1 0 (halves X) ∧ Seg wr g2 0 (halves Y) ∧ Has wr (w.heap.size + 1 + 1) 37 (u64s [0, 0, 0, 0, 0, 0, 0, 0]) ∧ Has wr g3 22 (u64s A)) (fun i _ => 8 - (intOf i).toNat)
  case atStart =>
    have hz17 : ∀ q, nth [0, 0, 0, 0, 0, 0, 0, 0, 0, 0, 0, 0, 0, 0, 0, 0, 0] q = 0 := nth_zeros 17
    exact ⟨0, [0, 0, 0, 0, 0, 0, 0, 0, 0, 0, 0, 0, 0, 0, 0, 0, 0], by omega, ⟨rfl, fun q => by rw [hz17]; decide, by simp [vq], fun q _ => hz17 q⟩, rfl, Hb2.out, HS1.out, HS2.out, HZ2.out, HO2.out⟩
  case round =>
    obtain ⟨k, A, hk, hM, rfl, hbel, hX, hY, hZ, hA⟩ := hrel
    have HX := Lib.hid hX; have HY := Lib.hid hY; have HZ := Lib.hid hZ; have HA := Lib.hid hA; have HM := Lib.hid hM; have Hb := Lib.hid hbel
    clear hX hY hZ hA hM hbel HS1 HS2 HZ2 HO2 Hb2
    by_cases hlt : k < 8
    · have hdk : decide ((k : Int) < 8) = true := by simp; omega
      go_wp2
      go_loopw [9, 10] (fun c j wr => ∃ (j' c' : Nat) (A : List Nat), j' ≤ 8 ∧ RMulIn (halves X) (halves Y) k j' c' A ∧ j = .int .i64 j' ∧ c = .int .u64 c' ∧ Below w.heap.size w wr ∧ Seg wr g1 0 (halves X) ∧ Seg wr g2 0 (halves Y) ∧ Has wr (w.heap.size + 1 + 1) 37 (u64s [0, 0, 0, 0, 0, 0, 0, 0]) ∧ Has wr g3 22 (u64s A)) (fun _ j _ => 8 - (intOf j).toNat)
      case atStart => exact ⟨0, 0, A, by omega, HM.out.start, rfl, rfl, Hb.out, HX.out, HY.out, HZ.out, HA.out⟩
      case round =>
        obtain ⟨j, c, A2, hj, hI, rfl, rfl, hbel, hX, hY, hZ, hA⟩ := hrel
        have HX2 := Lib.hid hX; have HY2 := Lib.hid hY; have HZ2 := Lib.hid hZ; have HA2 := Lib.hid hA; have HI := Lib.hid hI; have Hb3 := Lib.hid hbel
        clear hX hY hZ hA hI hbel
        by_cases hlt2 : j < 8
        · have hdj : decide ((j : Int) < 8) = true := by simp; omega
          have hk8 : (k : Int) < 8 := by omega
          have hj8 : (j : Int) < 8 := by omega
          have hkj : (k : Int) + (j : Int) < 17 := by omega
          have hst := rmul_step (halves_dig hdx k) (halves_dig hdy j) (HI.out.dig (k + j)) HI.out.car
          have c1' := HX2.out.at (j := k) (by rw [hlX8.out]; omega)
          have c2' := HY2.out.at (j := j) (by rw [hlY8.out]; omega)
          have c3' := HA2.out.cell (k := k + j) (by rw [HI.out.len]; omega)
          have hfr := HA2.out.free (k + j)
          have e1 := wrap_mul (nth (halves X) k) (nth (halves Y) j)
          have e2 := wrap_add (nth A2 (k + j)) (umul (nth (halves X) k) (nth (halves Y) j))
          have e3 := wrap_add (uadd (nth A2 (k + j)) (umul (nth (halves X) k) (nth (halves Y) j))) c
          have hT : uadd (uadd (nth A2 (k + j)) (umul (nth (halves X) k) (nth (halves Y) j))) c = nth A2 (k + j) + nth (halves X) k * nth (halves Y) j + c := by rw [hst.1, hst.2.1, hst.2.2.1]
          have hstep := Lib.hid (HI.out.step hlt2 hlt hlY8.out hst.2.2.2.1 hst.2.2.2.2.1 hst.2.2.2.2.2)
          rw [← hT] at hstep
          have hTb : uadd (uadd (nth A2 (k + j)) (umul (nth (halves X) k) (nth (halves Y) j))) c < B := uadd_lt _ _
          clear hst hT
          generalize hTT : uadd (uadd (nth A2 (k + j)) (umul (nth (halves X) k) (nth (halves Y) j))) c = t at *
          have hr : ((t : Nat) : Int).tmod 4294967296 = ((um t 4294967296 : Nat) : Int) := tmod_um t 4294967296
          have hq : IntKind.u64.wrap (((t : Nat) : Int) / 4294967296) = ((ud t 4294967296 : Nat) : Int) := wrap_ud t 4294967296 hTb
          clear hTT
          go_wp2
          go_region
          go_wp2
          exact ⟨⟨j + 1, ud t 4294967296, A2.set (k + j) (um t 4294967296), by omega, hstep.out, by go_num, rfl, (Hb3.out.setCell (by simp <;> omega) _).drew, (HX2.out.other (by simp <;> omega) _).drew, (HY2.out.other (by simp <;> omega) _).drew, (HZ2.out.other (by simp <;> omega) _).drew, (HA2.out.set (k + j) _).drew⟩, by simp [intOf]; omega⟩
        · obtain rfl : j = 8 := by omega
          have hk17 : (k : Int) + 8 < 17 := by omega
          have c3' := HA2.out.cell (k := k + 8) (by rw [HI.out.len]; omega)
          have hfr := HA2.out.free (k + 8)
          have hdn := Lib.hid (HI.out.done hlt hlX8.out hlY8.out)
          go_wp2
          exact ⟨⟨k + 1, A2.set (k + 8) c, by omega, hdn.out, by go_num, Hb3.out.setCell (by simp <;> omega) _, HX2.out.other (by simp <;> omega) _, HY2.out.other (by simp <;> omega) _, HZ2.out.other (by simp <;> omega) _, HA2.out.set (k + 8) c⟩, by simp [intOf]; omega⟩
    · obtain rfl : k = 8 := by omega
      have hl16 : (A.take 16).length = 16 := by rw [List.length_take, HM.out.len]; rfl
      have hseg : Seg wr g3 0 (A.take 16) := fun q hq => by
        rw [hl16] at hq
        have := HA.out.cell (k := q) (by rw [HM.out.len]; omega)
        rw [Nat.zero_add, this]
        congr 3
        simp [nth, hq]
      have hwd := Lib.hid (wide_any (A.take 16) g3 0 16 17 hl16 (by omega) (by omega) (by omega) wr hseg HA.out.lt)
      have hR := HF.out A HM.out
      rw [hR] at hwd
      have hlR : R.length = 8 := by rw [← hR]; simp
      go_wp2_with (first | (go_at_call 45; refine hwd.out.mono ?_; rintro e w5 ⟨rfl, hb5⟩; have HZ5 := Lib.hid (HZ.out.below hb5 HZ.out.lt); have Hb5 := Lib.hid (bcall Hb.out hb5 Hb.out.size)) | (refine store8 rfl _ _ rfl (w.heap.size + 1 + 1) rfl R rfl 37 _ HZ5.out hlR rfl ?_; intro w6 hw6 ho6))
      exact bodyPost_ret (res8 rfl rfl hw6 hlR) rfl ⟨rfl, ho6.below Hb5.out (by omega)⟩
theorem mul_any (x y : Nat) (hx : x < B ^ 4) (hy : y < B ^ 4) (w : World) :
    Calls Try.prog 36 #[A4 x, A4 y] w fun e w' => e = .returned (A8 (x * y)) ∧ Below w.heap.size w w' := by
  have h := mul_core _ _ (digs_length 4 x) (digs_length 4 y) (digs_dig 4 x) (digs_dig 4 y) w
  rw [val_digs_lt hx, val_digs_lt hy] at h
  exact h

theorem rmul_any (x y : Nat) (hx : x < B ^ 4) (hy : y < B ^ 4) (w : World) :
    Calls Try.prog 37 #[A4 x, A4 y] w fun e w' => e = .returned (A8 (x * y)) ∧ Below w.heap.size w w' := by
  refine rmul_core _ _ _ (digs_length 4 x) (digs_length 4 y) (digs_dig 4 x) (digs_dig 4 y) (Lib.hid fun A hA => ?_) w
  refine hA.result (by rw [halves_length, digs_length]) (by rw [vq_halves, val_digs_lt hx]) (by rw [vq_halves, val_digs_lt hy]) ?_
  rw [show (8 : Nat) = 4 + 4 from rfl, Nat.pow_add]
  exact Nat.mul_lt_mul'' hx hy
end Go.Proofs.Ytbklepgbieohiaa
