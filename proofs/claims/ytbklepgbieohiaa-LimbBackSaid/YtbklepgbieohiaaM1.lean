/- The walk of limb.Mul: digit by digit. -/
import Derived.Test.YtbklepgbieohiaaA3
import Derived.Test.YtbklepgbieohiaaY
import Derived.Test.YtbklepgbieohiaaShelf
import Derived.Test.YtbklepgbieohiaaS
namespace Go.Proofs.Ytbklepgbieohiaa
open Go.RowKit

/-- The upper and the lower half of a product. -/
def mH (x y : Nat) : Nat := x * y / B
def mL (x y : Nat) : Nat := x * y % B

theorem mul64 (x y : Nat) (hx : x < B) (hy : y < B) (w : World) :
    Calls Try.prog 53 #[.int .u64 x, .int .u64 y] w fun e w' => e = .returned (.tuple #[.int .u64 ((mH x y : Nat) : Int), .int .u64 ((mL x y : Nat) : Int)]) ∧ w' = w := Try.bits_Mul64 x y hx hy w

theorem mulH_le {x y : Nat} (hx : x < B) (hy : y < B) : mH x y + 2 ≤ B := by
  unfold mH
  have h1 : x * y ≤ (B - 1) * (B - 1) := Nat.mul_le_mul (by omega) (by omega)
  have h2 : x * y / B ≤ (B - 1) * (B - 1) / B := Nat.div_le_div_right h1
  have h3 : (B - 1) * (B - 1) / B = B - 2 := by decide
  have h4 : 2 ≤ B := by decide
  omega

/-- One step of a product: the low half and two carries. -/
theorem mul_step {x y u c : Nat} (hx : x < B) (hy : y < B) (hu : u < B) (hc : c < B) :
    let l1 := aD (mL x y) u 0; let c1 := aB (mL x y) u 0; let l2 := aD l1 c 0; let c2 := aB l1 c 0
    c1 ≤ 1 ∧ c2 ≤ 1 ∧ l1 < B ∧ l2 < B ∧ mH x y + c1 < B ∧ mH x y + c1 + c2 < B ∧ l2 + B * (mH x y + c1 + c2) = x * y + u + c := by
  intro l1 c1 l2 c2
  obtain ⟨a1, a2, a3⟩ := add_step (x := mL x y) (y := u) (b := 0) (Nat.mod_lt _ B_pos) hu (by omega)
  obtain ⟨b1, b2, b3⟩ := add_step (x := l1) (y := c) (b := 0) a3 hc (by omega)
  have hh := mulH_le hx hy
  have hm : mL x y + B * mH x y = x * y := Nat.mod_add_div _ _
  have hle : x * y ≤ (B - 1) * (B - 1) := Nat.mul_le_mul (by omega) (by omega)
  have e1 : (B - 1) * (B - 1) + 2 * (B - 1) + 1 = B * B := by decide
  change l1 + c1 * B = mL x y + u + 0 at a1
  change l2 + c2 * B = l1 + c + 0 at b1
  have key : l2 + B * (mH x y + c1 + c2) = x * y + u + c := by
    rw [Nat.mul_add, Nat.mul_add, Nat.mul_comm B c1, Nat.mul_comm B c2]
    omega
  refine ⟨a2, b2, a3, b3, by omega, ?_, key⟩
  have : B * (mH x y + c1 + c2) < B * B := by omega
  exact Nat.lt_of_mul_lt_mul_left this

/-- The state of the inner loop. -/
structure MulIn (X Y : List Nat) (i j c : Nat) (A : List Nat) : Prop where
  len : A.length = 8
  dig : Dig A
  car : c < B
  eq : val A + B ^ (i + j) * c = val (X.take i) * val Y + B ^ i * nth X i * val (Y.take j)
  top : ∀ q, i + 4 ≤ q → nth A q = 0

structure MulOut (X Y : List Nat) (i : Nat) (A : List Nat) : Prop where
  len : A.length = 8
  dig : Dig A
  eq : val A = val (X.take i) * val Y
  top : ∀ q, i + 4 ≤ q → nth A q = 0

theorem MulOut.start {X Y A : List Nat} {i : Nat} (h : MulOut X Y i A) : MulIn X Y i 0 0 A :=
  ⟨h.len, h.dig, B_pos, by rw [h.eq]; simp [val], h.top⟩

theorem nth_set_ne {L : List Nat} {k q v : Nat} (h : q ≠ k) : nth (L.set k v) q = nth L q := by
  simp [nth, Ne.symm h]

theorem MulIn.step {X Y A : List Nat} {i j c c' v : Nat} (h : MulIn X Y i j c A) (hj : j < 4) (hi : i < 4) (hX : X.length = 4) (hY : Y.length = 4) (hv : v < B) (hc : c' < B)
    (hs : v + B * c' = nth X i * nth Y j + nth A (i + j) + c) : MulIn X Y i (j + 1) c' (A.set (i + j) v) := by
  refine ⟨by simp [h.len], h.dig.set _ hv, hc, ?_, fun q hq => by rw [nth_set_ne (by omega)]; exact h.top q hq⟩
  have h1 := val_set (L := A) (k := i + j) (by rw [h.len]; omega) v
  have h2 := h.eq
  have h3 : val (Y.take (j + 1)) = val (Y.take j) + B ^ j * nth Y j := val_take_succ (by omega)
  have h4 : B ^ (i + (j + 1)) * c' = B ^ (i + j) * (B * c') := by rw [← Nat.add_assoc, Nat.pow_succ, Nat.mul_assoc]
  have h5 : B ^ (i + j) * v + B ^ (i + j) * (B * c') = B ^ (i + j) * (nth X i * nth Y j) + B ^ (i + j) * nth A (i + j) + B ^ (i + j) * c := by
    rw [← Nat.mul_add, hs, Nat.mul_add, Nat.mul_add]
  have h6 : B ^ i * nth X i * (B ^ j * nth Y j) = B ^ (i + j) * (nth X i * nth Y j) := by
    rw [Nat.pow_add]; simp only [Nat.mul_assoc, Nat.mul_left_comm]
  rw [h3, Nat.mul_add, h6, h4]
  omega

theorem MulIn.done {X Y A : List Nat} {i c : Nat} (h : MulIn X Y i 4 c A) (hi : i < 4) (hX : X.length = 4) (hY : Y.length = 4) : MulOut X Y (i + 1) (A.set (i + 4) c) := by
  refine ⟨by simp [h.len], h.dig.set _ h.car, ?_, fun q hq => by rw [nth_set_ne (by omega)]; exact h.top q (by omega)⟩
  have h1 := val_set (L := A) (k := i + 4) (by rw [h.len]; omega) c
  rw [h.top (i + 4) (Nat.le_refl _)] at h1
  have h2 := h.eq
  have h3 : val (X.take (i + 1)) = val (X.take i) + B ^ i * nth X i := val_take_succ (by omega)
  rw [List.take_of_length_le (show Y.length ≤ 4 by omega)] at h2
  rw [h3, Nat.add_mul]
  omega

theorem MulOut.result {X Y A : List Nat} (h : MulOut X Y 4 A) (hX : X.length = 4) : A = digs 8 (val X * val Y) := by
  have h1 := eq_digs h.len h.dig
  rw [h.eq, List.take_of_length_le (show X.length ≤ 4 by omega)] at h1
  exact h1
set_option maxHeartbeats 1000000 in
set_option maxRecDepth 100000 in
theorem mul_core (X Y : List Nat) (hlx : X.length = 4) (hly : Y.length = 4) (hdx : Dig X) (hdy : Dig Y) (w : World) :
    Calls Try.prog 36 #[.agg (u64s X), .agg (u64s Y)] w fun e w' => e = .returned (.agg (u64s (digs 8 (val X * val Y)))) ∧ Below w.heap.size w w' := by
  go_enter Try.func36, Try.ntmps36
  go_wp2
  go_loopw [12] (fun i wr => ∃ (k : Nat) (A : List Nat), k ≤ 4 ∧ MulOut X Y k A ∧ i = .int .i64 k ∧ Below w.heap.size w wr ∧ Has wr w.heap.size 24 (u64s X) ∧ Has wr (w.heap.size + 1) 24 (u64s Y) ∧ Has wr (w.heap.size + 1 + 1) 37 (u64s [0, 0, 0, 0, 0, 0, 0, 0]) ∧ Has wr (w.heap.size + 1 + 1 + 1) 37 (u64s A)) (fun i _ => 4 - (intOf i).toNat)
  case atStart =>
    have z8 : (#[Value.int .u64 0, .int .u64 0, .int .u64 0, .int .u64 0, .int .u64 0, .int .u64 0, .int .u64 0, .int .u64 0] : Array Value) = u64s [0, 0, 0, 0, 0, 0, 0, 0] := rfl
    have b1 : Below w.heap.size w ((w.alloc (.cells (u64s X) 24)).alloc (.cells (u64s Y) 24)) := ((Below.refl _ _).alloc (Nat.le_refl _) _).alloc (by simp) _
    have hx1 := (Has.new w (u64s X) 24).alloc (.cells (u64s Y) 24)
    have hy1 := Has.newAt (w := w.alloc (.cells (u64s X) 24)) (u64s Y) 24 (n := w.heap.size + 1) (by simp)
    generalize hV : (w.alloc (.cells (u64s X) 24)).alloc (.cells (u64s Y) 24) = V at *
    have hs : V.heap.size = w.heap.size + 1 + 1 := by rw [← hV]; simp
    have hz := (Has.newAt (w := V) (u64s [0, 0, 0, 0, 0, 0, 0, 0]) 37 (n := w.heap.size + 1 + 1) hs.symm).alloc (.cells (u64s [0, 0, 0, 0, 0, 0, 0, 0]) 37)
    have ha := Has.newAt (w := V.alloc (.cells (u64s [0, 0, 0, 0, 0, 0, 0, 0]) 37)) (u64s [0, 0, 0, 0, 0, 0, 0, 0]) 37 (n := w.heap.size + 1 + 1 + 1) (by simp [hs])
    exact ⟨0, [0, 0, 0, 0, 0, 0, 0, 0], by omega, ⟨rfl, by simp [Dig, B], by simp [val], fun q _ => by
        match q with
        | 0 | 1 | 2 | 3 | 4 | 5 | 6 | 7 => rfl
        | q + 8 => rfl⟩, rfl, (b1.alloc (by omega) _).alloc (by simp [hs]; omega) _, (hx1.alloc _).alloc _, (hy1.alloc _).alloc _, hz, ha⟩
  case round =>
    obtain ⟨k, A, hk, hM, rfl, hbel, hX, hY, hZ, hA⟩ := hrel
    have HX := Lib.hid hX; have HY := Lib.hid hY; have HZ := Lib.hid hZ; have HA := Lib.hid hA; have HM := Lib.hid hM; have Hb := Lib.hid hbel
    clear hX hY hZ hA hM hbel
    by_cases hlt : k < 4
    · have hdk : decide ((k : Int) < 4) = true := by simp; omega
      go_wp2
      go_loopw [7, 15] (fun c j wr => ∃ (j' c' : Nat) (A : List Nat), j' ≤ 4 ∧ MulIn X Y k j' c' A ∧ j = .int .i64 j' ∧ c = .int .u64 c' ∧ Below w.heap.size w wr ∧ Has wr w.heap.size 24 (u64s X) ∧ Has wr (w.heap.size + 1) 24 (u64s Y) ∧ Has wr (w.heap.size + 1 + 1) 37 (u64s [0, 0, 0, 0, 0, 0, 0, 0]) ∧ Has wr (w.heap.size + 1 + 1 + 1) 37 (u64s A)) (fun _ j _ => 4 - (intOf j).toNat)
      case atStart => exact ⟨0, 0, A, by omega, HM.out.start, rfl, rfl, Hb.out, HX.out, HY.out, HZ.out, HA.out⟩
      case round =>
        obtain ⟨j, c, A2, hj, hI, rfl, rfl, hbel, hX, hY, hZ, hA⟩ := hrel
        have HX := Lib.hid hX; have HY := Lib.hid hY; have HZ := Lib.hid hZ; have HA := Lib.hid hA; have HI := Lib.hid hI; have Hb := Lib.hid hbel
        clear hX hY hZ hA hI hbel
        by_cases hlt2 : j < 4
        · have hk4 : (k : Int) < 4 := by omega
          have hj4 : (j : Int) < 4 := by omega
          have hkj8 : (k : Int) + (j : Int) < 8 := by omega
          have hxb := hdx.get k
          have hyb := hdy.get j
          have hub := HI.out.dig.get (k + j)
          have hst := mul_step hxb hyb hub HI.out.car
          simp only at hst
          have hm64 := Lib.hid (mul64 (nth X k) (nth Y j) hxb hyb)
          have hs1 := Lib.hid (add64 (mL (nth X k) (nth Y j)) (nth A2 (k + j)) 0 (Nat.mod_lt _ B_pos) hub (by omega))
          have hs2 := Lib.hid (add64 (aD (mL (nth X k) (nth Y j)) (nth A2 (k + j)) 0) c 0 hst.2.2.1 HI.out.car (by omega))
          have hstep := Lib.hid (HI.out.step hlt2 hlt hlx hly hst.2.2.2.1 hst.2.2.2.2.2.1 hst.2.2.2.2.2.2)
          have hu1 := Lib.hid (uadd_eq hst.2.2.2.2.1)
          have hu2 := Lib.hid (uadd_eq hst.2.2.2.2.2.1)
          have hcell := HA.out.cell (k := k + j) (by rw [HI.out.len]; omega)
          have hfree := HA.out.free (k + j)
          clear hst hxb hyb hub
          generalize aD (mL (nth X k) (nth Y j)) (nth A2 (k + j)) 0 = l1 at *
          generalize aB (mL (nth X k) (nth Y j)) (nth A2 (k + j)) 0 = c1 at *
          generalize aD l1 c 0 = l2 at *
          generalize aB l1 c 0 = c2 at *
          have q0 : Kp wr wr.drew := Kp.start wr
          go_wp2
          refine wp_region_ord (Kp wr) [(true, 0), (true, 1), (true, 2), (true, 3), (true, 4), (true, 5), (false, 6), (true, 7), (true, 8), (true, 9), (true, 10), (true, 11)] (by kernel_rfl) (by kernel_rfl) rfl (by kernel_rfl) ?_
          repeat (first | (refine O_read rfl (by assumption) (fun K' hK => ?_); refine R_read (.int .u64 ((nth X k : Nat) : Int)) rfl (fun w hS => ?_) ?_; (focus (have hc := (HX.out.below hS HX.out.lt).cell (k := k) (by rw [hlx]; omega); go_simp; done)); go_simp; refine hK _ ?_; clear hK K') | (refine O_read rfl (by assumption) (fun K' hK => ?_); refine R_read (.int .u64 ((nth Y j : Nat) : Int)) rfl (fun w hS => ?_) ?_; (focus (have hc := (HY.out.below hS HY.out.lt).cell (k := j) (by rw [hly]; omega); go_simp; done)); go_simp; refine hK _ ?_; clear hK K') | (refine O_read rfl (by assumption) (fun K' hK => ?_); refine R_pure ?_ rfl (fun w => ?_) ?_; rotate_left; (focus (first | (go_simp; rfl) | (go_simp; done))); go_simp; refine hK _ ?_; clear hK K'))
          refine O_call rfl (fun K' hK => ?_)
          refine R_callc 53 _ rfl (fun w => ?_) (hm64.out _) ?_
          · go_simp; done
          rintro e w1 ⟨rfl, rfl⟩
          refine ⟨_, rfl, hK _ _ q0 ?_⟩
          clear hK K'
          go_simp
          repeat (refine O_read rfl (by assumption) (fun K' hK => ?_); refine R_pure ?_ rfl (fun w => ?_) ?_; rotate_left; (focus (first | (go_simp; rfl) | (go_simp; done))); go_simp; refine hK _ ?_; clear hK K')
          refine O_nil ?_
          have hcell2 : wr.drew.cell? ⟨w.heap.size + 1 + 1 + 1, k + j, none⟩ = some (.int .u64 ((nth A2 (k + j) : Nat) : Int)) := hcell
          have hs1' : ∀ w, (callFunc 43 #[.int .u64 ((mL (nth X k) (nth Y j) : Nat) : Int), .int .u64 ((nth A2 (k + j) : Nat) : Int), .int .u64 0]).run Try.prog w = .ok (.value (.tuple #[.int .u64 ((l1 : Nat) : Int), .int .u64 ((c1 : Nat) : Int)])) w := hs1.out
          have hs2' : ∀ w, (callFunc 43 #[.int .u64 ((l1 : Nat) : Int), .int .u64 ((c : Nat) : Int), .int .u64 0]).run Try.prog w = .ok (.value (.tuple #[.int .u64 ((l2 : Nat) : Int), .int .u64 ((c2 : Nat) : Int)])) w := hs2.out
          have hw1 := wrap_add (mH (nth X k) (nth Y j)) c1
          have hw2 := wrap_add (uadd (mH (nth X k) (nth Y j)) c1) c2
          go_wp2
          go_roundw
          case rel =>
            refine ⟨j + 1, uadd (uadd (mH (nth X k) (nth Y j)) c1) c2, A2.set (k + j) l2, by omega, ?_, by go_num, rfl, (Hb.out.drew).setCell (by simp <;> omega) _, HX.out.drew.other (by simp <;> omega) _, HY.out.drew.other (by simp <;> omega) _, HZ.out.drew.other (by simp <;> omega) _, HA.out.drew.set (k + j) _⟩
            rw [hu1.out, hu2.out]
            exact hstep.out
          case measure => simp [intOf] <;> omega
        · obtain rfl : j = 4 := by omega
          have hk8 : (k : Int) + 4 < 8 := by omega
          have hcell := HA.out.cell (k := k + 4) (by rw [HI.out.len]; omega)
          have hfree := HA.out.free (k + 4)
          have hdn := Lib.hid (HI.out.done hlt hlx hly)
          go_wp2
          exact ⟨⟨k + 1, A2.set (k + 4) c, by omega, hdn.out, by go_num, Hb.out.setCell (by simp <;> omega) _, HX.out.other (by simp <;> omega) _, HY.out.other (by simp <;> omega) _, HZ.out.other (by simp <;> omega) _, HA.out.set (k + 4) c⟩, by simp [intOf]; omega⟩
    · obtain rfl : k = 4 := by omega
      go_wp2_with (first | (refine load8 rfl _ rfl _ rfl 37 A HA.out HM.out.len ?_) | (refine store8 rfl _ _ rfl (w.heap.size + 1 + 1) rfl A rfl 37 _ HZ.out HM.out.len rfl ?_; intro w1 hw1 ho1))
      refine bodyPost_ret (res8 rfl rfl hw1 HM.out.len) rfl ⟨?_, ho1.below Hb.out (by omega)⟩
      rw [← HM.out.result hlx]
end Go.Proofs.Ytbklepgbieohiaa
