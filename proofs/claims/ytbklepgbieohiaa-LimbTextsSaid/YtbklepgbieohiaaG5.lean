/- The walk of LimbReads. -/
import Derived.Test.YtbklepgbieohiaaA7
import Derived.Test.YtbklepgbieohiaaG1
import Derived.Test.YtbklepgbieohiaaY
namespace Go.Proofs.Ytbklepgbieohiaa
open Go.RowKit

theorem cut28 (a : Option Addr) (n c m : Nat) (hm : m ≤ c) (w : World) :
    (Instr.slice 28 (.slice a n c) none (some (.int .i64 (m : Int))) none).run Try.prog w = .ok (.slice a m c) w := by
  have h : (m : Int) ≤ (c : Int) := by omega
  simp [Instr.slice, run_underlying und28, Instr.sliceBounds, Instr.sliceBound, asIntOf, go_sem]
  intro; omega

/-- A slice of bytes that came in: of one without elements no address is asked. -/
def BX (w : World) (v : Value) (L : List Nat) : Prop := BV w v L ∨ (L = [] ∧ ∃ a c, v = .slice a 0 c)

theorem BX.below {w w' : World} {v : Value} {L : List Nat} (h : BX w v L) (hb : Below w.heap.size w w') : BX w' v L := h.imp (·.below hb) id

set_option maxRecDepth 100000 in
theorem copy_zero (a : Option Addr) (c : Nat) (w : World) : Calls Try.prog 30 #[.slice a 0 c] w fun e w' => ∃ v, e = .returned v ∧ BV w' v [] ∧ Below w.heap.size w w' := by
  cases a <;>
  (go_enter Try.func30, Try.ntmps30
   go_wp2
   go_ret
   exact ⟨_, rfl, Or.inr ⟨w.heap.size, 0, 0, rfl, fun j hj => by simp at hj⟩, (Below.refl _ _).alloc (Nat.le_refl _) _⟩)

set_option maxRecDepth 100000 in
theorem rread_zero (a : Option Addr) (c : Nat) (w : World) : Calls Try.prog 31 #[.slice a 0 c] w fun e w' => e = .returned (.tuple #[A4 0, .int .i64 0]) ∧ Below w.heap.size w w' := by
  have hX := Lib.hid ((Has.new w (u64s [0, 0, 0, 0]) 24).alloc (.cells (u64s [0, 0, 0, 0]) 24))
  have hA := Lib.hid (Has.newAt (w := w.alloc (.cells (u64s [0, 0, 0, 0]) 24)) (u64s [0, 0, 0, 0]) 24 (n := w.heap.size + 1) (by simp))
  have b0 := Lib.hid (((Below.refl w.heap.size w).alloc (Nat.le_refl _) (.cells (u64s [0, 0, 0, 0]) 24)).alloc (by simp) (.cells (u64s [0, 0, 0, 0]) 24))
  go_enter Try.func31, Try.ntmps31
  go_wp2
  go_loopw [5] (fun i wr => i = .int .i64 0 ∧ Below w.heap.size w wr ∧ Has wr w.heap.size 24 (u64s [0, 0, 0, 0]) ∧ Has wr (w.heap.size + 1) 24 (u64s [0, 0, 0, 0])) (fun _ _ => 0)
  case atStart => exact ⟨rfl, b0.out, hX.out, hA.out⟩
  case round =>
    obtain ⟨rfl, hbel, hZ, hA1⟩ := hrel
    have HZ := Lib.hid hZ; have HA := Lib.hid hA1
    clear hZ hA1
    go_wp2_with (first | (refine load4 rfl _ rfl _ rfl 24 [0, 0, 0, 0] HA.out rfl ?_) | (refine store4 rfl _ _ rfl w.heap.size rfl [0, 0, 0, 0] rfl 24 _ HZ.out rfl rfl ?_; intro w1 hw1 ho1))
    exact bodyPost_ret (res4t rfl rfl hw1 rfl) rfl ⟨by rw [A4_zero]; rfl, ho1.below hbel (by omega)⟩

theorem copy_bx (v : Value) (L : List Nat) (hn : L.length ≤ 1000) (w : World) (hv : BX w v L) :
    Calls Try.prog 30 #[v] w fun e w' => ∃ v, e = .returned v ∧ BV w' v L ∧ Below w.heap.size w w' := by
  rcases hv with hv | ⟨rfl, a, c, rfl⟩
  · exact copy_any v L hn w hv
  · exact copy_zero a c w

theorem rread_bx (v : Value) (L : List Nat) (hb : Byt L) (w : World) (hv : BX w v L) :
    Calls Try.prog 31 #[v] w fun e w' => e = .returned (rdOut L) ∧ Below w.heap.size w w' := by
  rcases hv with hv | ⟨rfl, a, c, rfl⟩
  · exact rread_any v L hb w hv
  · exact rread_zero a c w

set_option maxHeartbeats 2000000 in
set_option maxRecDepth 100000 in
theorem reads_core (X Y : List Nat) (e1 e2 : Int) (M M' : List Nat) (L : List Nat) (a : Option Addr) (n c m : Nat) (hlx : X.length = 4) (hly : Y.length = 4) (hmn : min n 100 = m) (hmc : m ≤ c)
    (hM' : M.take (min M.length 200) = M')
    (h30 : ∀ w', BX w' (.slice a m c) L → Calls Try.prog 30 #[.slice a m c] w' fun e w'' => ∃ v, e = .returned v ∧ BV w'' v L ∧ Below w'.heap.size w' w'')
    (h29 : ∀ w' v, BV w' v L → Calls Try.prog 29 #[v] w' fun e w'' => e = .returned (.tuple #[.agg (u64s X), .int .i64 e1]) ∧ Below w'.heap.size w' w'')
    (h31 : ∀ w' v, BX w' v L → Calls Try.prog 31 #[v] w' fun e w'' => e = .returned (.tuple #[.agg (u64s X), .int .i64 e1]) ∧ Below w'.heap.size w' w'')
    (h32 : ∀ w', Calls Try.prog 32 #[.string (str M')] w' fun e w'' => e = .returned (.tuple #[.agg (u64s Y), .int .i64 e2]) ∧ Below w'.heap.size w' w'')
    (h33 : ∀ w', Calls Try.prog 33 #[.string (str M')] w' fun e w'' => e = .returned (.tuple #[.agg (u64s Y), .int .i64 e2]) ∧ Below w'.heap.size w' w'') (w : World) (hbv : BX w (.slice a m c) L) :
    Calls Try.prog 5 #[.slice a n c, .string (str M)] w fun e w' => e = .returned (.bool true) ∧ Below w.heap.size w w' := by
  have H30 := Lib.hid h30; have H29 := Lib.hid h29; have H31 := Lib.hid h31; have H32 := Lib.hid h32; have H33 := Lib.hid h33
  have HBV := Lib.hid hbv
  clear h30 h29 h31 h32 h33 hbv
  have hmx : min (n : Int) 100 = (m : Int) := by omega
  have hsz := str_size M
  obtain ⟨k, hk⟩ : ∃ k, min M.length 200 = k := ⟨_, rfl⟩
  have hkx : min (M.length : Int) 200 = (k : Int) := by omega
  have hs1 := cut28 a n c m hmc
  have hs2 := slice_to M .i64 k (by omega)
  rw [hk] at hM'
  rw [hM'] at hs2
  clear hM' hmn hmc hk
  go_enter Try.func5, Try.ntmps5
  go_wp2
  have q0 : Kp w w.drew := Kp.start w
  refine wp_region_ord (Kp w) [(true, 0), (true, 1), (true, 2), (true, 3), (true, 4), (true, 5), (true, 6), (true, 7), (true, 8), (true, 9), (true, 10), (true, 11)] (by kernel_rfl) (by kernel_rfl) rfl (by kernel_rfl) ?_
  repeat (refine O_read rfl (by assumption) (fun K' hK => ?_); refine R_pure ?_ rfl (fun w => ?_) ?_; rotate_left; (focus (first | (go_simp; rfl) | (go_simp; done))); go_simp; refine hK _ ?_; clear hK K')
  refine O_nil ?_
  have hqx := eql4 X X hlx hlx
  have hqy := eql4 Y Y hly hly
  have HB0 := Lib.hid (show BX w.drew (.slice a m c) L from HBV.out)
  go_wp2_with (first
    | (go_at_call 30; refine (H30.out _ HB0.out).mono ?_; rintro e w1 ⟨v1, rfl, bv1, hb1⟩; have bl1 := Lib.hid (show Below w.heap.size w w1 from bcall (u := w.drew) q0 hb1 (Nat.le_refl _)); have bp1 := Lib.hid (HB0.out.below hb1); clear hb1)
    | (go_at_call 29; refine (H29.out _ _ bv1).mono ?_; rintro e w2 ⟨rfl, hb2⟩; have bl2 := Lib.hid ((bcall bl1.out hb2 bl1.out.size).alloc (Nat.le_trans bl1.out.size hb2.size) (.cells (u64s X) 24)); have bp2 := Lib.hid (bp1.out.below (hb2.alloc hb2.size (.cells (u64s X) 24))); have hA2 := Lib.hid (Has.new w2 (u64s X) 24); clear hb2)
    | (go_at_call 31; refine (H31.out _ _ bp2.out).mono ?_; rintro e w3 ⟨rfl, hb3⟩; have bl3 := Lib.hid ((bcall bl2.out hb3 bl2.out.size).alloc (Nat.le_trans bl2.out.size hb3.size) (.cells (u64s X) 24)); have hA3 := Lib.hid ((hA2.out.below hb3 hA2.out.lt).alloc (.cells (u64s X) 24)); have hB3 := Lib.hid (Has.new w3 (u64s X) 24); clear hb3)
    | (go_at_call 32; refine (H32.out _).mono ?_; rintro e w4 ⟨rfl, hb4⟩; have bl4 := Lib.hid ((bcall bl3.out hb4 bl3.out.size).alloc (Nat.le_trans bl3.out.size hb4.size) (.cells (u64s Y) 24)); have hA4 := Lib.hid ((hA3.out.below hb4 hA3.out.lt).alloc (.cells (u64s Y) 24)); have hB4 := Lib.hid ((hB3.out.below hb4 hB3.out.lt).alloc (.cells (u64s Y) 24)); have hC4 := Lib.hid (Has.new w4 (u64s Y) 24); clear hb4)
    | (go_at_call 33; refine (H33.out _).mono ?_; rintro e w5 ⟨rfl, hb5⟩; have bl5 := Lib.hid ((bcall bl4.out hb5 bl4.out.size).alloc (Nat.le_trans bl4.out.size hb5.size) (.cells (u64s Y) 24)); have hA5 := Lib.hid ((hA4.out.below hb5 hA4.out.lt).alloc (.cells (u64s Y) 24)); have hB5 := Lib.hid ((hB4.out.below hb5 hB4.out.lt).alloc (.cells (u64s Y) 24)); have hC5 := Lib.hid ((hC4.out.below hb5 hC4.out.lt).alloc (.cells (u64s Y) 24)); have hD5 := Lib.hid (Has.new w5 (u64s Y) 24); clear hb5)
    | (refine store4new rfl _ _ rfl rfl X rfl hlx _ rfl ?_)
    | (refine store4new rfl _ _ rfl rfl Y rfl hly _ rfl ?_)
    | (refine load4w rfl _ rfl _ rfl 24 X hA5.out hlx ?_)
    | (refine load4w rfl _ rfl _ rfl 24 X hB5.out hlx ?_)
    | (refine load4w rfl _ rfl _ rfl 24 Y hC5.out hly ?_)
    | (refine load4w rfl _ rfl _ rfl 24 Y hD5.out hly ?_)
    | (go_at_call 20; refine (works_any _).mono ?_; rintro e w6 ⟨rfl, hb6⟩; have bl6 := Lib.hid (bcall bl5.out hb6 bl5.out.size)))
  go_ret
  refine ⟨?_, bl6.out⟩
  first | rfl | (go_simp; done) | kernel_rfl
end Go.Proofs.Ytbklepgbieohiaa
