/- The walks of Compare, Of, Widen. -/
import Derived.Test.YtbklepgbieohiaaR
namespace Go.Proofs.Ytbklepgbieohiaa
open Go.RowKit

/-- How numbers stand to each other. -/
def cmpN (x y : Nat) : Int := if x = y then 0 else if x < y then -1 else 1

set_option maxHeartbeats 400000 in
theorem cmp_eq (X Y : List Nat) (hlx : X.length = 4) (hly : Y.length = 4) (he : (X == Y) = true) (w : World) :
    Calls Try.prog 25 #[.agg (u64s X), .agg (u64s Y)] w fun e w' => e = .returned (.int .i64 0) ∧ Below w.heap.size w w' := by
  have hX := Lib.hid ((Has.new w (u64s X) 24).alloc (.cells (u64s Y) 24))
  have hY := Lib.hid (Has.newAt (w := w.alloc (.cells (u64s X) 24)) (u64s Y) 24 (n := w.heap.size + 1) (by simp))
  have hq := eql4 X Y hlx hly
  go_enter Try.func25, Try.ntmps25
  go_wp2_with (first | (refine load4 rfl _ rfl _ rfl 24 X hX.out hlx ?_) | (refine load4 rfl _ rfl _ rfl 24 Y hY.out hly ?_))
  go_ret
  exact ⟨rfl, ((Below.refl _ _).alloc (Nat.le_refl _) _).alloc (by simp) _⟩

set_option maxHeartbeats 400000 in
theorem cmp_ne (X Y R : List Nat) (D : Bool) (v : Int) (hlx : X.length = 4) (hly : Y.length = 4) (hlr : R.length = 4) (he : (X == Y) = false) (hv : Hid (v = if D then -1 else 1))
    (hsub : Hid (∀ w, Calls Try.prog 23 #[.agg (u64s X), .agg (u64s Y)] w fun e w' => e = .returned (.tuple #[.agg (u64s R), .bool D]) ∧ Below w.heap.size w w')) (w : World) :
    Calls Try.prog 25 #[.agg (u64s X), .agg (u64s Y)] w fun e w' => e = .returned (.int .i64 v) ∧ Below w.heap.size w w' := by
  have hX := Lib.hid ((Has.new w (u64s X) 24).alloc (.cells (u64s Y) 24))
  have hY := Lib.hid (Has.newAt (w := w.alloc (.cells (u64s X) 24)) (u64s Y) 24 (n := w.heap.size + 1) (by simp))
  have hq := eql4 X Y hlx hly
  go_enter Try.func25, Try.ntmps25
  cases D
  all_goals
    go_wp2_with (first | (refine load4 rfl _ rfl _ rfl 24 X hX.out hlx ?_) | (refine load4 rfl _ rfl _ rfl 24 Y hY.out hly ?_) | (go_at_call 23; refine (hsub.out _).mono ?_; rintro e w1 ⟨rfl, hb1⟩) | (refine store4new rfl _ _ rfl rfl R rfl hlr _ rfl ?_))
    go_ret
    exact ⟨by rw [hv.out]; rfl, ((bcall (((Below.refl _ _).alloc (Nat.le_refl _) _).alloc (by simp) _) hb1 (by simp; omega)).alloc (by have := hb1.size; simp at this; omega) _)⟩

theorem cmp_any (x y : Nat) (hx : x < B ^ 4) (hy : y < B ^ 4) (w : World) :
    Calls Try.prog 25 #[A4 x, A4 y] w fun e w' => e = .returned (.int .i64 (cmpN x y)) ∧ Below w.heap.size w w' := by
  have hq := digs_beq hx hy
  unfold cmpN
  by_cases h : x = y
  · rw [if_pos h]
    exact cmp_eq _ _ (digs_length 4 x) (digs_length 4 y) (by rw [hq]; simp [h]) w
  · rw [if_neg h]
    exact cmp_ne _ _ _ (decide (x < y)) _ (digs_length 4 x) (digs_length 4 y) (digs_length 4 _) (by rw [hq]; simp [h]) (by unfold Hid; simp) (sub_any x y hx hy) w

set_option maxHeartbeats 400000 in
theorem rcmp_core (X Y : List Nat) (hlx : X.length = 4) (hly : Y.length = 4) (hdx : Dig X) (hdy : Dig Y) (w : World) :
    Calls Try.prog 26 #[.agg (u64s X), .agg (u64s Y)] w fun e w' => e = .returned (.int .i64 (cmpN (val X) (val Y))) ∧ Below w.heap.size w w' := by
  go_enter Try.func26, Try.ntmps26
  go_wp2
  go_loopw [5] (fun i wr => ∃ (v : Int) (j : Nat), v + 1 = j ∧ j ≤ 4 ∧ X.drop j = Y.drop j ∧ i = .int .i64 v ∧ Below w.heap.size w wr
      ∧ Has wr w.heap.size 24 (u64s X) ∧ Has wr (w.heap.size + 1) 24 (u64s Y)) (fun i _ => (intOf i + 1).toNat)
  case atStart =>
    refine ⟨3, 4, by omega, by omega, ?_, rfl, ?_, ?_, ?_⟩
    · rw [List.drop_eq_nil_of_le (by omega), List.drop_eq_nil_of_le (by omega)]
    · exact ((Below.refl _ _).alloc (Nat.le_refl _) _).alloc (by simp) _
    · exact (Has.new w _ _).alloc _
    · exact Has.newAt _ _ (by simp)
  case round =>
    obtain ⟨v, j, hv, hj, hR, rfl, hbel, hX, hY⟩ := hrel
    cases j with
    | zero =>
      obtain rfl : v = -1 := by omega
      have hfin := Lib.hid hR
      clear hR hX hY hv
      go_wp2
      go_ret
      refine ⟨?_, hbel⟩
      have := hfin.out
      simp only [List.drop_zero] at this
      rw [this]; simp [cmpN]
    | succ m =>
      obtain rfl : v = (m : Int) := by omega
      have h1 := hX.cell (k := m) (by rw [hlx]; omega)
      have h2 := hY.cell (k := m) (by rw [hly]; omega)
      have HX := Lib.hid hX; have HY := Lib.hid hY; have HR := Lib.hid hR
      clear hX hY hR hv
      by_cases c1 : nth X m < nth Y m
      · have c1' := dec_t c1
        have hlt := Lib.hid (val_lt_of hdx (by omega) (by omega) HR.out c1)
        clear c1
        go_wp2
        go_region
        go_wp2
        go_ret
        refine ⟨?_, hbel.drew⟩
        have := hlt.out
        unfold cmpN; rw [if_neg (by omega), if_pos this]; rfl
      · have c1' := dec_f c1
        by_cases c2 : nth Y m < nth X m
        · have c2' := dec_t c2
          have hlt := Lib.hid (val_lt_of hdy (by omega) (by omega) HR.out.symm c2)
          clear c1 c2
          go_wp2
          go_region
          go_wp2
          go_region
          go_wp2
          go_ret
          refine ⟨?_, hbel.drew.drew⟩
          have := hlt.out
          unfold cmpN; rw [if_neg (by omega), if_neg (by omega)]; rfl
        · have c2' := dec_f c2
          have he : nth X m = nth Y m := by omega
          have hn := Lib.hid (show X.drop m = Y.drop m by rw [drop_cons (L := X) (k := m) (by omega), drop_cons (L := Y) (k := m) (by omega), he, HR.out])
          clear c1 c2 he
          go_wp2
          go_region
          go_wp2
          go_region
          go_wp2
          go_roundw
          case rel =>
            refine ⟨(m : Int) - 1, m, ?_, ?_, hn.out, rfl, hbel.drew.drew, HX.out, HY.out⟩
            · omega
            · omega
          case measure => simp [intOf] <;> omega

theorem rcmp_any (x y : Nat) (hx : x < B ^ 4) (hy : y < B ^ 4) (w : World) :
    Calls Try.prog 26 #[A4 x, A4 y] w fun e w' => e = .returned (.int .i64 (cmpN x y)) ∧ Below w.heap.size w w' := by
  have h := rcmp_core _ _ (digs_length 4 x) (digs_length 4 y) (digs_dig 4 x) (digs_dig 4 y) w
  rw [val_digs_lt hx, val_digs_lt hy] at h
  exact h

end Go.Proofs.Ytbklepgbieohiaa
