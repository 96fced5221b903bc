/- The walk of limb.Parse. -/
import Derived.Test.YtbklepgbieohiaaA5
import Derived.Test.YtbklepgbieohiaaA2
namespace Go.Proofs.Ytbklepgbieohiaa
open Go.RowKit

/-- The number that hexadecimal signs are. -/
def numH (L : List Nat) : Nat := L.foldl (fun a x => a * 16 + hexv x) 0

theorem numH_succ {L : List Nat} {k : Nat} (h : k < L.length) : numH (L.take (k + 1)) = numH (L.take k) * 16 + hexv (nth L k) := by
  rw [take_succ h]; simp [numH]

theorem numH_lt {L : List Nat} (h : ∀ j, j < L.length → isHex (nth L j) = true) : ∀ k, k ≤ L.length → numH (L.take k) < 16 ^ k
  | 0, _ => by simp [numH]
  | k + 1, hk => by
    have h1 := numH_lt h k (by omega)
    have h2 := hexv_lt (h k (by omega))
    rw [numH_succ (by omega), Nat.pow_succ]
    omega

/-- Is the text barred at its head: none, or a nought ahead of more? -/
def headBad (L : List Nat) : Bool := decide (L = [] ∨ 1 < L.length ∧ nth L 0 = 48)
def allHex (L : List Nat) : Bool := L.all isHex

/-- What Parse answers. -/
def psOut (L : List Nat) : Value :=
  if headBad L || !allHex L then .tuple #[A4 0, .int .i64 2] else if 64 < L.length then .tuple #[A4 0, .int .i64 3] else .tuple #[A4 (numH L), .int .i64 0]

theorem allHex_iff {L : List Nat} : allHex L = true ↔ ∀ j, j < L.length → isHex (nth L j) = true := by
  unfold allHex
  rw [List.all_eq_true]
  constructor
  · intro h j hj; rw [nth_lt hj]; exact h _ (List.getElem_mem hj)
  · intro h x hx
    obtain ⟨j, hj, rfl⟩ := List.mem_iff_getElem.1 hx
    have := h j hj
    rwa [nth_lt hj] at this

theorem str_isEmpty (L : List Nat) : (str L).toList.isEmpty = decide (L = []) := by
  rw [str_toList]; cases L <;> simp

set_option maxHeartbeats 400000 in
set_option maxRecDepth 100000 in
theorem parse_bad (L : List Nat) (hb : Byt L) (hm : L.length ≤ 1000) (hh : headBad L = true) (w : World) :
    Calls Try.prog 32 #[.string (str L)] w fun e w' => e = .returned (.tuple #[A4 0, .int .i64 2]) ∧ Below w.heap.size w w' := by
  have hX := Lib.hid (Has.new w (u64s [0, 0, 0, 0]) 24)
  have b0 := Lib.hid ((Below.refl w.heap.size w).alloc (Nat.le_refl _) (.cells (u64s [0, 0, 0, 0]) 24))
  have hsz := str_size L
  have he := str_isEmpty L
  simp only [headBad, decide_eq_true_eq] at hh
  by_cases hnil : L = []
  · have he1 : decide (L = []) = true := by simpa using hnil
    rw [he1] at he
    clear he1 hh hnil
    go_enter Try.func32, Try.ntmps32
    go_wp2_with (refine store4 rfl _ _ rfl w.heap.size rfl [0, 0, 0, 0] rfl 24 _ hX.out rfl rfl ?_; intro w1 hw1 ho1)
    exact bodyPost_ret (res4t rfl rfl hw1 rfl) rfl ⟨by rw [A4_zero]; rfl, ho1.below b0.out (by omega)⟩
  · obtain ⟨h1, h2⟩ := hh.resolve_left hnil
    have he1 : decide (L = []) = false := by simpa using hnil
    rw [he1] at he
    have hd : decide ((1 : Int) < (L.length : Int)) = true := by simp; omega
    have hi : ∀ w, (Instr.index 9 (.string (str L)) (.int .i64 0)).run Try.prog w = .ok (.int .u8 48) w := fun w => by
      have := index_str L hb .i64 0 (by omega) w
      rw [h2] at this; exact this
    clear he1 hh hnil h1 h2
    go_enter Try.func32, Try.ntmps32
    go_wp2_with (refine store4 rfl _ _ rfl w.heap.size rfl [0, 0, 0, 0] rfl 24 _ hX.out rfl rfl ?_; intro w1 hw1 ho1)
    exact bodyPost_ret (res4t rfl rfl hw1 rfl) rfl ⟨by rw [A4_zero]; rfl, ho1.below b0.out (by omega)⟩

theorem val_dig_mod {A : List Nat} {n x : Nat} (hl : A.length = 4) (hd : Dig A) (hv : val A = n % B ^ 4) (hx : x < 2 ^ 4) :
    val (shvs 4 A x) = (n * 16 + x) % B ^ 4 := by
  rw [shvs_val hl (by decide) hd hx, hv, Nat.add_mod, Nat.mul_mod, Nat.mod_mod, ← Nat.mul_mod, ← Nat.add_mod]

set_option maxHeartbeats 1000000 in
set_option maxRecDepth 100000 in
theorem parse_one (L : List Nat) (hb : Byt L) (hm : L.length ≤ 1000) (hpos : 0 < L.length) (hh : headBad L = false) (h1 : L.length = 1) (w : World) :
    Calls Try.prog 32 #[.string (str L)] w fun e w' => e = .returned (psOut L) ∧ Below w.heap.size w w' := by
  have hX := Lib.hid (Has.new w (u64s [0, 0, 0, 0]) 24)
  have b0 := Lib.hid ((Below.refl w.heap.size w).alloc (Nat.le_refl _) (.cells (u64s [0, 0, 0, 0]) 24))
  have hsz := str_size L
  have he : (str L).toList.isEmpty = false := by rw [str_isEmpty]; simp; intro e; rw [e] at hpos; simp at hpos
  have hA := Lib.hid ((Has.newAt (w := w.alloc (.cells (u64s [0, 0, 0, 0]) 24)) (u64s [0, 0, 0, 0]) 24 (n := w.heap.size + 1) (by simp)))
  have hX2 := Lib.hid (hX.out.alloc (.cells (u64s [0, 0, 0, 0]) 24))
  have b1 := Lib.hid (b0.out.alloc (by simp) (.cells (u64s [0, 0, 0, 0]) 24))
  have HB := Lib.hid hb
  have HP := Lib.hid hpos
  have HH := Lib.hid hh
  have HIdx := Lib.hid (index_str L hb .i64)
  have hd : decide ((1 : Int) < (L.length : Int)) = false := by rw [h1]; decide
  clear h1
  generalize hlen : L.length = m at *
  have Hlen := Lib.hid hlen
  clear hb hpos hh hlen
  go_enter Try.func32, Try.ntmps32
  go_wp2
  go_loopw [23] (fun i wr => ∃ (k : Nat) (A : List Nat), k ≤ m ∧ (∀ j, j < k → isHex (nth L j) = true) ∧ (A.length = 4 ∧ Dig A ∧ val A = numH (L.take k) % B ^ 4) ∧ i = .int .i64 k ∧ Below w.heap.size w wr ∧ Has wr w.heap.size 24 (u64s [0, 0, 0, 0]) ∧ Has wr (w.heap.size + 1) 24 (u64s A)) (fun i _ => m - (intOf i).toNat)
  case atStart => exact ⟨0, [0, 0, 0, 0], by omega, fun j hj => by omega, ⟨rfl, by simp [Dig, B], by simp [val, numH]⟩, rfl, b1.out, hX2.out, hA.out⟩
  case round =>
    obtain ⟨k, A, hk, hhex, hAA, rfl, hbel, hZ, hA1⟩ := hrel
    have HZ := Lib.hid hZ; have HA := Lib.hid hA1; have HAA := Lib.hid hAA; have hbl := Lib.hid hbel; have HHex := Lib.hid hhex
    clear hZ hA1 hAA hbel hhex
    by_cases hlt : k < m
    · have hik : ∀ w, (Instr.index 9 (.string (str L)) (.int .i64 (k : Int))).run Try.prog w = .ok (.int .u8 ((nth L k : Nat) : Int)) w := HIdx.out k (by have := Hlen.out; omega)
      have hdg := Lib.hid (digit_any (nth L k) (HB.out.get k))
      by_cases hx : isHex (nth L k) = true
      · have hxl := Lib.hid (hexv_lt hx)
        have hs4 := Lib.hid (shove4_core A (hexv (nth L k)) HAA.out.1 HAA.out.2.1 hxl.out)
        rw [hx] at hdg
        simp only [if_true] at hdg
        have Hx := Lib.hid hx
        clear hx
        go_wp2_with (first | (go_at_call 47; refine (hdg.out _).mono ?_; rintro e w1 ⟨rfl, hb1⟩; have HA1 := Lib.hid (HA.out.below hb1 HA.out.lt); have HZ1 := Lib.hid (HZ.out.below hb1 HZ.out.lt); have hbl1 := Lib.hid (bcall hbl.out hb1 hbl.out.size)) | (refine load4 rfl _ rfl _ rfl 24 A HA1.out HAA.out.1 ?_) | (go_at_call 46; refine (hs4.out _).mono ?_; rintro e w2 ⟨rfl, hb2⟩; have HA2 := Lib.hid (HA1.out.below hb2 HA1.out.lt); have HZ2 := Lib.hid (HZ1.out.below hb2 HZ1.out.lt)) | (refine store4 rfl _ _ rfl (w.heap.size + 1) rfl (shvs 4 A (hexv (nth L k))) rfl 24 _ HA2.out rfl HAA.out.1 ?_; intro w3 hw3 ho3))
        go_roundw
        case rel =>
          have hlen := Hlen.out
          refine ⟨k + 1, shvs 4 A (hexv (nth L k)), by omega, fun j hj => ?_, ⟨rfl, shvs_dig (by decide) HAA.out.2.1 hxl.out, by rw [val_dig_mod HAA.out.1 HAA.out.2.1 HAA.out.2.2 hxl.out, numH_succ (by omega)]⟩, by go_num, ho3.below (bcall hbl1.out hb2 hbl1.out.size) (by omega), HZ2.out.only ho3 (by omega), hw3⟩
          by_cases hjk : j = k
          · subst j; exact Hx.out
          · exact HHex.out j (by omega)
        case measure => simp [intOf] <;> omega
      · have hx' : isHex (nth L k) = false := by simpa using hx
        rw [hx'] at hdg
        have hps := Lib.hid (show psOut L = .tuple #[A4 0, .int .i64 2] by
          have : allHex L = false := by
            cases h : allHex L with
            | false => rfl
            | true => exact absurd (allHex_iff.1 h k (by have := Hlen.out; omega)) hx
          unfold psOut; rw [this]; simp)
        clear hx hx'
        go_wp2_with (first | (go_at_call 47; refine (hdg.out _).mono ?_; rintro e w1 ⟨rfl, hb1⟩; have HZ1 := Lib.hid (HZ.out.below hb1 HZ.out.lt); have hbl1 := Lib.hid (bcall hbl.out hb1 hbl.out.size)) | (refine store4 rfl _ _ rfl w.heap.size rfl [0, 0, 0, 0] rfl 24 _ HZ1.out rfl rfl ?_; intro w2 hw2 ho2))
        exact bodyPost_ret (res4t rfl rfl hw2 rfl) rfl ⟨by rw [hps.out, A4_zero]; rfl, ho2.below hbl1.out (by omega)⟩
    · obtain rfl : k = m := by omega
      have hall := Lib.hid (allHex_iff.2 (by rw [Hlen.out]; exact HHex.out))
      by_cases h64 : 64 < k
      · have hd64 : decide ((64 : Int) < (k : Int)) = true := by simp; omega
        go_wp2_with (refine store4 rfl _ _ rfl w.heap.size rfl [0, 0, 0, 0] rfl 24 _ HZ.out rfl rfl ?_; intro w2 hw2 ho2)
        refine bodyPost_ret (res4t rfl rfl hw2 rfl) rfl ⟨?_, ho2.below hbl.out (by omega)⟩
        unfold psOut
        rw [HH.out, hall.out, Hlen.out, A4_zero]
        simp [h64]
      · have hd64 : decide ((64 : Int) < (k : Int)) = false := by simp; omega
        go_wp2_with (first | (refine load4 rfl _ rfl _ rfl 24 A HA.out HAA.out.1 ?_) | (refine store4 rfl _ _ rfl w.heap.size rfl A rfl 24 _ HZ.out HAA.out.1 rfl ?_; intro w2 hw2 ho2))
        refine bodyPost_ret (res4t rfl rfl hw2 HAA.out.1) rfl ⟨?_, ho2.below hbl.out (by omega)⟩
        have e1 : A = digs 4 (numH L) := by
          have hn := numH_lt (allHex_iff.1 hall.out) L.length (Nat.le_refl _)
          rw [List.take_length] at hn
          have hB : B ^ 4 = 16 ^ 64 := by decide
          have hle : (16 : Nat) ^ L.length ≤ 16 ^ 64 := Nat.pow_le_pow_right (by decide) (by have := Hlen.out; omega)
          have h := eq_digs HAA.out.1 HAA.out.2.1
          rw [HAA.out.2.2, ← Hlen.out, List.take_length, Nat.mod_eq_of_lt (by rw [hB]; exact Nat.lt_of_lt_of_le hn hle)] at h
          exact h
        unfold psOut
        rw [HH.out, hall.out, Hlen.out]
        simp [h64]
        rw [e1]

set_option maxHeartbeats 1000000 in
set_option maxRecDepth 100000 in
theorem parse_more (L : List Nat) (hb : Byt L) (hm : L.length ≤ 1000) (hpos : 0 < L.length) (hh : headBad L = false) (h1 : 1 < L.length) (h2 : nth L 0 ≠ 48) (w : World) :
    Calls Try.prog 32 #[.string (str L)] w fun e w' => e = .returned (psOut L) ∧ Below w.heap.size w w' := by
  have hX := Lib.hid (Has.new w (u64s [0, 0, 0, 0]) 24)
  have b0 := Lib.hid ((Below.refl w.heap.size w).alloc (Nat.le_refl _) (.cells (u64s [0, 0, 0, 0]) 24))
  have hsz := str_size L
  have he : (str L).toList.isEmpty = false := by rw [str_isEmpty]; simp; intro e; rw [e] at hpos; simp at hpos
  have hA := Lib.hid ((Has.newAt (w := w.alloc (.cells (u64s [0, 0, 0, 0]) 24)) (u64s [0, 0, 0, 0]) 24 (n := w.heap.size + 1) (by simp)))
  have hX2 := Lib.hid (hX.out.alloc (.cells (u64s [0, 0, 0, 0]) 24))
  have b1 := Lib.hid (b0.out.alloc (by simp) (.cells (u64s [0, 0, 0, 0]) 24))
  have HB := Lib.hid hb
  have HP := Lib.hid hpos
  have HH := Lib.hid hh
  have HIdx := Lib.hid (index_str L hb .i64)
  have hd : decide ((1 : Int) < (L.length : Int)) = true := by simp; omega
  have hc1 : (((nth L 0 : Nat) : Int) == 48) = false := by simp; omega
  have hi0 : ∀ w, (Instr.index 9 (.string (str L)) (.int .i64 0)).run Try.prog w = .ok (.int .u8 ((nth L 0 : Nat) : Int)) w := HIdx.out 0 hpos
  clear h1 h2
  generalize hlen : L.length = m at *
  have Hlen := Lib.hid hlen
  clear hb hpos hh hlen
  go_enter Try.func32, Try.ntmps32
  go_wp2
  go_loopw [23] (fun i wr => ∃ (k : Nat) (A : List Nat), k ≤ m ∧ (∀ j, j < k → isHex (nth L j) = true) ∧ (A.length = 4 ∧ Dig A ∧ val A = numH (L.take k) % B ^ 4) ∧ i = .int .i64 k ∧ Below w.heap.size w wr ∧ Has wr w.heap.size 24 (u64s [0, 0, 0, 0]) ∧ Has wr (w.heap.size + 1) 24 (u64s A)) (fun i _ => m - (intOf i).toNat)
  case atStart => exact ⟨0, [0, 0, 0, 0], by omega, fun j hj => by omega, ⟨rfl, by simp [Dig, B], by simp [val, numH]⟩, rfl, b1.out, hX2.out, hA.out⟩
  case round =>
    obtain ⟨k, A, hk, hhex, hAA, rfl, hbel, hZ, hA1⟩ := hrel
    have HZ := Lib.hid hZ; have HA := Lib.hid hA1; have HAA := Lib.hid hAA; have hbl := Lib.hid hbel; have HHex := Lib.hid hhex
    clear hZ hA1 hAA hbel hhex
    by_cases hlt : k < m
    · have hik : ∀ w, (Instr.index 9 (.string (str L)) (.int .i64 (k : Int))).run Try.prog w = .ok (.int .u8 ((nth L k : Nat) : Int)) w := HIdx.out k (by have := Hlen.out; omega)
      have hdg := Lib.hid (digit_any (nth L k) (HB.out.get k))
      by_cases hx : isHex (nth L k) = true
      · have hxl := Lib.hid (hexv_lt hx)
        have hs4 := Lib.hid (shove4_core A (hexv (nth L k)) HAA.out.1 HAA.out.2.1 hxl.out)
        rw [hx] at hdg
        simp only [if_true] at hdg
        have Hx := Lib.hid hx
        clear hx
        go_wp2_with (first | (go_at_call 47; refine (hdg.out _).mono ?_; rintro e w1 ⟨rfl, hb1⟩; have HA1 := Lib.hid (HA.out.below hb1 HA.out.lt); have HZ1 := Lib.hid (HZ.out.below hb1 HZ.out.lt); have hbl1 := Lib.hid (bcall hbl.out hb1 hbl.out.size)) | (refine load4 rfl _ rfl _ rfl 24 A HA1.out HAA.out.1 ?_) | (go_at_call 46; refine (hs4.out _).mono ?_; rintro e w2 ⟨rfl, hb2⟩; have HA2 := Lib.hid (HA1.out.below hb2 HA1.out.lt); have HZ2 := Lib.hid (HZ1.out.below hb2 HZ1.out.lt)) | (refine store4 rfl _ _ rfl (w.heap.size + 1) rfl (shvs 4 A (hexv (nth L k))) rfl 24 _ HA2.out rfl HAA.out.1 ?_; intro w3 hw3 ho3))
        go_roundw
        case rel =>
          have hlen := Hlen.out
          refine ⟨k + 1, shvs 4 A (hexv (nth L k)), by omega, fun j hj => ?_, ⟨rfl, shvs_dig (by decide) HAA.out.2.1 hxl.out, by rw [val_dig_mod HAA.out.1 HAA.out.2.1 HAA.out.2.2 hxl.out, numH_succ (by omega)]⟩, by go_num, ho3.below (bcall hbl1.out hb2 hbl1.out.size) (by omega), HZ2.out.only ho3 (by omega), hw3⟩
          by_cases hjk : j = k
          · subst j; exact Hx.out
          · exact HHex.out j (by omega)
        case measure => simp [intOf] <;> omega
      · have hx' : isHex (nth L k) = false := by simpa using hx
        rw [hx'] at hdg
        have hps := Lib.hid (show psOut L = .tuple #[A4 0, .int .i64 2] by
          have : allHex L = false := by
            cases h : allHex L with
            | false => rfl
            | true => exact absurd (allHex_iff.1 h k (by have := Hlen.out; omega)) hx
          unfold psOut; rw [this]; simp)
        clear hx hx'
        go_wp2_with (first | (go_at_call 47; refine (hdg.out _).mono ?_; rintro e w1 ⟨rfl, hb1⟩; have HZ1 := Lib.hid (HZ.out.below hb1 HZ.out.lt); have hbl1 := Lib.hid (bcall hbl.out hb1 hbl.out.size)) | (refine store4 rfl _ _ rfl w.heap.size rfl [0, 0, 0, 0] rfl 24 _ HZ1.out rfl rfl ?_; intro w2 hw2 ho2))
        exact bodyPost_ret (res4t rfl rfl hw2 rfl) rfl ⟨by rw [hps.out, A4_zero]; rfl, ho2.below hbl1.out (by omega)⟩
    · obtain rfl : k = m := by omega
      have hall := Lib.hid (allHex_iff.2 (by rw [Hlen.out]; exact HHex.out))
      by_cases h64 : 64 < k
      · have hd64 : decide ((64 : Int) < (k : Int)) = true := by simp; omega
        go_wp2_with (refine store4 rfl _ _ rfl w.heap.size rfl [0, 0, 0, 0] rfl 24 _ HZ.out rfl rfl ?_; intro w2 hw2 ho2)
        refine bodyPost_ret (res4t rfl rfl hw2 rfl) rfl ⟨?_, ho2.below hbl.out (by omega)⟩
        unfold psOut
        rw [HH.out, hall.out, Hlen.out, A4_zero]
        simp [h64]
      · have hd64 : decide ((64 : Int) < (k : Int)) = false := by simp; omega
        go_wp2_with (first | (refine load4 rfl _ rfl _ rfl 24 A HA.out HAA.out.1 ?_) | (refine store4 rfl _ _ rfl w.heap.size rfl A rfl 24 _ HZ.out HAA.out.1 rfl ?_; intro w2 hw2 ho2))
        refine bodyPost_ret (res4t rfl rfl hw2 HAA.out.1) rfl ⟨?_, ho2.below hbl.out (by omega)⟩
        have e1 : A = digs 4 (numH L) := by
          have hn := numH_lt (allHex_iff.1 hall.out) L.length (Nat.le_refl _)
          rw [List.take_length] at hn
          have hB : B ^ 4 = 16 ^ 64 := by decide
          have hle : (16 : Nat) ^ L.length ≤ 16 ^ 64 := Nat.pow_le_pow_right (by decide) (by have := Hlen.out; omega)
          have h := eq_digs HAA.out.1 HAA.out.2.1
          rw [HAA.out.2.2, ← Hlen.out, List.take_length, Nat.mod_eq_of_lt (by rw [hB]; exact Nat.lt_of_lt_of_le hn hle)] at h
          exact h
        unfold psOut
        rw [HH.out, hall.out, Hlen.out]
        simp [h64]
        rw [e1]

theorem parse_any (L : List Nat) (hb : Byt L) (hm : L.length ≤ 1000) (w : World) :
    Calls Try.prog 32 #[.string (str L)] w fun e w' => e = .returned (psOut L) ∧ Below w.heap.size w w' := by
  by_cases hh : headBad L = true
  · have : psOut L = .tuple #[A4 0, .int .i64 2] := by unfold psOut; rw [hh]; rfl
    rw [this]; exact parse_bad L hb hm hh w
  · have hh' : headBad L = false := by simpa using hh
    have h := hh
    simp only [headBad, decide_eq_true_eq, not_or, not_and] at h
    have hpos : 0 < L.length := by
      cases L with
      | nil => simp at h
      | cons x l => simp
    by_cases h1 : L.length = 1
    · exact parse_one L hb hm hpos hh' h1 w
    · exact parse_more L hb hm hpos hh' (by omega) (h.2 (by omega)) w
end Go.Proofs.Ytbklepgbieohiaa
