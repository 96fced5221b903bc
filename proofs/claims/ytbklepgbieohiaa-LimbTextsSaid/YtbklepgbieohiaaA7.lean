/- The walk of ref.Parse: place by place. -/
import Derived.Test.YtbklepgbieohiaaA3
import Derived.Test.YtbklepgbieohiaaA6
namespace Go.Proofs.Ytbklepgbieohiaa
open Go.RowKit

theorem hex_yes {c : Nat} (h : isHex c = true) :
    (decide ((48 : Int) ≤ (c : Int)) = true ∧ decide ((c : Int) ≤ 57) = true) ∨
    (decide ((48 : Int) ≤ (c : Int)) = true ∧ decide ((c : Int) ≤ 57) = false ∧ decide ((97 : Int) ≤ (c : Int)) = true ∧ decide ((c : Int) ≤ 102) = true) := by
  simp [isHex] at h; simp; omega

theorem hex_no {c : Nat} (h : isHex c = false) :
    (decide ((48 : Int) ≤ (c : Int)) = false ∧ decide ((97 : Int) ≤ (c : Int)) = false) ∨
    (decide ((48 : Int) ≤ (c : Int)) = true ∧ decide ((c : Int) ≤ 57) = false ∧ decide ((97 : Int) ≤ (c : Int)) = false) ∨
    (decide ((48 : Int) ≤ (c : Int)) = true ∧ decide ((c : Int) ≤ 57) = false ∧ decide ((97 : Int) ≤ (c : Int)) = true ∧ decide ((c : Int) ≤ 102) = false) := by
  simp [isHex] at h; simp; omega

theorem hex_val {c : Nat} (h : isHex c = true) :
    (decide ((97 : Int) ≤ (c : Int)) = false ∧ ((c : Int) - 48) % 256 = ((hexv c : Nat) : Int)) ∨
    (∃ y, decide ((97 : Int) ≤ (c : Int)) = true ∧ ((c : Int) - 48) % 256 = ((c - 48 : Nat) : Int) ∧ ((c : Int) - 97) % 256 = ((y : Nat) : Int) ∧ hexv c = y + 10) := by
  simp [isHex] at h
  unfold hexv
  by_cases g : 97 ≤ c
  · right; exact ⟨c - 97, by simp; omega, by omega, by omega, by rw [if_pos g]; omega⟩
  · left; exact ⟨by simp; omega, by rw [if_neg g]; omega⟩

set_option maxHeartbeats 400000 in
set_option maxRecDepth 100000 in
theorem rparse_bad (L : List Nat) (hb : Byt L) (hm : L.length ≤ 1000) (hh : headBad L = true) (w : World) :
    Calls Try.prog 33 #[.string (str L)] w fun e w' => e = .returned (.tuple #[A4 0, .int .i64 2]) ∧ Below w.heap.size w w' := by
  have hX := Lib.hid (Has.new w (u64s [0, 0, 0, 0]) 24)
  have b0 := Lib.hid ((Below.refl w.heap.size w).alloc (Nat.le_refl _) (.cells (u64s [0, 0, 0, 0]) 24))
  have hsz := str_size L
  have he := str_isEmpty L
  simp only [headBad, decide_eq_true_eq] at hh
  by_cases hnil : L = []
  · have he1 : decide (L = []) = true := by simpa using hnil
    rw [he1] at he
    clear he1 hh hnil
    go_enter Try.func33, Try.ntmps33
    go_wp2_with (refine store4 rfl _ _ rfl w.heap.size rfl [0, 0, 0, 0] rfl 24 _ hX.out rfl rfl ?_; intro w1 hw1 ho1)
    exact bodyPost_ret (res4t rfl rfl hw1 rfl) rfl ⟨by rw [A4_zero]; rfl, ho1.below b0.out (by omega)⟩
  · obtain ⟨h1, h2⟩ := hh.resolve_left hnil
    have he1 : decide (L = []) = false := by simpa using hnil
    rw [he1] at he
    have hd : decide ((1 : Int) < (L.length : Int)) = true := by simp; omega
    have hi : ∀ w, (Instr.index 9 (.string (str L)) (.int .i64 0)).run Try.prog w = .ok (.int .u8 48) w := fun w => by
      have := index_str L hb .i64 0 (by omega) w
      rw [h2] at this; exact this
    clear he1 hh hnil h1 h2
    go_enter Try.func33, Try.ntmps33
    go_wp2_with (refine store4 rfl _ _ rfl w.heap.size rfl [0, 0, 0, 0] rfl 24 _ hX.out rfl rfl ?_; intro w1 hw1 ho1)
    exact bodyPost_ret (res4t rfl rfl hw1 rfl) rfl ⟨by rw [A4_zero]; rfl, ho1.below b0.out (by omega)⟩

set_option maxHeartbeats 2000000 in
set_option maxRecDepth 100000 in
theorem rparse_one (L : List Nat) (hb : Byt L) (hm : L.length ≤ 1000) (hpos : 0 < L.length) (hh : headBad L = false) (h1 : L.length = 1) (w : World) :
    Calls Try.prog 33 #[.string (str L)] w fun e w' => e = .returned (psOut L) ∧ Below w.heap.size w w' := by
  have hX := Lib.hid (Has.new w (u64s [0, 0, 0, 0]) 24)
  have b0 := Lib.hid ((Below.refl w.heap.size w).alloc (Nat.le_refl _) (.cells (u64s [0, 0, 0, 0]) 24))
  have hsz := str_size L
  have he : (str L).toList.isEmpty = false := by rw [str_isEmpty]; simp; intro e; rw [e] at hpos; simp at hpos
  have HB := Lib.hid hb
  have HP := Lib.hid hpos
  have HH := Lib.hid hh
  have HIdx := Lib.hid (index_str L hb .i64)
  have hd : decide ((1 : Int) < (L.length : Int)) = false := by rw [h1]; decide
  clear h1
  generalize hlen : L.length = m at *
  have Hlen := Lib.hid hlen
  clear hb hpos hh hlen
  go_enter Try.func33, Try.ntmps33
  go_wp2
  go_loopw [4] (fun i wr => ∃ k : Nat, k ≤ m ∧ (∀ j, j < k → isHex (nth L j) = true) ∧ i = .int .i64 k ∧ wr = w.alloc (.cells (u64s [0, 0, 0, 0]) 24)) (fun i _ => m - (intOf i).toNat)
  case atStart => exact ⟨0, by omega, fun j hj => by omega, rfl, rfl⟩
  case round =>
    obtain ⟨k, hk, hhex, rfl, rfl⟩ := hrel
    have HHex := Lib.hid hhex
    clear hhex
    by_cases hlt : k < m
    · have hik : ∀ w, (Instr.index 9 (.string (str L)) (.int .i64 (k : Int))).run Try.prog w = .ok (.int .u8 ((nth L k : Nat) : Int)) w := HIdx.out k (by have := Hlen.out; omega)
      by_cases hx : isHex (nth L k) = true
      · have Hx := Lib.hid hx
        rcases hex_yes hx with ⟨g1, g2⟩ | ⟨g1, g2, g3, g4⟩ <;>
          (clear hx
           go_wp2
           refine ⟨⟨k + 1, by omega, fun j hj => ?_, by go_num, trivial⟩, by simp [intOf]; omega⟩
           by_cases hjk : j = k
           · subst j; exact Hx.out
           · exact HHex.out j (by omega))
      · have hx' : isHex (nth L k) = false := by simpa using hx
        have hps := Lib.hid (show psOut L = .tuple #[A4 0, .int .i64 2] by
          have : allHex L = false := by
            cases h : allHex L with
            | false => rfl
            | true => exact absurd (allHex_iff.1 h k (by have := Hlen.out; omega)) hx
          unfold psOut; rw [this]; simp)
        rcases hex_no hx' with ⟨g1, g2⟩ | ⟨g1, g2, g3⟩ | ⟨g1, g2, g3, g4⟩ <;>
          (clear hx hx'
           go_wp2_with (refine store4 rfl _ _ rfl w.heap.size rfl [0, 0, 0, 0] rfl 24 _ hX.out rfl rfl ?_; intro w2 hw2 ho2)
           exact bodyPost_ret (res4t rfl rfl hw2 rfl) rfl ⟨by rw [hps.out, A4_zero]; rfl, ho2.below b0.out (by omega)⟩)
    · obtain rfl : k = m := by omega
      have hall := Lib.hid (allHex_iff.2 (by rw [Hlen.out]; exact HHex.out))
      by_cases h64 : 64 < k
      · have hd64 : decide ((64 : Int) < (k : Int)) = true := by simp; omega
        go_wp2_with (refine store4 rfl _ _ rfl w.heap.size rfl [0, 0, 0, 0] rfl 24 _ hX.out rfl rfl ?_; intro w2 hw2 ho2)
        refine bodyPost_ret (res4t rfl rfl hw2 rfl) rfl ⟨?_, ho2.below b0.out (by omega)⟩
        unfold psOut
        rw [HH.out, hall.out, Hlen.out, A4_zero]
        simp [h64]
      · have hd64 : decide ((64 : Int) < (k : Int)) = false := by simp; omega
        have hA := Lib.hid ((Has.newAt (w := w.alloc (.cells (u64s [0, 0, 0, 0]) 24)) (u64s [0, 0, 0, 0]) 24 (n := w.heap.size + 1) (by simp)))
        have hX2 := Lib.hid (hX.out.alloc (.cells (u64s [0, 0, 0, 0]) 24))
        have b1 := Lib.hid (b0.out.alloc (by simp) (.cells (u64s [0, 0, 0, 0]) 24))
        have H64 := Lib.hid h64
        clear h64 hlt hk
        generalize hkm : k = m at *
        clear hkm k
        go_wp2
        go_loopw [6] (fun i wr => ∃ (k : Nat) (A : List Nat), k ≤ m ∧ (A.length = 4 ∧ Dig A ∧ val A = numH (L.take k) * 16 ^ (m - k)) ∧ i = .int .i64 k ∧ Below w.heap.size w wr ∧ Has wr w.heap.size 24 (u64s [0, 0, 0, 0]) ∧ Has wr (w.heap.size + 1) 24 (u64s A)) (fun i _ => m - (intOf i).toNat)
        case atStart => exact ⟨0, [0, 0, 0, 0], by omega, ⟨rfl, by simp [Dig, B], by simp [val, numH]⟩, rfl, b1.out, hX2.out, hA.out⟩
        case round =>
          obtain ⟨k, A, hk, hAA, rfl, hbel, hZ, hA1⟩ := hrel
          have HZ := Lib.hid hZ; have HA := Lib.hid hA1; have HAA := Lib.hid hAA; have hbl := Lib.hid hbel
          clear hZ hA1 hAA hbel
          by_cases hlt : k < m
          · have hik : ∀ w, (Instr.index 9 (.string (str L)) (.int .i64 (k : Int))).run Try.prog w = .ok (.int .u8 ((nth L k : Nat) : Int)) w := HIdx.out k (by have := Hlen.out; omega)
            have hx := HHex.out k hlt
            have hxl := Lib.hid (hexv_lt hx)
            obtain ⟨p, hp⟩ : ∃ p, k + p + 1 = m := ⟨m - 1 - k, by omega⟩
            have hp2 := Lib.hid hp
            have hp64 : p < 64 := by have := H64.out; omega
            have hr16 : p % 16 < 16 := Nat.mod_lt _ (by decide)
            have hst := Lib.hid (place_step (β := 16) (per := 16) (by decide) (by decide) HAA.out.1 HAA.out.2.1 (M := numH (L.take k)) (p := p) (x := hexv (nth L k)) (by rw [HAA.out.2.2]; congr 2; omega) hxl.out (by decide) (by omega))
            have e0 : (m : Int) - 1 - (k : Int) = (p : Int) := by omega
            have hv := hex_val hx
            clear hp hx
            rcases hv with ⟨g1, g2⟩ | ⟨y, g1, g2, g3, g4⟩
            · go_wp2
              have HXR := Lib.hid (show ∀ t, t ≤ p % 16 → hexv (nth L k) * 16 ^ t < B from fun t ht => by
                have h2 : (16 : Nat) ^ t ≤ 16 ^ 15 := Nat.pow_le_pow_right (by decide) (by omega)
                have h3 := Nat.mul_le_mul (Nat.le_of_lt_succ hxl.out) h2
                exact Nat.lt_of_le_of_lt h3 (by decide))
              go_loopw [7, 9] (fun x j w2 => ∃ t : Nat, t ≤ p % 16 ∧ x = .int .u64 ((xpow 16 (hexv (nth L k)) t : Nat) : Int) ∧ j = .int .i64 t ∧ w2 = wr) (fun _ j _ => p % 16 - (intOf j).toNat)
              case atStart => exact ⟨0, by omega, by simp [xpow] <;> (try rw [Hv.out]) <;> rfl, rfl, rfl⟩
              case round =>
                obtain ⟨t, ht, rfl, rfl, rfl⟩ := hrel
                by_cases hlt2 : t < p % 16
                · have hdt : decide ((t : Int) < (p : Int) % 16) = true := by simp; omega
                  have hmu := xpow_mul (HXR.out (t + 1) (by omega))
                  simp at hmu
                  go_wp2
                  exact ⟨⟨t + 1, by omega, rfl, by go_num, trivial⟩, by simp [intOf]; omega⟩
                · obtain rfl : t = p % 16 := by omega
                  have hdt : decide (((p % 16 : Nat) : Int) < (p : Int) % 16) = false := by simp
                  have h2 := HA.out.cell (k := p / 16) (by have := HAA.out.1; omega)
                  have h3 := HA.out.free (p / 16)
                  have hq : IntKind.i64.wrap (((p : Nat) : Int) / 16) = ((p / 16 : Nat) : Int) := by rw [IntWalk.i64_in _ (by omega)]; simp
                  have hq4 : (((p / 16 : Nat) : Int)) < 4 := by omega
                  have hwa := wrap_add (nth A (p / 16)) (xpow 16 (hexv (nth L k)) (p % 16))
                  have hus := Lib.hid (show uadd (nth A (p / 16)) (xpow 16 (hexv (nth L k)) (p % 16)) = nth A (p / 16) + hexv (nth L k) * 16 ^ (p % 16) from uadd_eq hst.out.1)
                  go_wp2
                  refine ⟨⟨k + 1, A.set (p / 16) (uadd (nth A (p / 16)) (xpow 16 (hexv (nth L k)) (p % 16))), by omega, ⟨by simpa using HAA.out.1, HAA.out.2.1.set _ (uadd_lt _ _), ?_⟩, by go_num, hbl.out.setCell (by simp) _, HZ.out.other (by simp) _, HA.out.set _ _⟩, by simp [intOf]; omega⟩
                  have hpm := hp2.out
                  have hlen := Hlen.out
                  rw [hus.out, hst.out.2, numH_succ (by omega), show m - (k + 1) = p by omega, Nat.add_mul, Nat.pow_succ, Nat.mul_assoc, Nat.mul_comm 16]
            · have Hv := Lib.hid g4
              clear g4
              go_wp2
              have HXR := Lib.hid (show ∀ t, t ≤ p % 16 → hexv (nth L k) * 16 ^ t < B from fun t ht => by
                have h2 : (16 : Nat) ^ t ≤ 16 ^ 15 := Nat.pow_le_pow_right (by decide) (by omega)
                have h3 := Nat.mul_le_mul (Nat.le_of_lt_succ hxl.out) h2
                exact Nat.lt_of_le_of_lt h3 (by decide))
              go_loopw [7, 9] (fun x j w2 => ∃ t : Nat, t ≤ p % 16 ∧ x = .int .u64 ((xpow 16 (hexv (nth L k)) t : Nat) : Int) ∧ j = .int .i64 t ∧ w2 = wr) (fun _ j _ => p % 16 - (intOf j).toNat)
              case atStart => exact ⟨0, by omega, by simp [xpow] <;> (try rw [Hv.out]) <;> rfl, rfl, rfl⟩
              case round =>
                obtain ⟨t, ht, rfl, rfl, rfl⟩ := hrel
                by_cases hlt2 : t < p % 16
                · have hdt : decide ((t : Int) < (p : Int) % 16) = true := by simp; omega
                  have hmu := xpow_mul (HXR.out (t + 1) (by omega))
                  simp at hmu
                  go_wp2
                  exact ⟨⟨t + 1, by omega, rfl, by go_num, trivial⟩, by simp [intOf]; omega⟩
                · obtain rfl : t = p % 16 := by omega
                  have hdt : decide (((p % 16 : Nat) : Int) < (p : Int) % 16) = false := by simp
                  have h2 := HA.out.cell (k := p / 16) (by have := HAA.out.1; omega)
                  have h3 := HA.out.free (p / 16)
                  have hq : IntKind.i64.wrap (((p : Nat) : Int) / 16) = ((p / 16 : Nat) : Int) := by rw [IntWalk.i64_in _ (by omega)]; simp
                  have hq4 : (((p / 16 : Nat) : Int)) < 4 := by omega
                  have hwa := wrap_add (nth A (p / 16)) (xpow 16 (hexv (nth L k)) (p % 16))
                  have hus := Lib.hid (show uadd (nth A (p / 16)) (xpow 16 (hexv (nth L k)) (p % 16)) = nth A (p / 16) + hexv (nth L k) * 16 ^ (p % 16) from uadd_eq hst.out.1)
                  go_wp2
                  refine ⟨⟨k + 1, A.set (p / 16) (uadd (nth A (p / 16)) (xpow 16 (hexv (nth L k)) (p % 16))), by omega, ⟨by simpa using HAA.out.1, HAA.out.2.1.set _ (uadd_lt _ _), ?_⟩, by go_num, hbl.out.setCell (by simp) _, HZ.out.other (by simp) _, HA.out.set _ _⟩, by simp [intOf]; omega⟩
                  have hpm := hp2.out
                  have hlen := Hlen.out
                  rw [hus.out, hst.out.2, numH_succ (by omega), show m - (k + 1) = p by omega, Nat.add_mul, Nat.pow_succ, Nat.mul_assoc, Nat.mul_comm 16]
          · obtain rfl : k = m := by omega
            go_wp2_with (first | (refine load4 rfl _ rfl _ rfl 24 A HA.out HAA.out.1 ?_) | (refine store4 rfl _ _ rfl w.heap.size rfl A rfl 24 _ HZ.out HAA.out.1 rfl ?_; intro w2 hw2 ho2))
            refine bodyPost_ret (res4t rfl rfl hw2 HAA.out.1) rfl ⟨?_, ho2.below hbl.out (by omega)⟩
            have e1 : A = digs 4 (numH L) := by
              have h := eq_digs HAA.out.1 HAA.out.2.1
              rw [HAA.out.2.2, ← Hlen.out, List.take_length] at h
              simpa using h
            unfold psOut
            rw [HH.out, hall.out, Hlen.out]
            simp [H64.out]
            rw [e1]

set_option maxHeartbeats 2000000 in
set_option maxRecDepth 100000 in
theorem rparse_more (L : List Nat) (hb : Byt L) (hm : L.length ≤ 1000) (hpos : 0 < L.length) (hh : headBad L = false) (h1 : 1 < L.length) (h2 : nth L 0 ≠ 48) (w : World) :
    Calls Try.prog 33 #[.string (str L)] w fun e w' => e = .returned (psOut L) ∧ Below w.heap.size w w' := by
  have hX := Lib.hid (Has.new w (u64s [0, 0, 0, 0]) 24)
  have b0 := Lib.hid ((Below.refl w.heap.size w).alloc (Nat.le_refl _) (.cells (u64s [0, 0, 0, 0]) 24))
  have hsz := str_size L
  have he : (str L).toList.isEmpty = false := by rw [str_isEmpty]; simp; intro e; rw [e] at hpos; simp at hpos
  have HB := Lib.hid hb
  have HP := Lib.hid hpos
  have HH := Lib.hid hh
  have HIdx := Lib.hid (index_str L hb .i64)
  have hd : decide ((1 : Int) < (L.length : Int)) = true := by simp; omega
  have hc1 : (((nth L 0 : Nat) : Int) == 48) = false := by simp; omega
  have hi0 : ∀ w, (Instr.index 9 (.string (str L)) (.int .i64 0)).run Try.prog w = .ok (.int .u8 ((nth L 0 : Nat) : Int)) w := HIdx.out 0 hpos
  clear h1 h2
  generalize hlen : L.length = m at *
  have Hlen := Lib.hid hlen
  clear hb hpos hh hlen
  go_enter Try.func33, Try.ntmps33
  go_wp2
  go_loopw [4] (fun i wr => ∃ k : Nat, k ≤ m ∧ (∀ j, j < k → isHex (nth L j) = true) ∧ i = .int .i64 k ∧ wr = w.alloc (.cells (u64s [0, 0, 0, 0]) 24)) (fun i _ => m - (intOf i).toNat)
  case atStart => exact ⟨0, by omega, fun j hj => by omega, rfl, rfl⟩
  case round =>
    obtain ⟨k, hk, hhex, rfl, rfl⟩ := hrel
    have HHex := Lib.hid hhex
    clear hhex
    by_cases hlt : k < m
    · have hik : ∀ w, (Instr.index 9 (.string (str L)) (.int .i64 (k : Int))).run Try.prog w = .ok (.int .u8 ((nth L k : Nat) : Int)) w := HIdx.out k (by have := Hlen.out; omega)
      by_cases hx : isHex (nth L k) = true
      · have Hx := Lib.hid hx
        rcases hex_yes hx with ⟨g1, g2⟩ | ⟨g1, g2, g3, g4⟩ <;>
          (clear hx
           go_wp2
           refine ⟨⟨k + 1, by omega, fun j hj => ?_, by go_num, trivial⟩, by simp [intOf]; omega⟩
           by_cases hjk : j = k
           · subst j; exact Hx.out
           · exact HHex.out j (by omega))
      · have hx' : isHex (nth L k) = false := by simpa using hx
        have hps := Lib.hid (show psOut L = .tuple #[A4 0, .int .i64 2] by
          have : allHex L = false := by
            cases h : allHex L with
            | false => rfl
            | true => exact absurd (allHex_iff.1 h k (by have := Hlen.out; omega)) hx
          unfold psOut; rw [this]; simp)
        rcases hex_no hx' with ⟨g1, g2⟩ | ⟨g1, g2, g3⟩ | ⟨g1, g2, g3, g4⟩ <;>
          (clear hx hx'
           go_wp2_with (refine store4 rfl _ _ rfl w.heap.size rfl [0, 0, 0, 0] rfl 24 _ hX.out rfl rfl ?_; intro w2 hw2 ho2)
           exact bodyPost_ret (res4t rfl rfl hw2 rfl) rfl ⟨by rw [hps.out, A4_zero]; rfl, ho2.below b0.out (by omega)⟩)
    · obtain rfl : k = m := by omega
      have hall := Lib.hid (allHex_iff.2 (by rw [Hlen.out]; exact HHex.out))
      by_cases h64 : 64 < k
      · have hd64 : decide ((64 : Int) < (k : Int)) = true := by simp; omega
        go_wp2_with (refine store4 rfl _ _ rfl w.heap.size rfl [0, 0, 0, 0] rfl 24 _ hX.out rfl rfl ?_; intro w2 hw2 ho2)
        refine bodyPost_ret (res4t rfl rfl hw2 rfl) rfl ⟨?_, ho2.below b0.out (by omega)⟩
        unfold psOut
        rw [HH.out, hall.out, Hlen.out, A4_zero]
        simp [h64]
      · have hd64 : decide ((64 : Int) < (k : Int)) = false := by simp; omega
        have hA := Lib.hid ((Has.newAt (w := w.alloc (.cells (u64s [0, 0, 0, 0]) 24)) (u64s [0, 0, 0, 0]) 24 (n := w.heap.size + 1) (by simp)))
        have hX2 := Lib.hid (hX.out.alloc (.cells (u64s [0, 0, 0, 0]) 24))
        have b1 := Lib.hid (b0.out.alloc (by simp) (.cells (u64s [0, 0, 0, 0]) 24))
        have H64 := Lib.hid h64
        clear h64 hlt hk
        generalize hkm : k = m at *
        clear hkm k
        go_wp2
        go_loopw [6] (fun i wr => ∃ (k : Nat) (A : List Nat), k ≤ m ∧ (A.length = 4 ∧ Dig A ∧ val A = numH (L.take k) * 16 ^ (m - k)) ∧ i = .int .i64 k ∧ Below w.heap.size w wr ∧ Has wr w.heap.size 24 (u64s [0, 0, 0, 0]) ∧ Has wr (w.heap.size + 1) 24 (u64s A)) (fun i _ => m - (intOf i).toNat)
        case atStart => exact ⟨0, [0, 0, 0, 0], by omega, ⟨rfl, by simp [Dig, B], by simp [val, numH]⟩, rfl, b1.out, hX2.out, hA.out⟩
        case round =>
          obtain ⟨k, A, hk, hAA, rfl, hbel, hZ, hA1⟩ := hrel
          have HZ := Lib.hid hZ; have HA := Lib.hid hA1; have HAA := Lib.hid hAA; have hbl := Lib.hid hbel
          clear hZ hA1 hAA hbel
          by_cases hlt : k < m
          · have hik : ∀ w, (Instr.index 9 (.string (str L)) (.int .i64 (k : Int))).run Try.prog w = .ok (.int .u8 ((nth L k : Nat) : Int)) w := HIdx.out k (by have := Hlen.out; omega)
            have hx := HHex.out k hlt
            have hxl := Lib.hid (hexv_lt hx)
            obtain ⟨p, hp⟩ : ∃ p, k + p + 1 = m := ⟨m - 1 - k, by omega⟩
            have hp2 := Lib.hid hp
            have hp64 : p < 64 := by have := H64.out; omega
            have hr16 : p % 16 < 16 := Nat.mod_lt _ (by decide)
            have hst := Lib.hid (place_step (β := 16) (per := 16) (by decide) (by decide) HAA.out.1 HAA.out.2.1 (M := numH (L.take k)) (p := p) (x := hexv (nth L k)) (by rw [HAA.out.2.2]; congr 2; omega) hxl.out (by decide) (by omega))
            have e0 : (m : Int) - 1 - (k : Int) = (p : Int) := by omega
            have hv := hex_val hx
            clear hp hx
            rcases hv with ⟨g1, g2⟩ | ⟨y, g1, g2, g3, g4⟩
            · go_wp2
              have HXR := Lib.hid (show ∀ t, t ≤ p % 16 → hexv (nth L k) * 16 ^ t < B from fun t ht => by
                have h2 : (16 : Nat) ^ t ≤ 16 ^ 15 := Nat.pow_le_pow_right (by decide) (by omega)
                have h3 := Nat.mul_le_mul (Nat.le_of_lt_succ hxl.out) h2
                exact Nat.lt_of_le_of_lt h3 (by decide))
              go_loopw [7, 9] (fun x j w2 => ∃ t : Nat, t ≤ p % 16 ∧ x = .int .u64 ((xpow 16 (hexv (nth L k)) t : Nat) : Int) ∧ j = .int .i64 t ∧ w2 = wr) (fun _ j _ => p % 16 - (intOf j).toNat)
              case atStart => exact ⟨0, by omega, by simp [xpow] <;> (try rw [Hv.out]) <;> rfl, rfl, rfl⟩
              case round =>
                obtain ⟨t, ht, rfl, rfl, rfl⟩ := hrel
                by_cases hlt2 : t < p % 16
                · have hdt : decide ((t : Int) < (p : Int) % 16) = true := by simp; omega
                  have hmu := xpow_mul (HXR.out (t + 1) (by omega))
                  simp at hmu
                  go_wp2
                  exact ⟨⟨t + 1, by omega, rfl, by go_num, trivial⟩, by simp [intOf]; omega⟩
                · obtain rfl : t = p % 16 := by omega
                  have hdt : decide (((p % 16 : Nat) : Int) < (p : Int) % 16) = false := by simp
                  have h2 := HA.out.cell (k := p / 16) (by have := HAA.out.1; omega)
                  have h3 := HA.out.free (p / 16)
                  have hq : IntKind.i64.wrap (((p : Nat) : Int) / 16) = ((p / 16 : Nat) : Int) := by rw [IntWalk.i64_in _ (by omega)]; simp
                  have hq4 : (((p / 16 : Nat) : Int)) < 4 := by omega
                  have hwa := wrap_add (nth A (p / 16)) (xpow 16 (hexv (nth L k)) (p % 16))
                  have hus := Lib.hid (show uadd (nth A (p / 16)) (xpow 16 (hexv (nth L k)) (p % 16)) = nth A (p / 16) + hexv (nth L k) * 16 ^ (p % 16) from uadd_eq hst.out.1)
                  go_wp2
                  refine ⟨⟨k + 1, A.set (p / 16) (uadd (nth A (p / 16)) (xpow 16 (hexv (nth L k)) (p % 16))), by omega, ⟨by simpa using HAA.out.1, HAA.out.2.1.set _ (uadd_lt _ _), ?_⟩, by go_num, hbl.out.setCell (by simp) _, HZ.out.other (by simp) _, HA.out.set _ _⟩, by simp [intOf]; omega⟩
                  have hpm := hp2.out
                  have hlen := Hlen.out
                  rw [hus.out, hst.out.2, numH_succ (by omega), show m - (k + 1) = p by omega, Nat.add_mul, Nat.pow_succ, Nat.mul_assoc, Nat.mul_comm 16]
            · have Hv := Lib.hid g4
              clear g4
              go_wp2
              have HXR := Lib.hid (show ∀ t, t ≤ p % 16 → hexv (nth L k) * 16 ^ t < B from fun t ht => by
                have h2 : (16 : Nat) ^ t ≤ 16 ^ 15 := Nat.pow_le_pow_right (by decide) (by omega)
                have h3 := Nat.mul_le_mul (Nat.le_of_lt_succ hxl.out) h2
                exact Nat.lt_of_le_of_lt h3 (by decide))
              go_loopw [7, 9] (fun x j w2 => ∃ t : Nat, t ≤ p % 16 ∧ x = .int .u64 ((xpow 16 (hexv (nth L k)) t : Nat) : Int) ∧ j = .int .i64 t ∧ w2 = wr) (fun _ j _ => p % 16 - (intOf j).toNat)
              case atStart => exact ⟨0, by omega, by simp [xpow] <;> (try rw [Hv.out]) <;> rfl, rfl, rfl⟩
              case round =>
                obtain ⟨t, ht, rfl, rfl, rfl⟩ := hrel
                by_cases hlt2 : t < p % 16
                · have hdt : decide ((t : Int) < (p : Int) % 16) = true := by simp; omega
                  have hmu := xpow_mul (HXR.out (t + 1) (by omega))
                  simp at hmu
                  go_wp2
                  exact ⟨⟨t + 1, by omega, rfl, by go_num, trivial⟩, by simp [intOf]; omega⟩
                · obtain rfl : t = p % 16 := by omega
                  have hdt : decide (((p % 16 : Nat) : Int) < (p : Int) % 16) = false := by simp
                  have h2 := HA.out.cell (k := p / 16) (by have := HAA.out.1; omega)
                  have h3 := HA.out.free (p / 16)
                  have hq : IntKind.i64.wrap (((p : Nat) : Int) / 16) = ((p / 16 : Nat) : Int) := by rw [IntWalk.i64_in _ (by omega)]; simp
                  have hq4 : (((p / 16 : Nat) : Int)) < 4 := by omega
                  have hwa := wrap_add (nth A (p / 16)) (xpow 16 (hexv (nth L k)) (p % 16))
                  have hus := Lib.hid (show uadd (nth A (p / 16)) (xpow 16 (hexv (nth L k)) (p % 16)) = nth A (p / 16) + hexv (nth L k) * 16 ^ (p % 16) from uadd_eq hst.out.1)
                  go_wp2
                  refine ⟨⟨k + 1, A.set (p / 16) (uadd (nth A (p / 16)) (xpow 16 (hexv (nth L k)) (p % 16))), by omega, ⟨by simpa using HAA.out.1, HAA.out.2.1.set _ (uadd_lt _ _), ?_⟩, by go_num, hbl.out.setCell (by simp) _, HZ.out.other (by simp) _, HA.out.set _ _⟩, by simp [intOf]; omega⟩
                  have hpm := hp2.out
                  have hlen := Hlen.out
                  rw [hus.out, hst.out.2, numH_succ (by omega), show m - (k + 1) = p by omega, Nat.add_mul, Nat.pow_succ, Nat.mul_assoc, Nat.mul_comm 16]
          · obtain rfl : k = m := by omega
            go_wp2_with (first | (refine load4 rfl _ rfl _ rfl 24 A HA.out HAA.out.1 ?_) | (refine store4 rfl _ _ rfl w.heap.size rfl A rfl 24 _ HZ.out HAA.out.1 rfl ?_; intro w2 hw2 ho2))
            refine bodyPost_ret (res4t rfl rfl hw2 HAA.out.1) rfl ⟨?_, ho2.below hbl.out (by omega)⟩
            have e1 : A = digs 4 (numH L) := by
              have h := eq_digs HAA.out.1 HAA.out.2.1
              rw [HAA.out.2.2, ← Hlen.out, List.take_length] at h
              simpa using h
            unfold psOut
            rw [HH.out, hall.out, Hlen.out]
            simp [H64.out]
            rw [e1]

theorem rparse_any (L : List Nat) (hb : Byt L) (hm : L.length ≤ 1000) (w : World) :
    Calls Try.prog 33 #[.string (str L)] w fun e w' => e = .returned (psOut L) ∧ Below w.heap.size w w' := by
  by_cases hh : headBad L = true
  · have : psOut L = .tuple #[A4 0, .int .i64 2] := by unfold psOut; rw [hh]; rfl
    rw [this]; exact rparse_bad L hb hm hh w
  · have hh' : headBad L = false := by simpa using hh
    have h := hh
    simp only [headBad, decide_eq_true_eq, not_or, not_and] at h
    have hpos : 0 < L.length := by
      cases L with
      | nil => simp at h
      | cons x l => simp
    by_cases h1 : L.length = 1
    · exact rparse_one L hb hm hpos hh' h1 w
    · exact rparse_more L hb hm hpos hh' (by omega) (h.2 (by omega)) w
end Go.Proofs.Ytbklepgbieohiaa
