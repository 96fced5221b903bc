/- The walk of ref.Read: place by place. -/
import Derived.Test.YtbklepgbieohiaaA2
import Derived.Test.YtbklepgbieohiaaN
namespace Go.Proofs.Ytbklepgbieohiaa
open Go.RowKit

theorem val_set {L : List Nat} {k : Nat} (h : k < L.length) (v : Nat) : val (L.set k v) + B ^ k * nth L k = val L + B ^ k * v := by
  have h1 := val_split L k (by omega)
  have h2 := val_split (L.set k v) k (by simp; omega)
  rw [drop_cons h] at h1
  rw [drop_cons (by simp; omega), drop_set_succ, nth_set h, if_pos rfl] at h2
  rw [List.take_set_of_le (Nat.le_refl k)] at h2
  simp only [val] at h1 h2
  rw [h1, h2, Nat.mul_add, Nat.mul_add]
  omega

theorem place_step {β per : Nat} (hβ : 0 < β) (hB : β ^ per = B) {A : List Nat} (hl : A.length = 4) (hd : Dig A) {M p x : Nat} (hv : val A = M * β ^ (p + 1)) (hx : x < β) (hper : 0 < per) (hp : p / per < 4) :
    nth A (p / per) + x * β ^ (p % per) < B ∧ val (A.set (p / per) (nth A (p / per) + x * β ^ (p % per))) = M * β ^ (p + 1) + x * β ^ p := by
  have hpe : per * (p / per) + p % per = p := Nat.div_add_mod p per
  have hr : p % per < per := Nat.mod_lt _ hper
  generalize p / per = q at *
  generalize p % per = r at *
  have hBq : B ^ q = β ^ (per * q) := by rw [← hB, ← Nat.pow_mul]
  have hB2 : B = β ^ (r + 1) * β ^ (per - r - 1) := by rw [← hB, ← Nat.pow_add]; congr 1; omega
  have hn : nth A q = β ^ (r + 1) * (M % β ^ (per - r - 1)) := by
    have h1 := eq_digs hl hd
    have h2 : nth A q = val A / B ^ q % B := by
      conv => lhs; rw [h1]
      exact nth_digs _ (by omega)
    rw [h2, hv, show M * β ^ (p + 1) = M * β ^ (r + 1) * B ^ q by rw [hBq, Nat.mul_assoc, ← Nat.pow_add]; congr 2; omega,
      Nat.mul_div_cancel _ (Nat.pow_pos B_pos), Nat.mul_comm M, hB2, Nat.mul_mod_mul_left]
  have hs : 0 < β ^ (per - r - 1) := Nat.pow_pos hβ
  have hlt : nth A q + x * β ^ r < B := by
    have h1 : M % β ^ (per - r - 1) < β ^ (per - r - 1) := Nat.mod_lt _ hs
    have h2 : x * β ^ r < β ^ (r + 1) := by
      rw [Nat.pow_succ, Nat.mul_comm (β ^ r)]; exact Nat.mul_lt_mul_of_pos_right hx (Nat.pow_pos hβ)
    have h3 : β ^ (r + 1) * (M % β ^ (per - r - 1) + 1) ≤ β ^ (r + 1) * β ^ (per - r - 1) := Nat.mul_le_mul_left _ h1
    rw [← hB2, Nat.mul_add, Nat.mul_one] at h3
    rw [hn]
    omega
  refine ⟨hlt, ?_⟩
  have h1 := val_set (L := A) (k := q) (by omega) (nth A q + x * β ^ r)
  rw [Nat.mul_add] at h1
  have h2 : B ^ q * (x * β ^ r) = x * β ^ p := by rw [hBq, Nat.mul_left_comm, ← Nat.pow_add, hpe]
  omega

/-- A digit at its place, opaque to the walk. -/
def xpow (β x t : Nat) : Nat := x * β ^ t

theorem uadd_eq {x y : Nat} (h : x + y < B) : uadd x y = x + y := Nat.mod_eq_of_lt h

theorem xpow_mul {β x t : Nat} (h : x * β ^ (t + 1) < B) : IntKind.u64.wrap (((xpow β x t : Nat) : Int) * ((β : Nat) : Int)) = ((xpow β x (t + 1) : Nat) : Int) := by
  rw [wrap_mul]
  unfold umul xpow
  rw [Nat.mul_assoc, ← Nat.pow_succ, Nat.mod_eq_of_lt h]

theorem rread_nil (w : World) : Calls Try.prog 31 #[.slice none 0 0] w fun e w' => e = .returned (.tuple #[A4 0, .int .i64 0]) ∧ Below w.heap.size w w' := by
  have hX := Lib.hid ((Has.new w (u64s [0, 0, 0, 0]) 24).alloc (.cells (u64s [0, 0, 0, 0]) 24))
  have hA := Lib.hid (Has.newAt (w := w.alloc (.cells (u64s [0, 0, 0, 0]) 24)) (u64s [0, 0, 0, 0]) 24 (n := w.heap.size + 1) (by simp))
  have b0 := Lib.hid (((Below.refl w.heap.size w).alloc (Nat.le_refl _) (.cells (u64s [0, 0, 0, 0]) 24)).alloc (by simp) (.cells (u64s [0, 0, 0, 0]) 24))
  go_enter Try.func31, Try.ntmps31
  go_wp2
  go_loopw [5] (fun i wr => i = .int .i64 0 ∧ Below w.heap.size w wr ∧ Has wr w.heap.size 24 (u64s [0, 0, 0, 0]) ∧ Has wr (w.heap.size + 1) 24 (u64s [0, 0, 0, 0])) (fun _ _ => 0)
  case atStart => exact ⟨rfl, b0.out, hX.out, hA.out⟩
  case round =>
    obtain ⟨rfl, hbel, hZ, hA1⟩ := hrel
    have HZ := Lib.hid hZ; have HA := Lib.hid hA1
    clear hZ hA1
    go_wp2_with (first | (refine load4 rfl _ rfl _ rfl 24 [0, 0, 0, 0] HA.out rfl ?_) | (refine store4 rfl _ _ rfl w.heap.size rfl [0, 0, 0, 0] rfl 24 _ HZ.out rfl rfl ?_; intro w1 hw1 ho1))
    exact bodyPost_ret (res4t rfl rfl hw1 rfl) rfl ⟨by rw [A4_zero]; rfl, ho1.below hbel (by omega)⟩

set_option maxHeartbeats 400000 in
set_option maxRecDepth 100000 in
theorem rread_long (b off n c : Nat) (hn : 32 < n) (w : World) : Calls Try.prog 31 #[.slice (some ⟨b, off, none⟩) n c] w fun e w' => e = .returned (.tuple #[A4 0, .int .i64 3]) ∧ Below w.heap.size w w' := by
  have hX := Lib.hid (Has.new w (u64s [0, 0, 0, 0]) 24)
  have b0 := Lib.hid ((Below.refl w.heap.size w).alloc (Nat.le_refl _) (.cells (u64s [0, 0, 0, 0]) 24))
  have hd : decide ((32 : Int) < (n : Int)) = true := by simp; omega
  go_enter Try.func31, Try.ntmps31
  go_wp2_with (refine store4 rfl _ _ rfl w.heap.size rfl [0, 0, 0, 0] rfl 24 _ hX.out rfl rfl ?_; intro w1 hw1 ho1)
  exact bodyPost_ret (res4t rfl rfl hw1 rfl) rfl ⟨by rw [A4_zero]; rfl, ho1.below b0.out (by omega)⟩

set_option maxHeartbeats 1000000 in
set_option maxRecDepth 100000 in
theorem rread_some (b off c : Nat) (L : List Nat) (hb : Byt L) (hn : L.length ≤ 32) (w : World) (hs : SegB w b off L) :
    Calls Try.prog 31 #[.slice (some ⟨b, off, none⟩) L.length c] w fun e w' => e = .returned (.tuple #[A4 (rdn L), .int .i64 0]) ∧ Below w.heap.size w w' := by
  have hX := Lib.hid ((Has.new w (u64s [0, 0, 0, 0]) 24).alloc (.cells (u64s [0, 0, 0, 0]) 24))
  have hA := Lib.hid (Has.newAt (w := w.alloc (.cells (u64s [0, 0, 0, 0]) 24)) (u64s [0, 0, 0, 0]) 24 (n := w.heap.size + 1) (by simp))
  have b0 := Lib.hid (((Below.refl w.heap.size w).alloc (Nat.le_refl _) (.cells (u64s [0, 0, 0, 0]) 24)).alloc (by simp) (.cells (u64s [0, 0, 0, 0]) 24))
  have hd : decide ((32 : Int) < (L.length : Int)) = false := by simp; omega
  have HS := Lib.hid hs
  have HB := Lib.hid hb
  generalize hm : L.length = m at *
  clear hs hb
  have Hm := Lib.hid hm
  clear hm
  go_enter Try.func31, Try.ntmps31
  go_wp2
  go_loopw [5] (fun i wr => ∃ (k : Nat) (A : List Nat), k ≤ m ∧ (A.length = 4 ∧ Dig A ∧ val A = rdn (L.take k) * 256 ^ (m - k)) ∧ i = .int .i64 k ∧ Below w.heap.size w wr ∧ Has wr w.heap.size 24 (u64s [0, 0, 0, 0]) ∧ Has wr (w.heap.size + 1) 24 (u64s A)) (fun i _ => m - (intOf i).toNat)
  case atStart => exact ⟨0, [0, 0, 0, 0], by omega, ⟨rfl, by simp [Dig, B], by simp [val, rdn]⟩, rfl, b0.out, hX.out, hA.out⟩
  case round =>
    obtain ⟨k, A, hk, hAA, rfl, hbel, hZ, hA1⟩ := hrel
    have HZ := Lib.hid hZ; have HA := Lib.hid hA1; have HAA := Lib.hid hAA; have hbl := Lib.hid hbel
    clear hZ hA1 hAA
    by_cases hlt : k < m
    · have h1 : wr.cell? ⟨b, off + k, none⟩ = some (.int .u8 ((nth L k : Nat) : Int)) := by
        have hlen := Hm.out
        exact (HS.out.below hbel (HS.out.lt (by omega))) k (by omega)
      have hx := Lib.hid (HB.out.get k)
      obtain ⟨p, hp⟩ : ∃ p, k + p + 1 = m := ⟨m - 1 - k, by omega⟩
      have hp2 := Lib.hid hp
      have hp32 : p < 32 := by omega
      have hst := Lib.hid (place_step (β := 256) (per := 8) (by decide) (by decide) HAA.out.1 HAA.out.2.1 (M := rdn (L.take k)) (p := p) (x := nth L k) (by rw [HAA.out.2.2]; congr 2; omega) hx.out (by decide) (by omega))
      have hwr : IntKind.u64.wrap ((nth L k : Nat) : Int) = ((nth L k : Nat) : Int) := by rw [wrap_u64, Nat.mod_eq_of_lt (Nat.lt_of_lt_of_le hx.out (by decide))]
      have e0 : (m : Int) - 1 - (k : Int) = (p : Int) := by omega
      clear hbel hp
      go_wp2
      have hr8 : p % 8 < 8 := Nat.mod_lt _ (by decide)
      have HXR := Lib.hid (show ∀ t, t ≤ p % 8 → nth L k * 256 ^ t < B from fun t ht => by
        have h2 : (256 : Nat) ^ t ≤ 256 ^ 7 := Nat.pow_le_pow_right (by decide) (by omega)
        have h3 := Nat.mul_le_mul (Nat.le_of_lt_succ hx.out) h2
        exact Nat.lt_of_le_of_lt h3 (by decide))
      go_loopw [7, 8] (fun x j w2 => ∃ t : Nat, t ≤ p % 8 ∧ x = .int .u64 ((xpow 256 (nth L k) t : Nat) : Int) ∧ j = .int .i64 t ∧ w2 = wr) (fun _ j _ => p % 8 - (intOf j).toNat)
      case atStart => exact ⟨0, by omega, by simp [xpow], rfl, rfl⟩
      case round =>
        obtain ⟨t, ht, rfl, rfl, rfl⟩ := hrel
        by_cases hlt2 : t < p % 8
        · have hdt : decide ((t : Int) < (p : Int) % 8) = true := by simp; omega
          have hmu := xpow_mul (HXR.out (t + 1) (by omega))
          simp at hmu
          clear hst hx
          go_wp2
          exact ⟨⟨t + 1, by omega, rfl, by go_num, trivial⟩, by simp [intOf]; omega⟩
        · obtain rfl : t = p % 8 := by omega
          have hdt : decide (((p % 8 : Nat) : Int) < (p : Int) % 8) = false := by simp
          have h2 := HA.out.cell (k := p / 8) (by have := HAA.out.1; omega)
          have h3 := HA.out.free (p / 8)
          have hq : IntKind.i64.wrap (((p : Nat) : Int) / 8) = ((p / 8 : Nat) : Int) := by rw [IntWalk.i64_in _ (by omega)]; simp
          have hq4 : (((p / 8 : Nat) : Int)) < 4 := by omega
          have hwa := wrap_add (nth A (p / 8)) (xpow 256 (nth L k) (p % 8))
          have hus := Lib.hid (show uadd (nth A (p / 8)) (xpow 256 (nth L k) (p % 8)) = nth A (p / 8) + nth L k * 256 ^ (p % 8) from uadd_eq hst.out.1)
          go_wp2
          refine ⟨⟨k + 1, A.set (p / 8) (uadd (nth A (p / 8)) (xpow 256 (nth L k) (p % 8))), by omega, ⟨by simpa using HAA.out.1, HAA.out.2.1.set _ (uadd_lt _ _), ?_⟩, by go_num, hbl.out.setCell (by simp) _, HZ.out.other (by simp) _, HA.out.set _ _⟩, by simp [intOf]; omega⟩
          have hpm := hp2.out
          have hlen := Hm.out
          rw [hus.out, hst.out.2, rdn_succ (by omega), show m - (k + 1) = p by omega, Nat.add_mul, Nat.pow_succ, Nat.mul_assoc, Nat.mul_comm 256]
    · obtain rfl : k = m := by omega
      go_wp2_with (first | (refine load4 rfl _ rfl _ rfl 24 A HA.out HAA.out.1 ?_) | (refine store4 rfl _ _ rfl w.heap.size rfl A rfl 24 _ HZ.out HAA.out.1 rfl ?_; intro w1 hw1 ho1))
      refine bodyPost_ret (res4t rfl rfl hw1 HAA.out.1) rfl ⟨?_, ho1.below hbl.out (by omega)⟩
      have e1 : A = digs 4 (rdn L) := by
        have h := eq_digs HAA.out.1 HAA.out.2.1
        rw [HAA.out.2.2, ← Hm.out, List.take_length] at h
        simpa using h
      show Ending.returned (.tuple #[.agg (u64s A), .int .i64 0]) = _
      rw [e1]
theorem rread_any (v : Value) (L : List Nat) (hb : Byt L) (w : World) (hv : BV w v L) :
    Calls Try.prog 31 #[v] w fun e w' => e = .returned (rdOut L) ∧ Below w.heap.size w w' := by
  unfold rdOut
  rcases hv with ⟨rfl, rfl⟩ | ⟨b, off, c, rfl, hs⟩
  · exact rread_nil w
  · by_cases h : 32 < L.length
    · rw [if_pos h]; exact rread_long b off L.length c h w
    · rw [if_neg h]; exact rread_some b off c L hb (by omega) w hs
end Go.Proofs.Ytbklepgbieohiaa
