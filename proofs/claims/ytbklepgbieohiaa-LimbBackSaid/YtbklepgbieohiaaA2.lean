/- The walk of limb.Read. -/
import Derived.Test.YtbklepgbieohiaaA1
import Derived.Test.YtbklepgbieohiaaT
namespace Go.Proofs.Ytbklepgbieohiaa
open Go.RowKit

/-- The number that bytes are. -/
def rdn (L : List Nat) : Nat := L.foldl (fun a x => a * 256 + x) 0

theorem take_succ {L : List Nat} {k : Nat} (h : k < L.length) : L.take (k + 1) = L.take k ++ [nth L k] := by
  rw [List.take_add_one, List.getElem?_eq_getElem h, nth_lt h]; rfl

theorem rdn_succ {L : List Nat} {k : Nat} (h : k < L.length) : rdn (L.take (k + 1)) = rdn (L.take k) * 256 + nth L k := by
  rw [take_succ h]; simp [rdn]

theorem Byt.get {L : List Nat} (h : Byt L) (k : Nat) : nth L k < 256 := by
  by_cases hk : k < L.length
  · rw [nth_lt hk]; exact h _ (List.getElem_mem hk)
  · simp [nth, List.getElem?_eq_none (Nat.le_of_not_lt hk)]

theorem rdn_lt {L : List Nat} (h : Byt L) : ∀ k, k ≤ L.length → rdn (L.take k) < 256 ^ k
  | 0, _ => by simp [rdn]
  | k + 1, hk => by
    have h1 := rdn_lt h k (by omega)
    have h2 := h.get k
    rw [rdn_succ (by omega), Nat.pow_succ]
    omega

/-- What Read answers. -/
def rdOut (L : List Nat) : Value := if 32 < L.length then .tuple #[A4 0, .int .i64 3] else .tuple #[A4 (rdn L), .int .i64 0]

theorem A4_zero : A4 0 = .agg (u64s [0, 0, 0, 0]) := by unfold A4; rfl

theorem pow_le_B4 {k : Nat} (h : k ≤ 32) : 256 ^ k ≤ B ^ 4 := by
  have : B ^ 4 = 256 ^ 32 := by decide
  rw [this]; exact Nat.pow_le_pow_right (by decide) h

theorem shove8_step {A : List Nat} {n x : Nat} (hl : A.length = 4) (hd : Dig A) (hv : val A = n) (hx : x < 2 ^ 8) (hlt : n * 256 + x < B ^ 4) :
    (shvs 8 A x).length = 4 ∧ Dig (shvs 8 A x) ∧ val (shvs 8 A x) = n * 256 + x := by
  refine ⟨rfl, shvs_dig (by decide) hd hx, ?_⟩
  rw [shvs_val hl (by decide) hd hx, hv]
  exact Nat.mod_eq_of_lt hlt

theorem shove4_step {A : List Nat} {n x : Nat} (hl : A.length = 4) (hd : Dig A) (hv : val A = n) (hx : x < 2 ^ 4) (hlt : n * 16 + x < B ^ 4) :
    (shvs 4 A x).length = 4 ∧ Dig (shvs 4 A x) ∧ val (shvs 4 A x) = n * 16 + x := by
  refine ⟨rfl, shvs_dig (by decide) hd hx, ?_⟩
  rw [shvs_val hl (by decide) hd hx, hv]
  exact Nat.mod_eq_of_lt hlt

theorem zeros4 : (#[Value.int .u64 0, .int .u64 0, .int .u64 0, .int .u64 0] : Array Value) = u64s [0, 0, 0, 0] := rfl

set_option maxHeartbeats 400000 in
set_option maxRecDepth 100000 in
theorem read_nil (w : World) : Calls Try.prog 29 #[.slice none 0 0] w fun e w' => e = .returned (.tuple #[A4 0, .int .i64 0]) ∧ Below w.heap.size w w' := by
  have hX := Lib.hid ((Has.new w (u64s [0, 0, 0, 0]) 24).alloc (.cells (u64s [0, 0, 0, 0]) 24))
  have hA := Lib.hid (Has.newAt (w := w.alloc (.cells (u64s [0, 0, 0, 0]) 24)) (u64s [0, 0, 0, 0]) 24 (n := w.heap.size + 1) (by simp))
  have b0 := Lib.hid (((Below.refl w.heap.size w).alloc (Nat.le_refl _) (.cells (u64s [0, 0, 0, 0]) 24)).alloc (by simp) (.cells (u64s [0, 0, 0, 0]) 24))
  go_enter Try.func29, Try.ntmps29
  go_wp2
  go_loopw [13] (fun i wr => i = .int .i64 0 ∧ Below w.heap.size w wr ∧ Has wr w.heap.size 24 (u64s [0, 0, 0, 0]) ∧ Has wr (w.heap.size + 1) 24 (u64s [0, 0, 0, 0])) (fun _ _ => 0)
  case atStart => exact ⟨rfl, b0.out, hX.out, hA.out⟩
  case round =>
    obtain ⟨rfl, hbel, hZ, hA1⟩ := hrel
    have HZ := Lib.hid hZ; have HA := Lib.hid hA1
    clear hZ hA1
    go_wp2_with (first | (refine load4 rfl _ rfl _ rfl 24 [0, 0, 0, 0] HA.out rfl ?_) | (refine store4 rfl _ _ rfl w.heap.size rfl [0, 0, 0, 0] rfl 24 _ HZ.out rfl rfl ?_; intro w1 hw1 ho1))
    exact bodyPost_ret (res4t rfl rfl hw1 rfl) rfl ⟨by rw [A4_zero]; rfl, ho1.below hbel (by omega)⟩

set_option maxHeartbeats 400000 in
set_option maxRecDepth 100000 in
theorem read_long (b off n c : Nat) (hn : 32 < n) (w : World) : Calls Try.prog 29 #[.slice (some ⟨b, off, none⟩) n c] w fun e w' => e = .returned (.tuple #[A4 0, .int .i64 3]) ∧ Below w.heap.size w w' := by
  have hX := Lib.hid (Has.new w (u64s [0, 0, 0, 0]) 24)
  have b0 := Lib.hid ((Below.refl w.heap.size w).alloc (Nat.le_refl _) (.cells (u64s [0, 0, 0, 0]) 24))
  have hd : decide ((32 : Int) < (n : Int)) = true := by simp; omega
  have hz := zeros4
  go_enter Try.func29, Try.ntmps29
  go_wp2_with (refine store4 rfl _ _ rfl w.heap.size rfl [0, 0, 0, 0] rfl 24 _ hX.out rfl rfl ?_; intro w1 hw1 ho1)
  exact bodyPost_ret (res4t rfl rfl hw1 rfl) rfl ⟨by rw [A4_zero]; rfl, ho1.below b0.out (by omega)⟩

set_option maxHeartbeats 400000 in
set_option maxRecDepth 100000 in
theorem read_some (b off c : Nat) (L : List Nat) (hb : Byt L) (hn : L.length ≤ 32) (w : World) (hs : SegB w b off L) :
    Calls Try.prog 29 #[.slice (some ⟨b, off, none⟩) L.length c] w fun e w' => e = .returned (.tuple #[A4 (rdn L), .int .i64 0]) ∧ Below w.heap.size w w' := by
  have hX := Lib.hid ((Has.new w (u64s [0, 0, 0, 0]) 24).alloc (.cells (u64s [0, 0, 0, 0]) 24))
  have hA := Lib.hid (Has.newAt (w := w.alloc (.cells (u64s [0, 0, 0, 0]) 24)) (u64s [0, 0, 0, 0]) 24 (n := w.heap.size + 1) (by simp))
  have b0 := Lib.hid (((Below.refl w.heap.size w).alloc (Nat.le_refl _) (.cells (u64s [0, 0, 0, 0]) 24)).alloc (by simp) (.cells (u64s [0, 0, 0, 0]) 24))
  have hd : decide ((32 : Int) < (L.length : Int)) = false := by simp; omega
  have HS := Lib.hid hs
  have HB := Lib.hid hb
  have HR := Lib.hid (rdn_lt hb)
  generalize hm : L.length = m at *
  clear hs hb
  have Hm := Lib.hid hm
  clear hm
  go_enter Try.func29, Try.ntmps29
  go_wp2
  go_loopw [13] (fun i wr => ∃ (k : Nat) (A : List Nat), k ≤ m ∧ (A.length = 4 ∧ Dig A ∧ val A = rdn (L.take k)) ∧ i = .int .i64 k ∧ Below w.heap.size w wr ∧ Has wr w.heap.size 24 (u64s [0, 0, 0, 0]) ∧ Has wr (w.heap.size + 1) 24 (u64s A)) (fun i _ => m - (intOf i).toNat)
  case atStart => exact ⟨0, [0, 0, 0, 0], by omega, ⟨rfl, by simp [Dig, B], by simp [val, rdn]⟩, rfl, b0.out, hX.out, hA.out⟩
  case round =>
    obtain ⟨k, A, hk, hAA, rfl, hbel, hZ, hA1⟩ := hrel
    have HZ := Lib.hid hZ; have HA := Lib.hid hA1; have HAA := Lib.hid hAA; have hbl := Lib.hid hbel
    clear hZ hA1 hAA
    by_cases hlt : k < m
    · have h1 : wr.cell? ⟨b, off + k, none⟩ = some (.int .u8 ((nth L k : Nat) : Int)) := by
        have hlen := Hm.out
        exact (HS.out.below hbel (HS.out.lt (by omega))) k (by omega)
      have hx : nth L k < 2 ^ 8 := HB.out.get k
      have hst := Lib.hid (shove8_step HAA.out.1 HAA.out.2.1 HAA.out.2.2 hx (by
        have hlen := Hm.out
        have h2 := HR.out (k + 1) (by omega)
        rw [rdn_succ (by omega)] at h2
        exact Nat.lt_of_lt_of_le h2 (pow_le_B4 (by omega))))
      have hs8 := Lib.hid (shove8_core A (nth L k) HAA.out.1 HAA.out.2.1 hx)
      have hwr : IntKind.u64.wrap ((nth L k : Nat) : Int) = ((nth L k : Nat) : Int) := by rw [wrap_u64, Nat.mod_eq_of_lt (Nat.lt_of_lt_of_le hx (by decide))]
      clear hbel
      go_wp2_with (first | (refine load4 rfl _ rfl _ rfl 24 A HA.out HAA.out.1 ?_) | (go_at_call 46; refine (hs8.out _).mono ?_; rintro e w1 ⟨rfl, hb1⟩; have HA1 := Lib.hid (HA.out.below hb1 HA.out.lt); have HZ1 := Lib.hid (HZ.out.below hb1 HZ.out.lt)) | (refine store4 rfl _ _ rfl (w.heap.size + 1) rfl (shvs 8 A (nth L k)) rfl 24 _ HA1.out rfl HAA.out.1 ?_; intro w2 hw2 ho2))
      go_roundw
      case rel =>
        have hlen := Hm.out
        refine ⟨k + 1, shvs 8 A (nth L k), by omega, ⟨hst.out.1, hst.out.2.1, by rw [hst.out.2.2, rdn_succ (by omega)]⟩, by go_num, ho2.below (bcall hbl.out hb1 hbl.out.size) (by omega), HZ1.out.only ho2 (by omega), hw2⟩
      case measure => simp [intOf] <;> omega
    · obtain rfl : k = m := by omega
      go_wp2_with (first | (refine load4 rfl _ rfl _ rfl 24 A HA.out HAA.out.1 ?_) | (refine store4 rfl _ _ rfl w.heap.size rfl A rfl 24 _ HZ.out HAA.out.1 rfl ?_; intro w1 hw1 ho1))
      refine bodyPost_ret (res4t rfl rfl hw1 HAA.out.1) rfl ⟨?_, ho1.below hbl.out (by omega)⟩
      have e1 : A = digs 4 (rdn L) := by
        have h := eq_digs HAA.out.1 HAA.out.2.1
        rw [HAA.out.2.2, ← Hm.out, List.take_length] at h
        exact h
      show Ending.returned (.tuple #[.agg (u64s A), .int .i64 0]) = _
      rw [e1]
theorem read_any (v : Value) (L : List Nat) (hb : Byt L) (w : World) (hv : BV w v L) :
    Calls Try.prog 29 #[v] w fun e w' => e = .returned (rdOut L) ∧ Below w.heap.size w w' := by
  unfold rdOut
  rcases hv with ⟨rfl, rfl⟩ | ⟨b, off, c, rfl, hs⟩
  · exact read_nil w
  · by_cases h : 32 < L.length
    · rw [if_pos h]; exact read_long b off L.length c h w
    · rw [if_neg h]; exact read_some b off c L hb (by omega) w hs
end Go.Proofs.Ytbklepgbieohiaa
