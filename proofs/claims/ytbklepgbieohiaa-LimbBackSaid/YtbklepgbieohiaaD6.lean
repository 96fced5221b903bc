/- The walk of left (under way). -/
import Derived.Test.YtbklepgbieohiaaD5
namespace Go.Proofs.Ytbklepgbieohiaa
open Go.RowKit

theorem two64 {s : Nat} (hs : s < 64) : B = 2 ^ s * 2 ^ (64 - s) := by
  rw [← Nat.pow_add, show s + (64 - s) = 64 by omega]; rfl

theorem mL_pow {x s : Nat} (hs : s < 64) : mL x (2 ^ s) = 2 ^ s * (x % 2 ^ (64 - s)) := by
  unfold mL
  rw [Nat.mul_comm x, two64 hs, Nat.mul_mod_mul_left]

theorem left_lt {a x s : Nat} (ha : a < 2 ^ s) (hs : s < 64) : a + mL x (2 ^ s) < B := by
  rw [mL_pow hs, two64 hs]
  have h1 : x % 2 ^ (64 - s) + 1 ≤ 2 ^ (64 - s) := Nat.mod_lt _ (Nat.two_pow_pos _)
  have h2 := Nat.mul_le_mul_left (2 ^ s) h1
  rw [Nat.mul_add, Nat.mul_one] at h2
  omega

theorem bor_left {a x s : Nat} (ha : a < 2 ^ s) (hs : s < 64) :
    bits BinOp.or IntKind.u64 ((a : Nat) : Int) (IntKind.u64.wrap (((x : Nat) : Int) * 2 ^ s)) = ((uadd a (mL x (2 ^ s)) : Nat) : Int) := by
  have e : ((x : Int) * 2 ^ s) = ((x * 2 ^ s : Nat) : Int) := by simp
  have hl := left_lt (x := x) ha hs
  rw [e, wrap_u64, uadd_eq hl]
  have h := bits_or_u64_nat a (x * 2 ^ s % B) (Nat.lt_of_le_of_lt (Nat.le_add_right _ _) hl) (Nat.mod_lt _ B_pos)
  have e2 : a ||| x * 2 ^ s % B = a + mL x (2 ^ s) := by
    change a ||| mL x (2 ^ s) = _
    rw [mL_pow hs, Nat.or_comm, ← Nat.two_pow_add_eq_or_of_lt ha, Nat.add_comm]
  rw [e2] at h
  exact h

theorem shr_left {x s : Nat} (hs : s < 64) : ((x : Nat) : Int) / 2 ^ (64 - s) = ((mH x (2 ^ s) : Nat) : Int) := by
  have e : ((x : Int) / 2 ^ (64 - s)) = ((x / 2 ^ (64 - s) : Nat) : Int) := by simp
  rw [e]
  unfold mH
  rw [two64 hs, Nat.mul_comm x, Nat.mul_div_mul_left _ _ (Nat.two_pow_pos s)]

set_option maxHeartbeats 1000000 in
set_option maxRecDepth 100000 in
theorem left_any (L : List Nat) (s b off n c : Nat) (hn : L.length = n) (hs : s < 64) (hb : n ≤ 1000) (hd : Dig L) (w : World) (hL : Seg w b off L) (hw : b < w.heap.size) :
    Calls Try.prog 49 #[.slice (some ⟨b, off, none⟩) n c, .int .u64 s] w fun e w' => ∃ A, e = .returned (.slice (some ⟨w.heap.size, 0, none⟩) (n + 1) (n + 1)) ∧ Below w.heap.size w w' ∧
      Has w' w.heap.size 22 (u64s A) ∧ A.length = n + 1 ∧ Dig A ∧ val A = val L * 2 ^ s := by
  have HL := Lib.hid hL; have Hn := Lib.hid hn
  clear hL hn
  have hmk := make53 (n + 1) (by omega)
  simp only [Int.natCast_add, Int.cast_ofNat_Int] at hmk
  go_enter Try.func49, Try.ntmps49
  go_wp2
  go_loopw [14] (fun i wr => ∃ (k : Nat) (A : List Nat), k ≤ n ∧ LeftIn L (2 ^ s) k A ∧ i = .int .i64 k ∧ Below w.heap.size w wr ∧ Has wr w.heap.size 22 (u64s A)) (fun i _ => n - (intOf i).toNat)
  case atStart =>
    have hst := LeftIn.start (L := L) (Nat.two_pow_pos s)
    rw [Hn.out] at hst
    exact ⟨0, _, by omega, hst, rfl, (Below.refl _ _).alloc (Nat.le_refl _) _, Has.new _ _ _⟩
  case round =>
    obtain ⟨k, A, hk, hI, rfl, hbel, hA⟩ := hrel
    have HA := Lib.hid hA; have HI := Lib.hid hI; have Hb := Lib.hid hbel
    clear hA hI hbel
    by_cases hlt : k < n
    · have hd1 : decide ((k : Int) < (n : Int)) = true := by simp; omega
      have hkn : (k : Int) < (n : Int) := by omega
      have hkn1 : (k : Int) < (n : Int) + 1 := by omega
      have hkn2 : (k : Int) + 1 < (n : Int) + 1 := by omega
      have h1 := (HL.out.below Hb.out hw) k (by rw [Hn.out]; exact hlt)
      have h2 := HA.out.cell (k := k) (by have := HI.out.len; have := Hn.out; omega)
      have h3 := HA.out.free k
      have h4 := HA.out.free (k + 1)
      have hor := bor_left (x := nth L k) HI.out.low hs
      have hstep := Lib.hid (HI.out.step (by rw [Hn.out]; exact hlt) hd (Nat.two_pow_pos s) (by rw [two64 hs]; exact Nat.le_mul_of_pos_right _ (Nat.two_pow_pos _)) (left_lt HI.out.low hs))
      rw [← uadd_eq (left_lt (x := nth L k) HI.out.low hs)] at hstep
      by_cases h0 : 0 < s
      · have hd2 : decide ((0 : Int) < (s : Int)) = true := by simp; omega
        have hsh := shr_left (x := nth L k) hs
        have h5 := (HA.out.set k (uadd (nth A k) (mL (nth L k) (2 ^ s)))).cell (k := k + 1) (by have := HI.out.len; have := Hn.out; simp; omega)
        have h6 := (HA.out.set k (uadd (nth A k) (mL (nth L k) (2 ^ s)))).free (k + 1)
        go_wp2
        exact ⟨⟨k + 1, _, by omega, hstep.out, by go_num, (Hb.out.setCell (Nat.le_refl _) _).setCell (Nat.le_refl _) _, (HA.out.set k _).set (k + 1) _⟩, by simp [intOf]; omega⟩
      · obtain rfl : s = 0 := by omega
        have hm0 : mH (nth L k) (2 ^ 0) = 0 := by unfold mH; rw [Nat.pow_zero, Nat.mul_one]; exact Nat.div_eq_of_lt (hd.get k)
        have hset : ((A.set k (uadd (nth A k) (mL (nth L k) (2 ^ 0)))).set (k + 1) (mH (nth L k) (2 ^ 0))) = A.set k (uadd (nth A k) (mL (nth L k) (2 ^ 0))) := by
          have hA0 := HI.out.top (k + 1) (by omega)
          have hlA : k + 1 < A.length := by have := HI.out.len; have := Hn.out; omega
          rw [hm0]
          apply List.ext_getElem (by simp)
          intro q h1 h2
          by_cases hq : q = k + 1
          · subst q; simp; rw [nth_lt hlA] at hA0; exact hA0.symm
          · simp [List.getElem_set, Ne.symm hq]
        rw [hset] at hstep
        have hor0 : bits BinOp.or IntKind.u64 ((nth A k : Nat) : Int) (IntKind.u64.wrap ((nth L k : Nat) : Int)) = ((uadd (nth A k) (mL (nth L k) (2 ^ 0)) : Nat) : Int) := by simpa using hor
        go_wp2
        exact ⟨⟨k + 1, _, by omega, hstep.out, by go_num, Hb.out.setCell (Nat.le_refl _) _, HA.out.set k _⟩, by simp [intOf]; omega⟩
    · obtain rfl : k = n := by omega
      go_wp2
      go_ret
      refine ⟨A, rfl, Hb.out, HA.out, ?_, HI.out.dig, ?_⟩
      · rw [HI.out.len, Hn.out]
      · exact LeftIn.done (by rw [Hn.out]; exact HI.out)
end Go.Proofs.Ytbklepgbieohiaa
