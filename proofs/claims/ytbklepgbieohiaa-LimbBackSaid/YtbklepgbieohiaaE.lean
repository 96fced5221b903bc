/- The walks of the reference's wide and Widen. -/
import Derived.Test.YtbklepgbieohiaaD
import Derived.IntWalk
namespace Go.Proofs.Ytbklepgbieohiaa
open Go.RowKit

/-- A part out of two halves. -/
def half2 (D : List Nat) (i : Nat) : Nat := uadd (nth D (2 * i)) (umul (nth D (2 * i + 1)) 4294967296)

theorem nth_set {A : List Nat} {k j v : Nat} (hk : k < A.length) : nth (A.set k v) j = if j = k then v else nth A j := by
  unfold nth
  rw [List.getD_eq_getElem?_getD, List.getD_eq_getElem?_getD, List.getElem?_set]
  by_cases h : k = j
  · subst h; simp [hk]
  · simp [h, Ne.symm h]

theorem list_of_nth {A : List Nat} {n : Nat} {f : Nat → Nat} (hl : A.length = n) (h : ∀ j, j < n → nth A j = f j) : A = (List.range n).map f := by
  subst hl
  apply List.ext_getElem
  · simp
  · intro i h1 h2
    rw [← nth_lt h1, h i h1]
    simp

set_option maxHeartbeats 400000 in
theorem wide_any (D : List Nat) (b off n c : Nat) (hn : D.length = n) (_hc : n ≤ c) (h16 : 16 ≤ n) (hb : n ≤ 1000) (w : World) (hD : Seg w b off D) (hw : b < w.heap.size) :
    Calls Try.prog 45 #[.slice (some ⟨b, off, none⟩) n c] w fun e w' => e = .returned (.agg (u64s ((List.range 8).map (half2 D)))) ∧ Below w.heap.size w w' := by
  have HD := Lib.hid hD
  have Hn := Lib.hid hn
  clear hD hn
  go_enter Try.func45, Try.ntmps45
  go_wp2
  go_loopw [4] (fun i wr => ∃ (k : Nat) (A : List Nat), k ≤ 8 ∧ A.length = 8 ∧ (∀ j, j < k → nth A j = half2 D j) ∧ i = .int .i64 k ∧ Below w.heap.size w wr
      ∧ Has wr w.heap.size 37 (u64s [0, 0, 0, 0, 0, 0, 0, 0]) ∧ Has wr (w.heap.size + 1) 37 (u64s A)) (fun i _ => 8 - (intOf i).toNat)
  case atStart =>
    refine ⟨0, [0, 0, 0, 0, 0, 0, 0, 0], by omega, rfl, fun j hj => by omega, rfl, ?_, ?_, ?_⟩
    · exact ((Below.refl _ _).alloc (Nat.le_refl _) _).alloc (by simp) _
    · exact (Has.new w (u64s [0, 0, 0, 0, 0, 0, 0, 0]) 37).alloc _
    · exact Has.newAt (u64s [0, 0, 0, 0, 0, 0, 0, 0]) 37 (by simp)
  case round =>
    obtain ⟨k, A, hk, hl, hA, rfl, hbel, hZ, hO⟩ := hrel
    by_cases hlt : k < 8
    · have h1 := HD.out.below hbel hw (2 * k) (by rw [Hn.out]; omega)
      have h2 := HD.out.below hbel hw (2 * k + 1) (by rw [Hn.out]; omega)
      have h3 := hO.cell (k := k) (by omega)
      have h4 := hO.free k
      have e1 : IntKind.i64.wrap (2 * (k : Int)) = ((2 * k : Nat) : Int) := by rw [IntWalk.i64_in _ (by omega)]; simp
      have e2 : IntKind.i64.wrap (((2 * k : Nat) : Int) + 1) = ((2 * k + 1 : Nat) : Int) := by rw [IntWalk.i64_in _ (by omega)]; simp
      have e3 : IntKind.u64.wrap (((nth D (2 * k + 1) : Nat) : Int) * 4294967296) = ((umul (nth D (2 * k + 1)) 4294967296 : Nat) : Int) := wrap_mul _ _
      have e4 := wrap_add (nth D (2 * k)) (umul (nth D (2 * k + 1)) 4294967296)
      have hi1 : ((2 * k : Nat) : Int) < (n : Int) := by omega
      have hi2 : ((2 * k + 1 : Nat) : Int) < (n : Int) := by omega
      have HO := Lib.hid hO; have HZ := Lib.hid hZ; have HA := Lib.hid hA
      clear hO hZ hA
      go_wp2
      go_region
      go_wp2
      go_roundw
      case rel =>
        refine ⟨k + 1, _, by omega, ?_, ?_, by go_num, ?_, ?_, HO.out.set k _⟩
        · simpa using hl
        · intro j hj
          rw [nth_set (by omega)]
          split
          · subst j; rfl
          · exact HA.out j (by omega)
        · exact (hbel.setCell (by simp) _).drew
        · exact HZ.out.other (by simp) _
      case measure => simp [intOf] <;> omega
    · obtain rfl : k = 8 := by omega
      have HO := Lib.hid hO; have HZ := Lib.hid hZ; have HA := Lib.hid (list_of_nth hl hA)
      clear hO hZ hA
      go_wp2_with (first | (refine load8 rfl _ rfl (w.heap.size + 1) rfl 37 A HO.out hl ?_) | (refine store8 rfl _ _ rfl w.heap.size rfl A rfl 37 _ HZ.out hl rfl ?_; intro w1 hw1 ho1))
      refine bodyPost_ret (res8 rfl rfl hw1 hl) rfl ⟨?_, ho1.below hbel (Nat.le_refl _)⟩
      rw [HA.out]
end Go.Proofs.Ytbklepgbieohiaa
