/- The walk of give. -/
import Derived.Test.YtbklepgbieohiaaD1
namespace Go.Proofs.Ytbklepgbieohiaa
open Go.RowKit

set_option maxHeartbeats 1000000 in
set_option maxRecDepth 100000 in
theorem give_any (A D : List Nat) (g o nl c gd n cd : Nat) (t : TypeId) (hdA : Dig A) (hdD : Dig D) (hn : D.length = n) (hon : o + n < A.length) (hnl : n < nl) (hb : n ≤ 1000) (hne : gd ≠ g) (w : World)
    (hA : Has w g t (u64s A)) (hD : Seg w gd 0 D) :
    Calls Try.prog 52 #[.slice (some ⟨g, o, none⟩) nl c, .slice (some ⟨gd, 0, none⟩) n cd] w fun e w' => e = .returned (.tuple #[]) ∧ Only g w w' ∧
      ∃ A', Has w' g t (u64s A') ∧ A'.length = A.length ∧ Dig A' ∧ val A' + B ^ (o + n + 1) * (if nth A (o + n) ≤ nth A' (o + n) then 0 else 1) = val A + B ^ o * val D ∧ ∀ p, o + n < p → nth A' p = nth A p := by
  have HA0 := Lib.hid hA; have HD0 := Lib.hid hD; have Hn := Lib.hid hn; have Hon := Lib.hid hon
  clear hA hD hn hon
  go_enter Try.func52, Try.ntmps52
  go_wp2
  go_loopw [4, 9] (fun b i wr => ∃ (k b' : Nat) (A' : List Nat), k ≤ n ∧ GiveIn A D o k b' A' ∧ i = .int .i64 k ∧ b = .int .u64 b' ∧ Only g w wr ∧ Has wr g t (u64s A')) (fun _ i _ => n - (intOf i).toNat)
  case atStart => exact ⟨0, 0, A, by omega, GiveIn.start hdA, rfl, rfl, Only.refl g w, HA0.out⟩
  case round =>
    obtain ⟨k, b', A', hk, hG, rfl, rfl, hO, hA⟩ := hrel
    have HA := Lib.hid hA; have HO := Lib.hid hO; have HG := Lib.hid hG
    clear hA hO hG
    by_cases hlt : k < n
    · have hd : decide ((k : Int) < (n : Int)) = true := by simp; omega
      have hkn : (k : Int) < (n : Int) := by omega
      have hkl : (k : Int) < (nl : Int) := by omega
      have h1 := (HD0.out.only HO.out hne).at (j := k) (by rw [Hn.out]; exact hlt)
      have h2 := HA.out.cell (k := o + k) (by rw [HG.out.len]; have := Hon.out; omega)
      have h3 := HA.out.free (o + k)
      have hs := add64 (nth A' (o + k)) (nth D k) b' (HG.out.dig.get _) (hdD.get k) HG.out.car
      have hst := add_step (HG.out.dig.get (o + k)) (hdD.get k) HG.out.car
      have hstep := Lib.hid (HG.out.step (by rw [Hn.out]; exact hlt) (by have := Hon.out; omega) hst.1 hst.2.2 hst.2.1)
      clear hst
      generalize aD (nth A' (o + k)) (nth D k) b' = d at *
      generalize aB (nth A' (o + k)) (nth D k) b' = c' at *
      go_wp2
      exact ⟨⟨k + 1, c', A'.set (o + k) d, by omega, hstep.out, by go_num, rfl, HO.out.setCell _ _, HA.out.set _ _⟩, by simp [intOf]; omega⟩
    · obtain rfl : k = n := by omega
      have hkl : (k : Int) < (nl : Int) := by omega
      have h2 := HA.out.cell (k := o + k) (by rw [HG.out.len]; exact Hon.out)
      have h3 := HA.out.free (o + k)
      have hwa := wrap_add (nth A' (o + k)) b'
      have hdn := Lib.hid (HG.out.done Hn.out Hon.out)
      go_wp2
      refine bodyPost_end (results_none rfl _ _ _) rfl ⟨rfl, HO.out.setCell _ _, A'.set (o + k) (uadd (nth A' (o + k)) b'), HA.out.set _ _, hdn.out.1, hdn.out.2.1, ?_, fun p hp => by rw [nth_set_ne (by omega)]; exact HG.out.rest p (by omega)⟩
      have hln := HG.out.len
      have hlo := Hon.out
      rw [nth_set (by omega), if_pos rfl]
      exact hdn.out.2.2
end Go.Proofs.Ytbklepgbieohiaa
