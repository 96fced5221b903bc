/- The walk of take. -/
import Derived.Test.YtbklepgbieohiaaD3
namespace Go.Proofs.Ytbklepgbieohiaa
open Go.RowKit

set_option maxHeartbeats 1000000 in
set_option maxRecDepth 100000 in
theorem take_any (A D : List Nat) (q g o nl c gd n cd : Nat) (t : TypeId) (hdA : Dig A) (hdD : Dig D) (hq : q < B) (hn : D.length = n) (hon : o + n < A.length) (hnl : n < nl) (hb : n ≤ 1000) (hne : gd ≠ g) (w : World)
    (hA : Has w g t (u64s A)) (hD : Seg w gd 0 D) :
    Calls Try.prog 51 #[.slice (some ⟨g, o, none⟩) nl c, .slice (some ⟨gd, 0, none⟩) n cd, .int .u64 q] w fun e w' => ∃ br, br ≤ 1 ∧ e = .returned (.bool (br == 1)) ∧ Only g w w' ∧
      ∃ A', Has w' g t (u64s A') ∧ A'.length = A.length ∧ Dig A' ∧ val A' + B ^ o * (q * val D) = val A + B ^ (o + n + 1) * br ∧ ∀ p, o + n < p → nth A' p = nth A p := by
  have HA0 := Lib.hid hA; have HD0 := Lib.hid hD; have Hn := Lib.hid hn; have Hon := Lib.hid hon
  clear hA hD hn hon
  go_enter Try.func51, Try.ntmps51
  go_wp2
  go_loopw [7, 8, 17] (fun b x i wr => ∃ (k br ca : Nat) (A' : List Nat), k ≤ n ∧ TakeIn A D q o k br ca A' ∧ i = .int .i64 k ∧ b = .int .u64 br ∧ x = .int .u64 ca ∧ Only g w wr ∧ Has wr g t (u64s A')) (fun _ _ i _ => n - (intOf i).toNat)
  case atStart => exact ⟨0, 0, 0, A, by omega, TakeIn.start hdA, rfl, rfl, rfl, Only.refl g w, HA0.out⟩
  case round =>
    obtain ⟨k, br, ca, A', hk, hG, rfl, rfl, rfl, hO, hA⟩ := hrel
    have HA := Lib.hid hA; have HO := Lib.hid hO; have HG := Lib.hid hG
    clear hA hO hG
    by_cases hlt : k < n
    · have hd : decide ((k : Int) < (n : Int)) = true := by simp; omega
      have hkn : (k : Int) < (n : Int) := by omega
      have hkl : (k : Int) < (nl : Int) := by omega
      have h1 := (HD0.out.only HO.out hne).at (j := k) (by rw [Hn.out]; exact hlt)
      have h2 := HA.out.cell (k := o + k) (by rw [HG.out.len]; have := Hon.out; omega)
      have h3 := HA.out.free (o + k)
      have hm64 := Lib.hid (mul64 q (nth D k) hq (hdD.get k))
      have hst := take_step hq (hdD.get k) HG.out.car
      simp only at hst
      have hs1 : ∀ w, (callFunc 43 #[.int .u64 ((mL q (nth D k) : Nat) : Int), .int .u64 ((ca : Nat) : Int), .int .u64 0]).run Try.prog w = .ok (.value (.tuple #[.int .u64 ((aD (mL q (nth D k)) ca 0 : Nat) : Int), .int .u64 ((aB (mL q (nth D k)) ca 0 : Nat) : Int)])) w :=
        add64 (mL q (nth D k)) ca 0 (Nat.mod_lt _ B_pos) HG.out.car (by omega)
      have hs2 := sub64 (nth A' (o + k)) (aD (mL q (nth D k)) ca 0) br HG.out.bor
      have hst2 := sub_step (x := nth A' (o + k)) (y := aD (mL q (nth D k)) ca 0) (b := br) (HG.out.dig.get _) hst.2.1 HG.out.bor
      have hw := wrap_add (mH q (nth D k)) (aB (mL q (nth D k)) ca 0)
      have hu := Lib.hid (uadd_eq hst.2.2.1)
      have hstep := Lib.hid (HG.out.step (by rw [Hn.out]; exact hlt) (by have := Hon.out; omega) hst.2.2.2 hst2.1 hst2.2.2 hst2.2.1 hst.2.2.1)
      clear hst hst2
      generalize sD (nth A' (o + k)) (aD (mL q (nth D k)) ca 0) br = d at *
      generalize sB (nth A' (o + k)) (aD (mL q (nth D k)) ca 0) br = br' at *
      generalize aD (mL q (nth D k)) ca 0 = low at *
      generalize aB (mL q (nth D k)) ca 0 = c1 at *
      go_wp2_with (go_at_call 53; refine (hm64.out _).mono ?_; rintro e w1 ⟨rfl, rfl⟩)
      exact ⟨⟨k + 1, br', uadd (mH q (nth D k)) c1, A'.set (o + k) d, by omega, by rw [hu.out]; exact hstep.out, by go_num, rfl, rfl, HO.out.setCell _ _, HA.out.set _ _⟩, by simp [intOf]; omega⟩
    · obtain rfl : k = n := by omega
      have hkl : (k : Int) < (nl : Int) := by omega
      have h2 := HA.out.cell (k := o + k) (by rw [HG.out.len]; exact Hon.out)
      have h3 := HA.out.free (o + k)
      have hs2 := sub64 (nth A' (o + k)) ca br HG.out.bor
      have hst2 := sub_step (x := nth A' (o + k)) (y := ca) (b := br) (HG.out.dig.get _) HG.out.car HG.out.bor
      have hdn := Lib.hid (HG.out.done Hn.out Hon.out hst2.1 hst2.2.2 hst2.2.1)
      have hbr := hst2.2.1
      clear hst2
      generalize sD (nth A' (o + k)) ca br = d at *
      generalize sB (nth A' (o + k)) ca br = br' at *
      go_wp2
      refine bodyPost_ret (results_tmp rfl _ _ _) rfl ⟨br', hbr, ?_, HO.out.setCell _ _, A'.set (o + k) d, HA.out.set _ _, hdn.out.1, hdn.out.2.1, hdn.out.2.2, fun p hp => by rw [nth_set_ne (by omega)]; exact HG.out.rest p (by omega)⟩
      have e1 : (((br' : Nat) : Int) == 1) = (br' == 1) := by
        rw [Bool.eq_iff_iff]; simp; omega
      show Ending.returned (.bool (((br' : Nat) : Int) == 1)) = _
      rw [e1]
end Go.Proofs.Ytbklepgbieohiaa
