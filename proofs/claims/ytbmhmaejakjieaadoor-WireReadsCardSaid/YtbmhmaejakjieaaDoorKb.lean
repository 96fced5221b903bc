/- The walk of SameFields where the fields are the same. -/
import Derived.Test.YtbmhmaejakjieaaDoorCb
import Derived.Test.YtbmhmaejakjieaaDoorLf
namespace Go.Proofs.YtbmhmaejakjieaaDoor
open Go.RowKit

set_option maxHeartbeats 4000000 in
set_option maxRecDepth 100000 in
theorem sameFields_any (l : List Fld) (v1 v2 : Value) (w : World) (h1 : FIn w v1 l) (h2 : FIn w v2 l) (hb : ∀ x ∈ l, Byt x.2) (hl : l.length ≤ 100000) :
    Calls Tryd.prog 14 #[v1, v2] w fun e w' => e = .returned (.bool true) ∧ Below w.heap.size w w' := by
  obtain ⟨a1, c1, rfl, hs1⟩ := h1
  obtain ⟨a2, c2, rfl, hs2⟩ := h2
  have HS1 := Lib.hid hs1; have HS2 := Lib.hid hs2; have HB := Lib.hid hb; have HL := Lib.hid hl
  clear hs1 hs2 hb hl
  go_enter Tryd.func14, Tryd.ntmps14
  go_wp2
  go_loopw [5] (fun i wr => ∃ (k : Nat), k ≤ l.length ∧ i = .int .i64 k ∧ Below w.heap.size w wr) (fun i _ => l.length - (intOf i).toNat)
  case atStart => exact ⟨0, by omega, rfl, Below.refl _ _⟩
  case round =>
    obtain ⟨k, hk, rfl, hbel⟩ := hrel
    have Hb := Lib.hid hbel
    clear hbel
    by_cases hlt : k < l.length
    · have hd1 : decide ((k : Int) < (l.length : Int)) = true := by simp; omega
      have hkl : (k : Int) < (l.length : Int) := by omega
      have hkk : (k : Int) < 100000 := by have := HL.out; omega
      obtain ⟨b1, off1, rfl, hbl1, hs1⟩ : ∃ b off, a1 = some ⟨b, off, none⟩ ∧ b < w.heap.size ∧ ∀ j, j < l.length → w.cell? ⟨b, off + j * 2, none⟩ = some (.int .i64 (nthF l j).1) ∧ ∃ u, w.cell? ⟨b, off + j * 2 + 1, none⟩ = some u ∧ In w u (nthF l j).2 := by
        rcases HS1.out with h | h
        · rw [h] at hlt; simp at hlt
        · exact h
      obtain ⟨b2, off2, rfl, hbl2, hs2⟩ : ∃ b off, a2 = some ⟨b, off, none⟩ ∧ b < w.heap.size ∧ ∀ j, j < l.length → w.cell? ⟨b, off + j * 2, none⟩ = some (.int .i64 (nthF l j).1) ∧ ∃ u, w.cell? ⟨b, off + j * 2 + 1, none⟩ = some u ∧ In w u (nthF l j).2 := by
        rcases HS2.out with h | h
        · rw [h] at hlt; simp at hlt
        · exact h
      obtain ⟨t1, x1, e1, i1⟩ := hs1 k hlt
      obtain ⟨t2, x2, e2, i2⟩ := hs2 k hlt
      have hby : Byt (nthF l k).2 := HB.out _ (by
        unfold nthF
        rw [List.getD_eq_getElem?_getD, List.getElem?_eq_getElem hlt]
        exact List.getElem_mem hlt)
      have Hi1 := Lib.hid i1; have Hi2 := Lib.hid i2; have Hby := Lib.hid hby
      clear hs1 hs2 i1 i2 hby
      generalize hT : (nthF l k).1 = T at *
      go_wp2
      have q0 : Kp w wr.drew := Hb.out.drew
      refine wp_region_ord (Kp w) [(true, 0), (true, 1), (true, 2), (true, 3), (true, 4), (true, 5), (true, 6), (true, 7), (true, 8), (true, 9), (true, 10), (true, 11), (true, 12), (true, 13), (true, 14), (true, 15), (true, 16), (true, 17), (true, 18), (true, 19), (true, 20), (true, 21), (false, 22), (true, 23), (true, 24)] (by kernel_rfl) (by kernel_rfl) rfl (by kernel_rfl) ?_
      iterate 22 (first
        | (refine O_read rfl (by assumption) (fun K' hK => ?_); refine R_pure ?_ rfl (fun w => ?_) ?_; rotate_left; (focus (first | (go_simp; rfl) | (go_simp; done))); go_simp; refine hK _ ?_; clear hK K')
        | (refine O_read rfl (by assumption) (fun K' hK => ?_); refine R_read (.int .i64 T) rfl (fun w hS => ?_) ?_; (focus (have hc := (hS.cell (p := ⟨b1, off1 + k * 2, none⟩) hbl1).trans t1; go_simp; done)); go_simp; refine hK _ ?_; clear hK K')
        | (refine O_read rfl (by assumption) (fun K' hK => ?_); refine R_read (.int .i64 T) rfl (fun w hS => ?_) ?_; (focus (have hc := (hS.cell (p := ⟨b2, off2 + k * 2, none⟩) hbl2).trans t2; go_simp; done)); go_simp; refine hK _ ?_; clear hK K')
        | (refine O_read rfl (by assumption) (fun K' hK => ?_); refine R_read x1 rfl (fun w hS => ?_) ?_; (focus (have hc := (hS.cell (p := ⟨b1, off1 + k * 2 + 1, none⟩) hbl1).trans e1; go_simp; done)); go_simp; refine hK _ ?_; clear hK K')
        | (refine O_read rfl (by assumption) (fun K' hK => ?_); refine R_read x2 rfl (fun w hS => ?_) ?_; (focus (have hc := (hS.cell (p := ⟨b2, off2 + k * 2 + 1, none⟩) hbl2).trans e2; go_simp; done)); go_simp; refine hK _ ?_; clear hK K'))
      refine O_call rfl (fun K' hK => ?_)
      refine R_callc 15 _ rfl (fun w => ?_) (same_in x1 x2 (nthF l k).2 wr.drew (Hi1.out.below q0) (Hi2.out.below q0) Hby.out) ?_
      · go_simp; done
      rintro e w4 ⟨rfl, rfl⟩
      refine ⟨_, rfl, hK _ _ q0 ?_⟩
      clear hK K'
      go_simp
      iterate 2 (refine O_read rfl (by assumption) (fun K' hK => ?_); refine R_pure ?_ rfl (fun w => ?_) ?_; rotate_left; (focus (first | (go_simp; rfl) | (go_simp; done))); go_simp; refine hK _ ?_; clear hK K')
      refine O_nil ?_
      have Hq0 := Lib.hid q0
      clear q0
      go_wp2
      exact ⟨⟨k + 1, by omega, by go_num, Hq0.out⟩, by simp [intOf]; omega⟩
    · obtain rfl : k = l.length := by omega
      have hd1 : decide ((l.length : Int) < (l.length : Int)) = false := by simp
      go_wp2
      exact bodyPost_ret (results_tmp rfl _ _ _) rfl ⟨rfl, Hb.out⟩
end Go.Proofs.YtbmhmaejakjieaaDoor
