/- The walk of ref.List. -/
import Derived.Test.YtbmhmaejakjieaaDoorLc
namespace Go.Proofs.YtbmhmaejakjieaaDoor
open Go.RowKit

section
variable {ops : Array Oper} {o : Oper} {a : Act} {w : World} {K' : Act → World → Prop}

/-- Two bytes made. -/
theorem R_two (hw : Region.wanted o (yielded ops a.tmps) = true) (s x : Operand) (ho : o.op = .buildSlice 23 2 #[(0, s), (1, x)]) (p q : Nat) (hs : a.eval s = .int .u8 (p : Int)) (hx : a.eval x = .int .u8 (q : Int))
    (h : K' (a.put o.dst (.slice (some ⟨w.heap.size, 0, none⟩) 2 2)) (w.alloc (.cells (u8s [p, q]) 5))) : opS Tryd.prog ops o K' a w := by
  have hr : (Instr.buildSlice 23 2 #[(0, .int .u8 (p : Int)), (1, .int .u8 (q : Int))]).run Tryd.prog w = .ok (.slice (some ⟨w.heap.size, 0, none⟩) 2 2) (w.alloc (.cells #[.int .u8 (p : Int), .int .u8 (q : Int)] 5)) := by go_simp
  refine .inl ⟨hw, ?_⟩
  unfold execOp
  simp only [ho, Sem.run_bind, Sem.run_pure, Result.andThen_ok, List.map_toArray, List.map_cons, List.map_nil, hs, hx, hr, RunsTo]
  exact h
end

theorem OwnB.form_len {w : World} {N : Nat} {v : Value} {L : List Nat} (h : OwnB w N v L) : ∃ a c, v = .slice a L.length c := by
  rcases h.form with ⟨h, h0⟩ | ⟨g, c, h, _⟩
  · exact ⟨none, 0, by rw [h, h0]; rfl⟩
  · exact ⟨_, _, h⟩

set_option maxHeartbeats 2000000 in
set_option maxRecDepth 100000 in
theorem rlist_any (l : List (List Nat)) (v : Value) (w : World) (hv : LV w v l) :
    Calls Tryd.prog 24 #[v] w fun e w' => ∃ v' n, e = .returned (.tuple #[v', .int .i64 n]) ∧ Below w.heap.size w w' ∧
      ((listOK l ∧ n = 0 ∧ OwnB w' w.heap.size v' (flatL l)) ∨ (¬ listOK l ∧ n = 3 ∧ v' = .slice none 0 0)) := by
  obtain ⟨a, c, rfl, hs⟩ := hv
  have HS := Lib.hid hs
  clear hs
  by_cases h256 : l.length ≤ 256
  · have hd : decide ((256 : Int) < (l.length : Int)) = false := by simp; omega
    have H256 := Lib.hid h256
    have b0 := Lib.hid ((Below.refl w.heap.size w).alloc (Nat.le_refl _) (.cells #[] 5))
    have o0 := Lib.hid (OwnB.lit0 w w.heap.size (Nat.le_refl _))
    clear h256
    go_enter Tryd.func24, Tryd.ntmps24
    go_wp2
    go_loopw [4, 5] (fun out i wr => ∃ (k : Nat), k ≤ l.length ∧ i = .int .i64 k ∧ Below w.heap.size w wr ∧ OwnB wr w.heap.size out (flatL (l.take k)) ∧ (flatL (l.take k)).length ≤ 4096) (fun _ i _ => l.length - (intOf i).toNat)
    case atStart => exact ⟨0, by omega, rfl, b0.out, by simpa [flatL] using o0.out, by simp [flatL]⟩
    case round =>
      obtain ⟨k, hk, rfl, hbel, hown, hfl⟩ := hrel
      have Hb := Lib.hid hbel; have HW := Lib.hid hown; have HF := Lib.hid hfl
      clear hbel hown hfl
      by_cases hlt : k < l.length
      · have hd1 : decide ((k : Int) < (l.length : Int)) = true := by simp; omega
        have hkl : (k : Int) < (l.length : Int) := by omega
        have hkk : (k : Int) < 256 := by have := H256.out; omega
        obtain ⟨b, off, rfl, hbl, hs⟩ : ∃ b off, a = some ⟨b, off, none⟩ ∧ b < w.heap.size ∧ SegL w b off l := by
          rcases HS.out with h | h
          · rw [h] at hlt; simp at hlt
          · exact h
        obtain ⟨u, h2, h3⟩ := hs k hlt
        have h2w := h2
        have h2 : wr.cell? ⟨b, off + k, none⟩ = some u := by rw [Hb.out.cell (p := ⟨b, off + k, none⟩) hbl]; exact h2
        have hE := flatL_succ hlt
        have hO := fun h => list_over (l := l) hlt h
        obtain ⟨a1, c1, hu, h3b⟩ := h3
        have H3 : Hid (In w (.slice a1 (nthL l k).length c1) (nthL l k)) := Lib.hid ⟨a1, c1, rfl, h3b⟩
        subst hu
        have Hbl : Hid (b < wr.heap.size) := Lib.hid (Nat.lt_of_lt_of_le hbl Hb.out.size)
        generalize hX : nthL l k = X at *
        generalize hm : X.length = m at *
        have HE := Lib.hid hE; have HOv := Lib.hid hO; have Hm := Lib.hid hm
        clear hE hO hs h3b hm HS
        by_cases g1 : m ≤ 4096
        · have hg1 : decide ((4096 : Int) < (m : Int)) = false := by simp; omega
          obtain ⟨x, hx⟩ : ∃ x, m / 256 = x := ⟨_, rfl⟩
          obtain ⟨y, hy⟩ : ∃ y, m % 256 = y := ⟨_, rfl⟩
          have e1 : IntKind.i64.wrap ((m : Int) / 256) = ((x : Nat) : Int) := by rw [IntKind.wrap_i64]; omega
          have e2 : IntKind.u8.wrap ((x : Nat) : Int) = ((x : Nat) : Int) := by rw [IntKind.wrap_u8]; omega
          have e3 : ((m : Nat) : Int).tmod 256 = ((y : Nat) : Int) := by rw [Int.tmod_eq_emod_of_nonneg (by omega)]; omega
          have e4 : IntKind.u8.wrap ((y : Nat) : Int) = ((y : Nat) : Int) := by rw [IntKind.wrap_u8]; omega
          rw [hx, hy] at HE
          have Hg1 := Lib.hid g1
          clear hx hy g1
          obtain ⟨Z, hZ⟩ : ∃ Z, (flatL (l.take (k + 1))).length = Z := ⟨_, rfl⟩
          have hZs : Z = (flatL (l.take k)).length + 2 + m := by
            rw [← hZ, HE.out]; have := Hm.out; simp only [List.length_append, List.length_cons, List.length_nil]; omega
          have HZ := Lib.hid hZ; have HZs := Lib.hid hZs
          clear hZ hZs
          by_cases g2 : 4096 < Z
          · have hg2 : decide ((4096 : Int) < (Z : Int)) = true := by simp; omega
            have hnot := Lib.hid (HOv.out (by have := HZs.out; omega))
            clear g2
            go_wp2
            have q0 : Kp w wr.drew := Hb.out.drew
            refine wp_region_ord (Kp w) [(true, 0), (true, 1), (true, 2), (true, 3), (true, 4), (true, 5), (true, 6), (true, 7), (true, 8), (true, 9), (true, 10), (true, 11), (true, 12), (true, 13), (true, 14), (false, 15), (false, 16), (true, 17)] (by kernel_rfl) (by kernel_rfl) rfl (by kernel_rfl) ?_
            iterate 15 (first
              | (refine O_read rfl (by assumption) (fun K' hK => ?_); refine R_pure ?_ rfl (fun w => ?_) ?_; rotate_left; (focus (first | (go_simp; rfl) | (go_simp; done))); go_simp; refine hK _ ?_; clear hK K')
              | (refine O_read rfl (by assumption) (fun K' hK => ?_); refine R_read (.slice a1 m c1) rfl (fun w hS => ?_) ?_; (focus (have hc := (hS.cell (p := ⟨b, off + k, none⟩) hbl).trans h2w; go_simp; done)); go_simp; refine hK _ ?_; clear hK K'))
            have hww : OwnB (wr.drew.alloc (.cells (u8s [x, y]) 5)) w.heap.size u4 (flatL (l.take k)) := HW.out.drew.alloc _
            have q1 : Kp w (wr.drew.alloc (.cells (u8s [x, y]) 5)) := q0.alloc q0.size _
            refine O_call rfl (fun K' hK => ?_); refine R_two rfl (.tmp 29) (.tmp 36) rfl x y rfl rfl ?_; go_simp; refine hK _ _ q1 ?_; clear hK K'
            refine O_call rfl (fun K' hK => ?_); refine R_appB rfl (.tmp 22) (.tmp 37) rfl w.heap.size u4 (.slice (some ⟨wr.heap.size, 0, none⟩) 2 2) (flatL (l.take k)) [x, y] rfl rfl hww (Or.inr ⟨_, 0, 2, rfl, seg_newB wr.drew [x, y] 5 rfl⟩) ?_ ?_ ?_
            · have := HF.out; simp only [List.length_cons, List.length_nil]; omega
            · have := Hb.out.size; simp; omega
            intro v2 w2 ho2 hg2
            have q2 : Kp w w2 := Below.grown q1 hg2 q1.size (fun k hk => (hww.lt k hk).1)
            go_simp
            refine hK _ _ q2 ?_
            clear hK K'
            refine O_read rfl (by assumption) (fun K' hK => ?_); refine R_pure ?_ rfl (fun w => ?_) ?_; rotate_left; (focus (first | (go_simp; rfl) | (go_simp; done))); go_simp; refine hK _ ?_; clear hK K'
            refine O_nil ?_
            have HW2 := Lib.hid ho2; have HB2 := Lib.hid q2
            have h2b : w2.cell? ⟨b, off + k, none⟩ = some (.slice a1 m c1) := (q2.cell (p := ⟨b, off + k, none⟩) hbl).trans h2w
            clear ho2 hg2 q2 q1 q0 hww h2
            go_wp2_with (refine appI rfl _ _ rfl w.heap.size v2 _ (flatL (l.take k) ++ [x, y]) X rfl rfl HW2.out (H3.out.below HB2.out) ?_ ?_ ?_
                         · have := HF.out; have := Hm.out; have := Hg1.out; simp only [List.length_append, List.length_cons, List.length_nil]; omega
                         · exact HB2.out.size
                         intro v3 w3 ho3 hg3
                         have HB3 := Lib.hid (Below.grown HB2.out hg3 HB2.out.size (fun k hk => (HW2.out.lt k hk).1))
                         have ho3' : OwnB w3 w.heap.size v3 (flatL (l.take (k + 1))) := by rw [HE.out, ← List.append_assoc]; exact ho3
                         obtain ⟨a3, c3, hv3⟩ := ho3'.form_len
                         rw [HZ.out] at hv3
                         subst hv3
                         have HW3 := Lib.hid ho3'
                         clear ho3 hg3 ho3')
            exact bodyPost_ret (results_tmp2 rfl _ _ _) rfl ⟨_, _, rfl, HB3.out, Or.inr ⟨hnot.out, rfl, rfl⟩⟩
          · have hg2 : decide ((4096 : Int) < (Z : Int)) = false := by simp; omega
            have G2 : Hid (Z ≤ 4096) := Lib.hid (by omega)
            clear g2
            go_wp2
            have q0 : Kp w wr.drew := Hb.out.drew
            refine wp_region_ord (Kp w) [(true, 0), (true, 1), (true, 2), (true, 3), (true, 4), (true, 5), (true, 6), (true, 7), (true, 8), (true, 9), (true, 10), (true, 11), (true, 12), (true, 13), (true, 14), (false, 15), (false, 16), (true, 17)] (by kernel_rfl) (by kernel_rfl) rfl (by kernel_rfl) ?_
            iterate 15 (first
              | (refine O_read rfl (by assumption) (fun K' hK => ?_); refine R_pure ?_ rfl (fun w => ?_) ?_; rotate_left; (focus (first | (go_simp; rfl) | (go_simp; done))); go_simp; refine hK _ ?_; clear hK K')
              | (refine O_read rfl (by assumption) (fun K' hK => ?_); refine R_read (.slice a1 m c1) rfl (fun w hS => ?_) ?_; (focus (have hc := (hS.cell (p := ⟨b, off + k, none⟩) hbl).trans h2w; go_simp; done)); go_simp; refine hK _ ?_; clear hK K'))
            have hww : OwnB (wr.drew.alloc (.cells (u8s [x, y]) 5)) w.heap.size u4 (flatL (l.take k)) := HW.out.drew.alloc _
            have q1 : Kp w (wr.drew.alloc (.cells (u8s [x, y]) 5)) := q0.alloc q0.size _
            refine O_call rfl (fun K' hK => ?_); refine R_two rfl (.tmp 29) (.tmp 36) rfl x y rfl rfl ?_; go_simp; refine hK _ _ q1 ?_; clear hK K'
            refine O_call rfl (fun K' hK => ?_); refine R_appB rfl (.tmp 22) (.tmp 37) rfl w.heap.size u4 (.slice (some ⟨wr.heap.size, 0, none⟩) 2 2) (flatL (l.take k)) [x, y] rfl rfl hww (Or.inr ⟨_, 0, 2, rfl, seg_newB wr.drew [x, y] 5 rfl⟩) ?_ ?_ ?_
            · have := HF.out; simp only [List.length_cons, List.length_nil]; omega
            · have := Hb.out.size; simp; omega
            intro v2 w2 ho2 hg2
            have q2 : Kp w w2 := Below.grown q1 hg2 q1.size (fun k hk => (hww.lt k hk).1)
            go_simp
            refine hK _ _ q2 ?_
            clear hK K'
            refine O_read rfl (by assumption) (fun K' hK => ?_); refine R_pure ?_ rfl (fun w => ?_) ?_; rotate_left; (focus (first | (go_simp; rfl) | (go_simp; done))); go_simp; refine hK _ ?_; clear hK K'
            refine O_nil ?_
            have HW2 := Lib.hid ho2; have HB2 := Lib.hid q2
            have h2b : w2.cell? ⟨b, off + k, none⟩ = some (.slice a1 m c1) := (q2.cell (p := ⟨b, off + k, none⟩) hbl).trans h2w
            clear ho2 hg2 q2 q1 q0 hww h2
            go_wp2_with (refine appI rfl _ _ rfl w.heap.size v2 _ (flatL (l.take k) ++ [x, y]) X rfl rfl HW2.out (H3.out.below HB2.out) ?_ ?_ ?_
                         · have := HF.out; have := Hm.out; have := Hg1.out; simp only [List.length_append, List.length_cons, List.length_nil]; omega
                         · exact HB2.out.size
                         intro v3 w3 ho3 hg3
                         have HB3 := Lib.hid (Below.grown HB2.out hg3 HB2.out.size (fun k hk => (HW2.out.lt k hk).1))
                         have ho3' : OwnB w3 w.heap.size v3 (flatL (l.take (k + 1))) := by rw [HE.out, ← List.append_assoc]; exact ho3
                         obtain ⟨a3, c3, hv3⟩ := ho3'.form_len
                         rw [HZ.out] at hv3
                         subst hv3
                         have HW3 := Lib.hid ho3'
                         clear ho3 hg3 ho3')
            exact ⟨⟨k + 1, by omega, by go_num, HB3.out, HW3.out, by rw [HZ.out]; exact G2.out⟩, by simp [intOf]; omega⟩
        · have hg1 : decide ((4096 : Int) < (m : Int)) = true := by simp; omega
          have hnot := Lib.hid (HOv.out (by omega))
          clear g1
          go_wp2
          exact bodyPost_ret (results_tmp2 rfl _ _ _) rfl ⟨_, _, rfl, Hb.out, Or.inr ⟨hnot.out, rfl, rfl⟩⟩
      · obtain rfl : k = l.length := by omega
        have hd1 : decide ((l.length : Int) < (l.length : Int)) = false := by simp
        have hW := HW.out
        have hF := HF.out
        rw [List.take_length] at hW hF
        have HOK : Hid (listOK l) := Lib.hid ⟨H256.out, hF⟩
        have HW' := Lib.hid hW
        clear hW hF
        go_wp2
        exact bodyPost_ret (results_tmp2 rfl _ _ _) rfl ⟨_, _, rfl, Hb.out, Or.inl ⟨HOK.out, rfl, HW'.out⟩⟩
  · have hd : decide ((256 : Int) < (l.length : Int)) = true := by simp; omega
    have hnot : Hid (¬ listOK l) := Lib.hid fun h => h256 h.1
    clear h256
    go_enter Tryd.func24, Tryd.ntmps24
    go_wp2
    exact bodyPost_ret (results_tmp2 rfl _ _ _) rfl ⟨_, _, rfl, Below.refl _ _, Or.inr ⟨hnot.out, rfl, rfl⟩⟩
end Go.Proofs.YtbmhmaejakjieaaDoor
