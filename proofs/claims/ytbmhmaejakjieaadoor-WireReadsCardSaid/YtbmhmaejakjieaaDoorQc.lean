/- The walk of few (its loop). -/
import Derived.Test.YtbmhmaejakjieaaDoorQb
namespace Go.Proofs.YtbmhmaejakjieaaDoor
open Go.RowKit

set_option maxHeartbeats 4000000 in
set_option maxRecDepth 100000 in
theorem few_any (l : List Fld) (v : Value) (w : World) (hv : FIn w v l) :
    Calls Tryd.prog 10 #[v] w fun e w' => ∃ v', e = .returned v' ∧ Below w.heap.size w w' ∧ OwnF w' w.heap.size v' (fewF 12288 257 l) := by
  obtain ⟨a, c, rfl, hs⟩ := hv
  have HS := Lib.hid hs
  have b0 := Lib.hid ((Below.refl w.heap.size w).alloc (Nat.le_refl _) (.cells #[] 54))
  have o0 := Lib.hid (OwnF.lit0 w w.heap.size (Nat.le_refl _))
  clear hs
  go_enter Tryd.func10, Tryd.ntmps10
  go_wp2
  go_loopw [3, 4, 5] (fun out left i wr => ∃ (k lf : Nat) (D : List Fld), k ≤ l.length ∧ k ≤ 257 ∧ lf ≤ 12288 ∧ D.length = k ∧ i = .int .i64 k ∧ left = .int .i64 lf ∧ Below w.heap.size w wr ∧ OwnF wr w.heap.size out D ∧
    D ++ fewF lf (257 - k) (l.drop k) = fewF 12288 257 l) (fun _ _ i _ => 257 - (intOf i).toNat)
  case atStart => exact ⟨0, 12288, [], by omega, by omega, by omega, rfl, rfl, rfl, b0.out, o0.out, by simp⟩
  case round =>
    obtain ⟨k, lf, D, hk, hk2, hlf, hDl, rfl, rfl, hbel, hown, hE⟩ := hrel
    have HE := Lib.hid hE; have HO := Lib.hid hown; have Hb := Lib.hid hbel; have HD := Lib.hid hDl
    clear hE hown hbel hDl
    by_cases hlt : k < l.length
    · have hd1 : decide ((k : Int) < (l.length : Int)) = true := by simp; omega
      by_cases hlt2 : k ≤ 256
      · have hd2 : decide ((k : Int) ≤ 256) = true := by simp; omega
        have hkl : (k : Int) < (l.length : Int) := by omega
        have hkb : (k : Int) < 257 := by omega
        obtain ⟨b, off, rfl, hbl, hs⟩ : ∃ b off, a = some ⟨b, off, none⟩ ∧ b < w.heap.size ∧ ∀ j, j < l.length → w.cell? ⟨b, off + j * 2, none⟩ = some (.int .i64 (nthF l j).1) ∧ ∃ u, w.cell? ⟨b, off + j * 2 + 1, none⟩ = some u ∧ In w u (nthF l j).2 := by
          rcases HS.out with h | h
          · rw [h] at hlt; simp at hlt
          · exact h
        obtain ⟨h1w, u, h2w, h3⟩ := hs k hlt
        have h1 : wr.cell? ⟨b, off + k * 2, none⟩ = some (.int .i64 (nthF l k).1) := by rw [Hb.out.cell (p := ⟨b, off + k * 2, none⟩) hbl]; exact h1w
        have h2 : wr.cell? ⟨b, off + k * 2 + 1, none⟩ = some u := by rw [Hb.out.cell (p := ⟨b, off + k * 2 + 1, none⟩) hbl]; exact h2w
        have h3 : In wr u (nthF l k).2 := h3.below Hb.out
        have hdr := nthF_lt hlt
        have he2 := HE.out
        rw [hdr, show 257 - k = (257 - (k + 1)) + 1 by omega] at he2
        simp only [fewF] at he2
        have HE2 := Lib.hid he2
        have H3 := Lib.hid h3
        clear hs h3 hdr he2 HE
        generalize hX : (nthF l k).2.take 4097 = X at *
        generalize hT : (nthF l k).1 = T at *
        have HXl : Hid (X.length ≤ 4097) := Lib.hid (by rw [← hX, List.length_take]; omega)
        have Hsh : Hid (Calls Tryd.prog 11 #[u] wr fun e w' => ∃ a1 c1, e = .returned (.slice a1 X.length c1) ∧ wr = w' ∧ In wr (.slice a1 X.length c1) X) := Lib.hid (by
          refine (short_any u (nthF l k).2 wr H3.out).mono ?_
          rintro e w' ⟨v', rfl, rfl, h⟩
          rw [hX] at h
          obtain ⟨a1, c1, rfl, h1⟩ := h
          exact ⟨a1, c1, rfl, rfl, ⟨a1, c1, rfl, h1⟩⟩)
        by_cases hm : X.length ≤ lf
        · clear HS
          have hmm : ((X.length : Nat) : Int) ≤ ((lf : Nat) : Int) := by omega
          have hmx : min ((X.length : Nat) : Int) ((lf : Nat) : Int) = ((X.length : Nat) : Int) := by omega
          have hsub : wrap64 (((lf : Nat) : Int) - ((X.length : Nat) : Int)) = ((lf - X.length : Nat) : Int) := by unfold wrap64; omega
          have hsub2 : IntKind.i64.wrap (((lf : Nat) : Int) - ((X.length : Nat) : Int)) = ((lf - X.length : Nat) : Int) := by rw [IntWalk.i64_left]; exact hsub
          have HM : Hid (X.length ≤ X.length) := Lib.hid (by omega)
          have HMl : Hid (X.length ≤ 100000) := Lib.hid (by have := HXl.out; omega)
          have HLF : Hid (lf - X.length ≤ 12288) := Lib.hid (by omega)
          have HT : Hid (X.take lf = X.take X.length) := Lib.hid (by rw [List.take_of_length_le hm, List.take_length])
          have HTl : Hid ((X.take X.length).length = X.length) := Lib.hid (by rw [List.length_take]; omega)
          clear hm
          go_wp2_with (first
            | (go_at_call 11; refine Hsh.out.mono ?_; rintro e w1 ⟨a1, c1, rfl, rfl, h1⟩; have H1 := Lib.hid h1; clear h1)
            | (refine stepHi rfl _ _ rfl (.slice a1 X.length c1) X .i64 (X.length) rfl rfl H1.out HM.out ?_; intro v2 h2; obtain ⟨a2, c2, rfl, h2b⟩ := h2; have H2 : Hid (In wr (.slice a2 (X.take (X.length)).length c2) (X.take (X.length))) := Lib.hid ⟨a2, c2, rfl, h2b⟩; clear h2b; rw [HTl.out] at H2 ⊢))
          have q0 : Kp w wr.drew := Hb.out.drew
          refine wp_region_ord (Kp w) [(true, 0), (true, 1), (true, 2), (true, 3), (true, 4), (true, 5), (true, 6), (false, 7), (true, 8), (false, 9), (false, 10), (true, 11)] (by kernel_rfl) (by kernel_rfl) rfl (by kernel_rfl) ?_
          iterate 7 (first
            | (refine O_read rfl (by assumption) (fun K' hK => ?_); refine R_pure ?_ rfl (fun w => ?_) ?_; rotate_left; (focus (first | (go_simp; rfl) | (go_simp; done))); go_simp; refine hK _ ?_; clear hK K')
            | (refine O_read rfl (by assumption) (fun K' hK => ?_); refine R_read (.int .i64 T) rfl (fun w hS => ?_) ?_; (focus (have hc := (hS.cell (p := ⟨b, off + k * 2, none⟩) hbl).trans h1w; go_simp; done)); go_simp; refine hK _ ?_; clear hK K'))
          refine O_call rfl (fun K' hK => ?_)
          refine R_callc 27 _ rfl (fun w => ?_) (bytes_any _ (X.take (X.length)) (by rw [HTl.out]; exact HMl.out) wr.drew (H2.out.below ((Below.refl _ wr).drew))) ?_
          · go_simp; done
          rintro e w3 ⟨v3, rfl, hb3, ho3⟩
          obtain ⟨a3, n3, c3, rfl⟩ := ho3.formA
          have q3 : Kp w w3 := bcall q0 hb3 q0.size
          refine ⟨_, rfl, hK _ _ q3 ?_⟩
          clear hK K'
          go_simp
          refine O_read rfl (by assumption) (fun K' hK => ?_); refine R_pure ?_ rfl (fun w => ?_) ?_; rotate_left; (focus (first | (go_simp; rfl) | (go_simp; done))); go_simp; refine hK _ ?_; clear hK K'
          have q4 : Kp w (w3.alloc (.cells #[.int .i64 T, .slice a3 n3 c3] 54)) := q3.alloc q3.size _
          refine O_call rfl (fun K' hK => ?_); refine R_oneF rfl (.tmp 42) rfl T a3 n3 c3 rfl ?_; go_simp; refine hK _ _ q4 ?_; clear hK K'
          have HO3 : OwnF w3 w.heap.size u3 D := (HO.out.below ((Below.refl _ wr).drew)).below hb3
          refine O_call rfl (fun K' hK => ?_); refine R_appF rfl (.tmp 34) (.tmp 43) rfl w.heap.size u3 (.slice a3 n3 c3) D T (X.take (X.length)) w3.heap.size 1 rfl rfl (HO3.alloc _) (Has.newAt _ 54 rfl) ((ho3.le q0.size).alloc _) ?_ ?_ ?_
          · have := HD.out; omega
          · exact q4.size
          intro v5 w5 ho5 hg5
          have q5 : Kp w w5 := Below.grown q4 hg5 q4.size (fun k hk => (HO3.lt k hk).1)
          go_simp
          refine hK _ _ q5 ?_
          clear hK K'
          refine O_read rfl (by assumption) (fun K' hK => ?_); refine R_pure ?_ rfl (fun w => ?_) ?_; rotate_left; (focus (first | (go_simp; rfl) | (go_simp; done))); go_simp; refine hK _ ?_; clear hK K'
          refine O_nil ?_
          have HO5 := Lib.hid ho5; have HB5 := Lib.hid q5
          clear ho5 hg5 q5 q4 q3 q0 hb3 ho3 HO3
          go_wp2
          refine ⟨⟨k + 1, lf - X.length, D ++ [(T, X.take (X.length))], by omega, by omega, HLF.out, by rw [List.length_append, HD.out]; rfl, by go_num, rfl, HB5.out, HO5.out, ?_⟩, by simp [intOf]; omega⟩
          have e := HE2.out
          rw [HT.out, HTl.out] at e
          rw [← e, List.append_assoc]
          rfl
        · clear HS
          have hmm : ¬ ((X.length : Nat) : Int) ≤ ((lf : Nat) : Int) := by omega
          have hmx : min ((X.length : Nat) : Int) ((lf : Nat) : Int) = ((lf : Nat) : Int) := by omega
          have hsub : wrap64 (((lf : Nat) : Int) - ((lf : Nat) : Int)) = ((lf - lf : Nat) : Int) := by unfold wrap64; omega
          have hsub2 : IntKind.i64.wrap (((lf : Nat) : Int) - ((lf : Nat) : Int)) = ((lf - lf : Nat) : Int) := by rw [IntWalk.i64_left]; exact hsub
          have HM : Hid (lf ≤ X.length) := Lib.hid (by omega)
          have HMl : Hid (lf ≤ 100000) := Lib.hid (by have := HXl.out; omega)
          have HLF : Hid (0 ≤ 12288) := Lib.hid (by omega)
          have HT := 0
          have HTl : Hid ((X.take lf).length = lf) := Lib.hid (by rw [List.length_take]; omega)
          clear hm
          go_wp2_with (first
            | (go_at_call 11; refine Hsh.out.mono ?_; rintro e w1 ⟨a1, c1, rfl, rfl, h1⟩; have H1 := Lib.hid h1; clear h1)
            | (refine stepHi rfl _ _ rfl (.slice a1 X.length c1) X .i64 (lf) rfl rfl H1.out HM.out ?_; intro v2 h2; obtain ⟨a2, c2, rfl, h2b⟩ := h2; have H2 : Hid (In wr (.slice a2 (X.take (lf)).length c2) (X.take (lf))) := Lib.hid ⟨a2, c2, rfl, h2b⟩; clear h2b; rw [HTl.out] at H2 ⊢))
          have q0 : Kp w wr.drew := Hb.out.drew
          refine wp_region_ord (Kp w) [(true, 0), (true, 1), (true, 2), (true, 3), (true, 4), (true, 5), (true, 6), (false, 7), (true, 8), (false, 9), (false, 10), (true, 11)] (by kernel_rfl) (by kernel_rfl) rfl (by kernel_rfl) ?_
          iterate 7 (first
            | (refine O_read rfl (by assumption) (fun K' hK => ?_); refine R_pure ?_ rfl (fun w => ?_) ?_; rotate_left; (focus (first | (go_simp; rfl) | (go_simp; done))); go_simp; refine hK _ ?_; clear hK K')
            | (refine O_read rfl (by assumption) (fun K' hK => ?_); refine R_read (.int .i64 T) rfl (fun w hS => ?_) ?_; (focus (have hc := (hS.cell (p := ⟨b, off + k * 2, none⟩) hbl).trans h1w; go_simp; done)); go_simp; refine hK _ ?_; clear hK K'))
          refine O_call rfl (fun K' hK => ?_)
          refine R_callc 27 _ rfl (fun w => ?_) (bytes_any _ (X.take (lf)) (by rw [HTl.out]; exact HMl.out) wr.drew (H2.out.below ((Below.refl _ wr).drew))) ?_
          · go_simp; done
          rintro e w3 ⟨v3, rfl, hb3, ho3⟩
          obtain ⟨a3, n3, c3, rfl⟩ := ho3.formA
          have q3 : Kp w w3 := bcall q0 hb3 q0.size
          refine ⟨_, rfl, hK _ _ q3 ?_⟩
          clear hK K'
          go_simp
          refine O_read rfl (by assumption) (fun K' hK => ?_); refine R_pure ?_ rfl (fun w => ?_) ?_; rotate_left; (focus (first | (go_simp; rfl) | (go_simp; done))); go_simp; refine hK _ ?_; clear hK K'
          have q4 : Kp w (w3.alloc (.cells #[.int .i64 T, .slice a3 n3 c3] 54)) := q3.alloc q3.size _
          refine O_call rfl (fun K' hK => ?_); refine R_oneF rfl (.tmp 42) rfl T a3 n3 c3 rfl ?_; go_simp; refine hK _ _ q4 ?_; clear hK K'
          have HO3 : OwnF w3 w.heap.size u3 D := (HO.out.below ((Below.refl _ wr).drew)).below hb3
          refine O_call rfl (fun K' hK => ?_); refine R_appF rfl (.tmp 34) (.tmp 43) rfl w.heap.size u3 (.slice a3 n3 c3) D T (X.take (lf)) w3.heap.size 1 rfl rfl (HO3.alloc _) (Has.newAt _ 54 rfl) ((ho3.le q0.size).alloc _) ?_ ?_ ?_
          · have := HD.out; omega
          · exact q4.size
          intro v5 w5 ho5 hg5
          have q5 : Kp w w5 := Below.grown q4 hg5 q4.size (fun k hk => (HO3.lt k hk).1)
          go_simp
          refine hK _ _ q5 ?_
          clear hK K'
          refine O_read rfl (by assumption) (fun K' hK => ?_); refine R_pure ?_ rfl (fun w => ?_) ?_; rotate_left; (focus (first | (go_simp; rfl) | (go_simp; done))); go_simp; refine hK _ ?_; clear hK K'
          refine O_nil ?_
          have HO5 := Lib.hid ho5; have HB5 := Lib.hid q5
          clear ho5 hg5 q5 q4 q3 q0 hb3 ho3 HO3
          go_wp2
          refine ⟨⟨k + 1, 0, D ++ [(T, X.take (lf))], by omega, by omega, HLF.out, by rw [List.length_append, HD.out]; rfl, by go_num, rfl, HB5.out, HO5.out, ?_⟩, by simp [intOf]; omega⟩
          have e := HE2.out
          rw [HTl.out, Nat.sub_self] at e
          rw [← e, List.append_assoc]
          rfl
      · have hd2 : decide ((k : Int) ≤ 256) = false := by simp; omega
        obtain rfl : k = 257 := by omega
        have hfin : fewF lf (257 - 257) (l.drop 257) = [] := by cases l.drop 257 <;> rfl
        rw [hfin, List.append_nil] at HE
        go_wp2
        exact bodyPost_ret (results_tmp rfl _ _ _) rfl ⟨_, rfl, Hb.out, by rw [← HE.out]; exact HO.out⟩
    · have hd1 : decide ((k : Int) < (l.length : Int)) = false := by simp; omega
      have hfin : fewF lf (257 - k) (l.drop k) = [] := by
        rw [List.drop_of_length_le (by omega)]
        cases 257 - k <;> rfl
      rw [hfin, List.append_nil] at HE
      go_wp2
      exact bodyPost_ret (results_tmp rfl _ _ _) rfl ⟨_, rfl, Hb.out, by rw [← HE.out]; exact HO.out⟩
end Go.Proofs.YtbmhmaejakjieaaDoor
