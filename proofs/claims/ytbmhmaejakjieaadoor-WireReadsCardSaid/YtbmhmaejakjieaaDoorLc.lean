/- The walk of wire.List. -/
import Derived.Test.YtbmhmaejakjieaaDoorLb
namespace Go.Proofs.YtbmhmaejakjieaaDoor
open Go.RowKit

theorem flatL_succ {l : List (List Nat)} {k : Nat} (h : k < l.length) : flatL (l.take (k + 1)) = flatL (l.take k) ++ ([(nthL l k).length / 256, (nthL l k).length % 256] ++ nthL l k) := by
  unfold flatL
  rw [List.take_succ_eq_append_getElem h, List.flatMap_append]
  simp [nthL, List.getD_eq_getElem?_getD, List.getElem?_eq_getElem h, part1]

theorem flatL_le {l : List (List Nat)} (k : Nat) : (flatL (l.take k)).length ≤ (flatL l).length := by
  have : flatL l = flatL (l.take k) ++ flatL (l.drop k) := by
    unfold flatL
    rw [← List.flatMap_append, List.take_append_drop]
  rw [this, List.length_append]
  omega

def listOK (l : List (List Nat)) : Prop := l.length ≤ 256 ∧ (flatL l).length ≤ 4096

theorem list_over {l : List (List Nat)} {k : Nat} (h : k < l.length) (h2 : 4096 < (flatL (l.take k)).length + 2 + (nthL l k).length) : ¬ listOK l := by
  intro hok
  have := flatL_le (l := l) (k + 1)
  rw [flatL_succ h] at this
  simp only [List.length_append, List.length_cons, List.length_nil] at this
  have := hok.2
  omega

set_option maxHeartbeats 2000000 in
set_option maxRecDepth 100000 in
theorem list_any (l : List (List Nat)) (v : Value) (w : World) (hv : LV w v l) :
    Calls Tryd.prog 23 #[v] w fun e w' => ∃ v' n, e = .returned (.tuple #[v', .int .i64 n]) ∧ Below w.heap.size w w' ∧
      ((listOK l ∧ n = 0 ∧ OwnB w' w.heap.size v' (flatL l)) ∨ (¬ listOK l ∧ n = 3 ∧ v' = .slice none 0 0)) := by
  obtain ⟨a, c, rfl, hs⟩ := hv
  have HS := Lib.hid hs
  clear hs
  by_cases h256 : l.length ≤ 256
  · have hd : decide ((256 : Int) < (l.length : Int)) = false := by simp; omega
    have H256 := Lib.hid h256
    clear h256
    go_enter Tryd.func23, Tryd.ntmps23
    go_wp2
    go_loopw [4, 12] (fun out i wr => ∃ (k : Nat), k ≤ l.length ∧ i = .int .i64 k ∧ Below w.heap.size w wr ∧ OwnB wr w.heap.size out (flatL (l.take k)) ∧ (flatL (l.take k)).length ≤ 4096) (fun _ i _ => l.length - (intOf i).toNat)
    case atStart => exact ⟨0, by omega, rfl, Below.refl _ _, by simpa [flatL] using OwnB.nil _ _, by simp [flatL]⟩
    case round =>
      obtain ⟨k, hk, rfl, hbel, hown, hfl⟩ := hrel
      have Hb := Lib.hid hbel; have HW := Lib.hid hown; have HF := Lib.hid hfl
      clear hbel hown hfl
      by_cases hlt : k < l.length
      · have hd1 : decide ((k : Int) < (l.length : Int)) = true := by simp; omega
        have hkl : (k : Int) < (l.length : Int) := by omega
        have hkk : (k : Int) < 256 := by have := H256.out; omega
        obtain ⟨b, off, rfl, hbl, hs⟩ : ∃ b off, a = some ⟨b, off, none⟩ ∧ b < w.heap.size ∧ SegL w b off l := by
          rcases HS.out with h | h
          · rw [h] at hlt; simp at hlt
          · exact h
        obtain ⟨u, h2, h3⟩ := hs k hlt
        have h2 : wr.cell? ⟨b, off + k, none⟩ = some u := by rw [Hb.out.cell (p := ⟨b, off + k, none⟩) hbl]; exact h2
        have hE := flatL_succ hlt
        have hO := fun h => list_over (l := l) hlt h
        obtain ⟨a1, c1, hu, h3b⟩ := h3
        have H3 : Hid (In w (.slice a1 (nthL l k).length c1) (nthL l k)) := Lib.hid ⟨a1, c1, rfl, h3b⟩
        subst hu
        generalize hX : nthL l k = X at *
        generalize hm : X.length = m at *
        obtain ⟨form1, form2, hform⟩ : ∃ a2 c2, u4 = .slice a2 (flatL (l.take k)).length c2 := by
          rcases HW.out.form with ⟨h, h0⟩ | ⟨g, c, h, _⟩
          · exact ⟨none, 0, by rw [h, h0]; rfl⟩
          · exact ⟨_, _, h⟩
        subst hform
        generalize hfl : (flatL (l.take k)).length = q at *
        have HE := Lib.hid hE; have HOv := Lib.hid hO; have Hq := Lib.hid hfl; have Hm := Lib.hid hm
        have hq6 : q ≤ 4096 := HF.out
        clear hE hO hs h3b hm hfl HS
        by_cases g1 : m ≤ 4096
        · have hg1 : decide ((4096 : Int) < (m : Int)) = false := by simp; omega
          by_cases g2 : 4096 < q + 2 + m
          · have hg2 : decide ((4096 : Int) < (q : Int) + 2 + (m : Int)) = true := by simp only [decide_eq_true_eq]; omega
            have hnot := Lib.hid (HOv.out g2)
            clear g2
            go_wp2
            exact bodyPost_ret (results_tmp2 rfl _ _ _) rfl ⟨_, _, rfl, Hb.out, Or.inr ⟨hnot.out, rfl, rfl⟩⟩
          · have hg2 : decide ((4096 : Int) < (q : Int) + 2 + (m : Int)) = false := by simp only [decide_eq_false_iff_not]; omega
            have G2 := Lib.hid g2
            clear g2
            go_wp2_with (first
              | (refine appB rfl _ _ rfl w.heap.size (.slice form1 q form2) _ (flatL (l.take k)) [m / 256, m % 256] rfl rfl (HW.out.alloc _) (Or.inr ⟨_, 0, 2, rfl, seg_newB wr [m / 256, m % 256] 5 rfl⟩) ?_ ?_ ?_
                 · have := HF.out; have := Hq.out; simp only [List.length_cons, List.length_nil]; omega
                 · have := Hb.out.size; simp; omega
                 intro v2 w2 ho2 hg2
                 have hb2 : Below w.heap.size w w2 := Below.grown (Hb.out.alloc Hb.out.size _) hg2 (by have := Hb.out.size; simp; omega) (fun k hk => (HW.out.lt k hk).1)
                 have HW2 := Lib.hid ho2; have HB2 := Lib.hid hb2
                 clear ho2 hg2 hb2)
              | (refine appI rfl _ _ rfl w.heap.size v2 _ (flatL (l.take k) ++ [m / 256, m % 256]) X rfl rfl HW2.out (H3.out.below HB2.out) ?_ ?_ ?_
                 · have := Hq.out; have := Hm.out; have := G2.out; simp only [List.length_append, List.length_cons, List.length_nil]; omega
                 · exact HB2.out.size
                 intro v3 w3 ho3 hg3
                 have HB3 := Lib.hid (Below.grown HB2.out hg3 HB2.out.size (fun k hk => (HW2.out.lt k hk).1))
                 have HW3 := Lib.hid ho3
                 clear ho3 hg3))
            refine ⟨⟨k + 1, by omega, by go_num, HB3.out, ?_, ?_⟩, by simp [intOf]; omega⟩
            · rw [HE.out, ← List.append_assoc]
              exact HW3.out
            · rw [HE.out]
              have := Hq.out; have := Hm.out; have := G2.out
              simp only [List.length_append, List.length_cons, List.length_nil]
              omega
        · have hg1 : decide ((4096 : Int) < (m : Int)) = true := by simp; omega
          have hnot := Lib.hid (HOv.out (by omega))
          clear g1
          go_wp2
          exact bodyPost_ret (results_tmp2 rfl _ _ _) rfl ⟨_, _, rfl, Hb.out, Or.inr ⟨hnot.out, rfl, rfl⟩⟩
      · obtain rfl : k = l.length := by omega
        have hd1 : decide ((l.length : Int) < (l.length : Int)) = false := by simp
        have hW := HW.out
        have hF := HF.out
        rw [List.take_length] at hW hF
        have HOK : Hid (listOK l) := Lib.hid ⟨H256.out, hF⟩
        have HW' := Lib.hid hW
        clear hW hF
        go_wp2
        exact bodyPost_ret (results_tmp2 rfl _ _ _) rfl ⟨_, _, rfl, Hb.out, Or.inl ⟨HOK.out, rfl, HW'.out⟩⟩
  · have hd : decide ((256 : Int) < (l.length : Int)) = true := by simp; omega
    have hnot : Hid (¬ listOK l) := Lib.hid fun h => h256 h.1
    clear h256
    go_enter Tryd.func23, Tryd.ntmps23
    go_wp2
    exact bodyPost_ret (results_tmp2 rfl _ _ _) rfl ⟨_, _, rfl, Below.refl _ _, Or.inr ⟨hnot.out, rfl, rfl⟩⟩
end Go.Proofs.YtbmhmaejakjieaaDoor
