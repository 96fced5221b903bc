/- The walk of ref.Put. -/
import Derived.Test.YtbmhmaejakjieaaDoorGb
namespace Go.Proofs.YtbmhmaejakjieaaDoor
open Go.RowKit

theorem OwnB.fle {w : World} {N : Nat} {v : Value} {L : List Nat} (h : OwnB w N v L) : ∃ a c, v = .slice a L.length c := by
  rcases h.form with ⟨h, h0⟩ | ⟨g, c, h, _⟩
  · exact ⟨none, 0, by rw [h, h0]; rfl⟩
  · exact ⟨_, _, h⟩

theorem flI_sum' (l : List Fld) : (flI l).length = sumL (lenF l) l.length := by
  have := flI_len (l := l) (Nat.le_refl l.length)
  rwa [List.take_length] at this

/-- What lies at the fields' places. -/
def FCells (w : World) (b off : Nat) (l : List Fld) : Prop := ∀ j, j < l.length → w.cell? ⟨b, off + j * 2, none⟩ = some (.int .i64 (nthF l j).1) ∧ ∃ u, w.cell? ⟨b, off + j * 2 + 1, none⟩ = some u ∧ In w u (nthF l j).2

set_option maxHeartbeats 4000000 in
set_option maxRecDepth 100000 in
theorem rput_any (l : List Fld) (v : Value) (w : World) (hv : FIn w v l) :
    Calls Tryd.prog 17 #[v] w fun e w' => ∃ v' n, e = .returned (.tuple #[v', .int .i64 n]) ∧ Below w.heap.size w w' ∧ putC l n ∧ ((n = 0 ∧ OwnB w' w.heap.size v' (flI l)) ∨ (n ≠ 0 ∧ v' = .slice none 0 0)) := by
  obtain ⟨a, c, rfl, hs⟩ := hv
  have HS : Hid (l = [] ∨ ∃ b off, a = some ⟨b, off, none⟩ ∧ b < w.heap.size ∧ FCells w b off l) := Lib.hid hs
  clear hs
  by_cases h256 : l.length ≤ 256
  · have hd : decide ((256 : Int) < (l.length : Int)) = false := by simp; omega
    have H256 := Lib.hid h256
    clear h256
    go_enter Tryd.func17, Tryd.ntmps17
    go_wp2
    go_loopw [4, 5] (fun last i wr => ∃ (k : Nat), k ≤ l.length ∧ i = .int .i64 k ∧ last = .int .i64 (prevT (tagF l) k) ∧ Hid (∀ j, j < k → goodAt (tagF l) (lenF l) j) ∧ Below w.heap.size w wr) (fun _ i _ => l.length - (intOf i).toNat)
    case atStart => exact ⟨0, by omega, rfl, rfl, Lib.hid (fun j hj => by omega), Below.refl _ _⟩
    case round =>
      obtain ⟨k, hk, rfl, rfl, HG, hbel⟩ := hrel
      have Hb := Lib.hid hbel
      clear hbel
      by_cases hlt : k < l.length
      · have hd1 : decide ((k : Int) < (l.length : Int)) = true := by simp; omega
        have hkl : (k : Int) < (l.length : Int) := by omega
        have hkk : (k : Int) < 256 := by have := H256.out; omega
        obtain ⟨b, off, rfl, hbl, hs⟩ : ∃ b off, a = some ⟨b, off, none⟩ ∧ b < w.heap.size ∧ FCells w b off l := by
          rcases HS.out with h | h
          · rw [h] at hlt; simp at hlt
          · exact h
        obtain ⟨h1w, u, h2w, h3⟩ := hs k hlt
        have h1 : wr.cell? ⟨b, off + k * 2, none⟩ = some (.int .i64 (tagF l k)) := by rw [Hb.out.cell (p := ⟨b, off + k * 2, none⟩) hbl]; exact h1w
        have h2 : wr.cell? ⟨b, off + k * 2 + 1, none⟩ = some u := by rw [Hb.out.cell (p := ⟨b, off + k * 2 + 1, none⟩) hbl]; exact h2w
        obtain ⟨a1, c1, rfl, h3b⟩ := h3
        have h2q : wr.cell? ⟨b, off + k * 2 + 1, none⟩ = some (.slice a1 (lenF l k) c1) := h2
        clear h1w h2w h3b hs h2
        have hgi : goodAt (tagF l) (lenF l) k ↔ prevT (tagF l) k < tagF l k ∧ tagF l k ≤ 255 ∧ lenF l k ≤ 4096 := Iff.rfl
        have hnext : prevT (tagF l) (k + 1) = tagF l k := rfl
        generalize prevT (tagF l) k = Pv at *
        generalize tagF l k = T at *
        generalize lenF l k = m at *
        have HNx := Lib.hid hnext
        clear hnext
        by_cases hg : goodAt (tagF l) (lenF l) k
        · have hg3 := hgi.1 hg
          have g1 : decide (T ≤ Pv) = false := by simp; omega
          have g2 : decide ((255 : Int) < T) = false := by simp; omega
          have g3 : decide ((4096 : Int) < (m : Int)) = false := by simp; omega
          have HG2 : Hid (∀ j, j < k + 1 → goodAt (tagF l) (lenF l) j) := Lib.hid fun j hj => by
            by_cases e : j = k
            · subst e; exact hg
            · exact HG.out j (by omega)
          clear hg hg3 hgi
          go_wp2
          exact ⟨⟨k + 1, by omega, by go_num, by rw [HNx.out], HG2, Hb.out⟩, by simp [intOf]; omega⟩
        · have HP : Hid (putC l 80) := Lib.hid (Or.inr (Or.inr ⟨rfl, H256.out, k, hlt, hg⟩))
          have hng : ¬ (Pv < T ∧ T ≤ 255 ∧ m ≤ 4096) := fun h => hg (hgi.2 h)
          clear hgi hg
          by_cases b1 : T ≤ Pv
          · have g1 : decide (T ≤ Pv) = true := by simp [b1]
            clear b1 hng
            go_wp2
            exact bodyPost_ret (results_tmp2 rfl _ _ _) rfl ⟨_, 80, rfl, Hb.out, HP.out, Or.inr ⟨by decide, rfl⟩⟩
          · have g1 : decide (T ≤ Pv) = false := by simp only [decide_eq_false_iff_not]; exact b1
            by_cases b2 : (255 : Int) < T
            · have g2 : decide ((255 : Int) < T) = true := by simp [b2]
              clear b1 b2 hng
              go_wp2
              exact bodyPost_ret (results_tmp2 rfl _ _ _) rfl ⟨_, 80, rfl, Hb.out, HP.out, Or.inr ⟨by decide, rfl⟩⟩
            · have g2 : decide ((255 : Int) < T) = false := by simp only [decide_eq_false_iff_not]; exact b2
              have g3 : decide ((4096 : Int) < (m : Int)) = true := by
                simp only [decide_eq_true_eq]
                have h5 : ¬ m ≤ 4096 := fun h => hng ⟨by omega, by omega, h⟩
                omega
              clear b1 b2 hng
              go_wp2
              exact bodyPost_ret (results_tmp2 rfl _ _ _) rfl ⟨_, 80, rfl, Hb.out, HP.out, Or.inr ⟨by decide, rfl⟩⟩
      · obtain rfl : k = l.length := by omega
        have hd1 : decide ((l.length : Int) < (l.length : Int)) = false := by simp
        have b0 := Lib.hid (Hb.out.alloc Hb.out.size (.cells #[] 5))
        have o0 := Lib.hid (OwnB.lit0 wr w.heap.size Hb.out.size)
        go_wp2
        go_loopw [6, 7] (fun out i wr => ∃ (k : Nat), k ≤ l.length ∧ i = .int .i64 k ∧ Below w.heap.size w wr ∧ OwnB wr w.heap.size out (flI (l.take k)) ∧ (flI (l.take k)).length ≤ 4096) (fun _ i _ => l.length - (intOf i).toNat)
        case atStart => exact ⟨0, by omega, rfl, b0.out, by simpa [flI] using o0.out, by simp [flI]⟩
        case round =>
          clear b0 o0 Hb
          obtain ⟨k, hk, rfl, hbel, hown, hfl⟩ := hrel
          have Hb := Lib.hid hbel; have HW := Lib.hid hown; have HF := Lib.hid hfl
          clear hbel hown hfl
          by_cases hlt : k < l.length
          · have hd1 : decide ((k : Int) < (l.length : Int)) = true := by simp; omega
            have hkl : (k : Int) < (l.length : Int) := by omega
            have hkk : (k : Int) < 256 := by have := H256.out; omega
            obtain ⟨b, off, rfl, hbl, hs⟩ : ∃ b off, a = some ⟨b, off, none⟩ ∧ b < w.heap.size ∧ FCells w b off l := by
              rcases HS.out with h | h
              · rw [h] at hlt; simp at hlt
              · exact h
            obtain ⟨h1w, u, h2w, h3⟩ := hs k hlt
            have h1 : wr.cell? ⟨b, off + k * 2, none⟩ = some (.int .i64 (nthF l k).1) := by rw [Hb.out.cell (p := ⟨b, off + k * 2, none⟩) hbl]; exact h1w
            have h2 : wr.cell? ⟨b, off + k * 2 + 1, none⟩ = some u := by rw [Hb.out.cell (p := ⟨b, off + k * 2 + 1, none⟩) hbl]; exact h2w
            have hg := HG.out k hlt
            have hp := goodAt_pos HG.out k hlt
            obtain ⟨t, ht⟩ : ∃ t : Nat, (nthF l k).1 = (t : Int) := ⟨(nthF l k).1.toNat, by unfold tagF at hp; omega⟩
            have ht2 : t < 256 := by have := hg.2.1; unfold tagF at this; omega
            have hm : (nthF l k).2.length ≤ 4096 := hg.2.2
            have hE := flI_succ hlt
            have hsum : ¬ (flI (l.take (k + 1))).length ≤ 4096 → putC l 3 := fun h => by
              refine Or.inr (Or.inl ⟨rfl, Or.inr ⟨H256.out, HG.out, ?_⟩⟩)
              rw [flI_len (by omega)] at h
              have := sumL_mono (M := lenF l) (show k + 1 ≤ l.length by omega)
              omega
            rw [ht] at h1
            obtain ⟨a1, c1, rfl, h3b⟩ := h3
            have H3 : Hid (In w (.slice a1 (nthF l k).2.length c1) (nthF l k).2) := Lib.hid ⟨a1, c1, rfl, h3b⟩
            have htt : (nthF l k).1.toNat = t := by omega
            rw [htt] at hE
            clear hg hp h3b hs h1w ht htt
            generalize hM : (nthF l k).2 = M at *
            generalize hmm : M.length = m at *
            obtain ⟨x, hx⟩ : ∃ x, m / 256 = x := ⟨_, rfl⟩
            obtain ⟨y, hy⟩ : ∃ y, m % 256 = y := ⟨_, rfl⟩
            have e1 : IntKind.i64.wrap ((m : Int) / 256) = ((x : Nat) : Int) := by rw [IntKind.wrap_i64]; omega
            have e2 : IntKind.u8.wrap ((x : Nat) : Int) = ((x : Nat) : Int) := by rw [IntKind.wrap_u8]; omega
            have e3 : ((m : Nat) : Int).tmod 256 = ((y : Nat) : Int) := by rw [Int.tmod_eq_emod_of_nonneg (by omega)]; omega
            have e4 : IntKind.u8.wrap ((y : Nat) : Int) = ((y : Nat) : Int) := by rw [IntKind.wrap_u8]; omega
            have e5 : IntKind.u8.wrap ((t : Nat) : Int) = ((t : Nat) : Int) := by rw [IntKind.wrap_u8]; omega
            rw [hx, hy] at hE
            have HE := Lib.hid hE; have Hmm := Lib.hid hmm; have Hml := Lib.hid hm; have HSum := Lib.hid hsum
            clear hx hy hE hm hsum hmm ht2
            obtain ⟨Z, hZ⟩ : ∃ Z, (flI (l.take (k + 1))).length = Z := ⟨_, rfl⟩
            have HZ := Lib.hid hZ
            clear hZ
            by_cases g2 : 4096 < Z
            · have hg2 : decide ((4096 : Int) < (Z : Int)) = true := by simp; omega
              have hnot := Lib.hid (HSum.out (by rw [HZ.out]; omega))
              clear g2
              go_wp2_with (first
                | (refine appB rfl _ _ rfl w.heap.size u6 _ (flI (l.take k)) [t, x, y] rfl rfl (HW.out.alloc _) (Or.inr ⟨_, 0, 3, rfl, seg_newB wr [t, x, y] 5 rfl⟩) ?_ ?_ ?_
                   · have := HF.out; simp only [List.length_cons, List.length_nil]; omega
                   · have := Hb.out.size; simp; omega
                   intro v2 w2 ho2 hg2
                   have hb2 : Below w.heap.size w w2 := Below.grown (Hb.out.alloc Hb.out.size _) hg2 (by have := Hb.out.size; simp; omega) (fun k hk => (HW.out.lt k hk).1)
                   have h2c : w2.cell? ⟨b, off + k * 2 + 1, none⟩ = some (.slice a1 m c1) := (hb2.cell (p := ⟨b, off + k * 2 + 1, none⟩) hbl).trans h2w
                   have HW2 := Lib.hid ho2; have HB2 := Lib.hid hb2
                   clear ho2 hg2 hb2)
                | (refine appI rfl _ _ rfl w.heap.size v2 _ (flI (l.take k) ++ [t, x, y]) M rfl rfl HW2.out (H3.out.below HB2.out) ?_ ?_ ?_
                   · have := HF.out; have := Hmm.out; have := Hml.out; simp only [List.length_append, List.length_cons, List.length_nil]; omega
                   · exact HB2.out.size
                   intro v3 w3 ho3 hg3
                   have HB3 := Lib.hid (Below.grown HB2.out hg3 HB2.out.size (fun k hk => (HW2.out.lt k hk).1))
                   have ho3' : OwnB w3 w.heap.size v3 (flI (l.take (k + 1))) := by rw [HE.out, ← List.append_assoc]; exact ho3
                   obtain ⟨a3, c3, hv3⟩ := ho3'.fle
                   rw [HZ.out] at hv3
                   subst hv3
                   have HW3 := Lib.hid ho3'
                   clear ho3 hg3 ho3'))
              exact bodyPost_ret (results_tmp2 rfl _ _ _) rfl ⟨_, 3, rfl, HB3.out, hnot.out, Or.inr ⟨by decide, rfl⟩⟩
            · have hg2 : decide ((4096 : Int) < (Z : Int)) = false := by simp; omega
              have G2 : Hid (Z ≤ 4096) := Lib.hid (by omega)
              clear g2
              go_wp2_with (first
                | (refine appB rfl _ _ rfl w.heap.size u6 _ (flI (l.take k)) [t, x, y] rfl rfl (HW.out.alloc _) (Or.inr ⟨_, 0, 3, rfl, seg_newB wr [t, x, y] 5 rfl⟩) ?_ ?_ ?_
                   · have := HF.out; simp only [List.length_cons, List.length_nil]; omega
                   · have := Hb.out.size; simp; omega
                   intro v2 w2 ho2 hg2
                   have hb2 : Below w.heap.size w w2 := Below.grown (Hb.out.alloc Hb.out.size _) hg2 (by have := Hb.out.size; simp; omega) (fun k hk => (HW.out.lt k hk).1)
                   have h2c : w2.cell? ⟨b, off + k * 2 + 1, none⟩ = some (.slice a1 m c1) := (hb2.cell (p := ⟨b, off + k * 2 + 1, none⟩) hbl).trans h2w
                   have HW2 := Lib.hid ho2; have HB2 := Lib.hid hb2
                   clear ho2 hg2 hb2)
                | (refine appI rfl _ _ rfl w.heap.size v2 _ (flI (l.take k) ++ [t, x, y]) M rfl rfl HW2.out (H3.out.below HB2.out) ?_ ?_ ?_
                   · have := HF.out; have := Hmm.out; have := Hml.out; simp only [List.length_append, List.length_cons, List.length_nil]; omega
                   · exact HB2.out.size
                   intro v3 w3 ho3 hg3
                   have HB3 := Lib.hid (Below.grown HB2.out hg3 HB2.out.size (fun k hk => (HW2.out.lt k hk).1))
                   have ho3' : OwnB w3 w.heap.size v3 (flI (l.take (k + 1))) := by rw [HE.out, ← List.append_assoc]; exact ho3
                   obtain ⟨a3, c3, hv3⟩ := ho3'.fle
                   rw [HZ.out] at hv3
                   subst hv3
                   have HW3 := Lib.hid ho3'
                   clear ho3 hg3 ho3'))
              exact ⟨⟨k + 1, by omega, by go_num, HB3.out, HW3.out, by rw [HZ.out]; exact G2.out⟩, by simp [intOf]; omega⟩
          · obtain rfl : k = l.length := by omega
            have hd1 : decide ((l.length : Int) < (l.length : Int)) = false := by simp
            have hW := HW.out
            have hF := HF.out
            rw [List.take_length] at hW hF
            have HOK : Hid (putC l 0) := Lib.hid (Or.inl ⟨rfl, H256.out, HG.out, by rw [← flI_sum']; exact hF⟩)
            have HW' := Lib.hid hW
            clear hW hF
            go_wp2
            exact bodyPost_ret (results_tmp2 rfl _ _ _) rfl ⟨_, 0, rfl, Hb.out, HOK.out, Or.inl ⟨rfl, HW'.out⟩⟩
  · have hd : decide ((256 : Int) < (l.length : Int)) = true := by simp; omega
    have HP : Hid (putC l 3) := Lib.hid (Or.inr (Or.inl ⟨rfl, Or.inl (by omega)⟩))
    clear h256
    go_enter Tryd.func17, Tryd.ntmps17
    go_wp2
    exact bodyPost_ret (results_tmp2 rfl _ _ _) rfl ⟨_, 3, rfl, Below.refl _ _, HP.out, Or.inr ⟨by decide, rfl⟩⟩
end Go.Proofs.YtbmhmaejakjieaaDoor
