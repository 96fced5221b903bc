/- The walks of wire.Get and ref.Get. -/
import Derived.Test.YtbmhmaejakjieaaDoorQc
namespace Go.Proofs.YtbmhmaejakjieaaDoor
open Go.RowKit

/-- The bytes of the first field with this tag. -/
def getF (t : Int) : List Fld → Option (List Nat)
  | [] => none
  | p :: l => if p.1 = t then some p.2 else getF t l

set_option maxHeartbeats 2000000 in
set_option maxRecDepth 100000 in
theorem get_any (l : List Fld) (t : Int) (v : Value) (w : World) (hv : FIn w v l) (hl : l.length ≤ 100000) (hb : ∀ p ∈ l, p.2.length ≤ 100000) :
    Calls Tryd.prog 18 #[v, .int .i64 t] w fun e w' => ∃ v' n, e = .returned (.tuple #[v', .int .i64 n]) ∧ Below w.heap.size w w' ∧
      ((∃ M, getF t l = some M ∧ n = 0 ∧ OwnB w' w.heap.size v' M) ∨ (getF t l = none ∧ n = 5 ∧ v' = .slice none 0 0)) := by
  obtain ⟨a, c, rfl, hs⟩ := hv
  have HS := Lib.hid hs; have HL := Lib.hid hl; have HB := Lib.hid hb
  clear hs hl hb
  go_enter Tryd.func18, Tryd.ntmps18
  go_wp2
  go_loopw [10] (fun i wr => ∃ (k : Nat), k ≤ l.length ∧ i = .int .i64 k ∧ Below w.heap.size w wr ∧ Hid (getF t l = getF t (l.drop k))) (fun i _ => l.length - (intOf i).toNat)
  case atStart => exact ⟨0, by omega, rfl, Below.refl _ _, Lib.hid rfl⟩
  case round =>
    obtain ⟨k, hk, rfl, hbel, hE⟩ := hrel
    have Hb := Lib.hid hbel; have HE := hE
    clear hbel hE
    by_cases hlt : k < l.length
    · have hd1 : decide ((k : Int) < (l.length : Int)) = true := by simp; omega
      have hkl : (k : Int) < (l.length : Int) := by omega
      have hkk : (k : Int) < 100000 := by have := HL.out; omega
      obtain ⟨b, off, rfl, hbl, hs⟩ : ∃ b off, a = some ⟨b, off, none⟩ ∧ b < w.heap.size ∧ ∀ j, j < l.length → w.cell? ⟨b, off + j * 2, none⟩ = some (.int .i64 (nthF l j).1) ∧ ∃ u, w.cell? ⟨b, off + j * 2 + 1, none⟩ = some u ∧ In w u (nthF l j).2 := by
        rcases HS.out with h | h
        · rw [h] at hlt; simp at hlt
        · exact h
      obtain ⟨h1w, u, h2w, h3⟩ := hs k hlt
      have h1 : wr.cell? ⟨b, off + k * 2, none⟩ = some (.int .i64 (nthF l k).1) := by rw [Hb.out.cell (p := ⟨b, off + k * 2, none⟩) hbl]; exact h1w
      have h2 : wr.cell? ⟨b, off + k * 2 + 1, none⟩ = some u := by rw [Hb.out.cell (p := ⟨b, off + k * 2 + 1, none⟩) hbl]; exact h2w
      have hml : (nthF l k).2.length ≤ 100000 := HB.out _ (by
        unfold nthF
        rw [List.getD_eq_getElem?_getD, List.getElem?_eq_getElem hlt]
        exact List.getElem_mem hlt)
      have hE2 : getF t l = if (nthF l k).1 = t then some (nthF l k).2 else getF t (l.drop (k + 1)) := by
        rw [HE.out, nthF_lt hlt]; rfl
      obtain ⟨a1, c1, rfl, h3b⟩ := h3
      have H3 : Hid (In w (.slice a1 (nthF l k).2.length c1) (nthF l k).2) := Lib.hid ⟨a1, c1, rfl, h3b⟩
      generalize hM : (nthF l k).2 = M at *
      generalize hT : (nthF l k).1 = T at *
      have HM := Lib.hid hml
      clear hs h1w h2w h3b HE hml
      generalize hm : M.length = m at *
      by_cases hTt : T = t
      · have hd2 : (T == t) = true := by simp [hTt]
        have HE2 : Hid (getF t l = some M) := Lib.hid (by rw [hE2, if_pos hTt])
        have HO : Hid (OwnB ((wr.alloc (.cells #[.int .i64 T, .slice a1 m c1] 54)).alloc (.cells #[] 5)) w.heap.size (.slice (some ⟨wr.heap.size + 1, 0, none⟩) 0 0) []) := Lib.hid (by
          have := OwnB.lit0 (wr.alloc (.cells #[.int .i64 T, .slice a1 m c1] 54)) w.heap.size (by have := Hb.out.size; simp; omega)
          simpa using this)
        have HB2 := Lib.hid ((Hb.out.alloc Hb.out.size (.cells #[.int .i64 T, .slice a1 m c1] 54)).alloc (by have := Hb.out.size; simp; omega) (.cells #[] 5))
        have Hm := Lib.hid hm
        clear hE2 hTt hm
        go_wp2_with (refine appI rfl _ _ rfl w.heap.size (.slice (some ⟨wr.heap.size + 1, 0, none⟩) 0 0) _ [] M rfl rfl HO.out (H3.out.below HB2.out) ?_ ?_ ?_
                     · have := Hm.out; have := HM.out; simp only [List.length_nil]; omega
                     · have := Hb.out.size; simp; omega
                     intro v5 w5 ho5 hg5
                     have hb5 : Below w.heap.size w w5 := Below.grown HB2.out hg5 (by have := Hb.out.size; simp; omega) (fun k hk => (HO.out.lt k hk).1)
                     have HO5 : Hid (OwnB w5 w.heap.size v5 M) := Lib.hid ho5
                     have HB5 := Lib.hid hb5
                     clear ho5 hg5 hb5)
        exact bodyPost_ret (results_tmp2 rfl _ _ _) rfl ⟨v5, 0, rfl, HB5.out, Or.inl ⟨M, HE2.out, rfl, HO5.out⟩⟩
      · have hd2 : (T == t) = false := by simp [hTt]
        have HE2 : Hid (getF t l = getF t (l.drop (k + 1))) := Lib.hid (by rw [hE2, if_neg hTt])
        clear hE2 hTt
        go_wp2
        exact ⟨⟨k + 1, by omega, by go_num, Hb.out.alloc Hb.out.size _, HE2⟩, by simp [intOf]; omega⟩
    · obtain rfl : k = l.length := by omega
      have hd1 : decide ((l.length : Int) < (l.length : Int)) = false := by simp
      have HE2 : Hid (getF t l = none) := Lib.hid (by rw [HE.out, List.drop_length]; rfl)
      go_wp2
      exact bodyPost_ret (results_tmp2 rfl _ _ _) rfl ⟨_, 5, rfl, Hb.out, Or.inr ⟨HE2.out, rfl, rfl⟩⟩

set_option maxHeartbeats 2000000 in
set_option maxRecDepth 100000 in
theorem rget_any (l : List Fld) (t : Int) (v : Value) (w : World) (hv : FIn w v l) (hl : l.length ≤ 100000) (hb : ∀ p ∈ l, p.2.length ≤ 100000) :
    Calls Tryd.prog 19 #[v, .int .i64 t] w fun e w' => ∃ v' n, e = .returned (.tuple #[v', .int .i64 n]) ∧ Below w.heap.size w w' ∧
      ((∃ M, getF t l = some M ∧ n = 0 ∧ OwnB w' w.heap.size v' M) ∨ (getF t l = none ∧ n = 5 ∧ v' = .slice none 0 0)) := by
  obtain ⟨a, c, rfl, hs⟩ := hv
  have HS := Lib.hid hs; have HL := Lib.hid hl; have HB := Lib.hid hb
  clear hs hl hb
  go_enter Tryd.func19, Tryd.ntmps19
  go_wp2
  go_loopw [6] (fun i wr => ∃ (k : Nat), k ≤ l.length ∧ i = .int .i64 k ∧ Below w.heap.size w wr ∧ Hid (getF t l = getF t (l.drop k))) (fun i _ => l.length - (intOf i).toNat)
  case atStart => exact ⟨0, by omega, rfl, Below.refl _ _, Lib.hid rfl⟩
  case round =>
    obtain ⟨k, hk, rfl, hbel, hE⟩ := hrel
    have Hb := Lib.hid hbel; have HE := hE
    clear hbel hE
    by_cases hlt : k < l.length
    · have hd1 : decide ((k : Int) < (l.length : Int)) = true := by simp; omega
      have hkl : (k : Int) < (l.length : Int) := by omega
      have hkk : (k : Int) < 100000 := by have := HL.out; omega
      obtain ⟨b, off, rfl, hbl, hs⟩ : ∃ b off, a = some ⟨b, off, none⟩ ∧ b < w.heap.size ∧ ∀ j, j < l.length → w.cell? ⟨b, off + j * 2, none⟩ = some (.int .i64 (nthF l j).1) ∧ ∃ u, w.cell? ⟨b, off + j * 2 + 1, none⟩ = some u ∧ In w u (nthF l j).2 := by
        rcases HS.out with h | h
        · rw [h] at hlt; simp at hlt
        · exact h
      obtain ⟨h1w, u, h2w, h3⟩ := hs k hlt
      have h1 : wr.cell? ⟨b, off + k * 2, none⟩ = some (.int .i64 (nthF l k).1) := by rw [Hb.out.cell (p := ⟨b, off + k * 2, none⟩) hbl]; exact h1w
      have h2 : wr.cell? ⟨b, off + k * 2 + 1, none⟩ = some u := by rw [Hb.out.cell (p := ⟨b, off + k * 2 + 1, none⟩) hbl]; exact h2w
      have hml : (nthF l k).2.length ≤ 100000 := HB.out _ (by
        unfold nthF
        rw [List.getD_eq_getElem?_getD, List.getElem?_eq_getElem hlt]
        exact List.getElem_mem hlt)
      have hE2 : getF t l = if (nthF l k).1 = t then some (nthF l k).2 else getF t (l.drop (k + 1)) := by
        rw [HE.out, nthF_lt hlt]; rfl
      obtain ⟨a1, c1, rfl, h3b⟩ := h3
      have H3 : Hid (In w (.slice a1 (nthF l k).2.length c1) (nthF l k).2) := Lib.hid ⟨a1, c1, rfl, h3b⟩
      generalize hM : (nthF l k).2 = M at *
      generalize hT : (nthF l k).1 = T at *
      have HM := Lib.hid hml
      clear hs h1w h3b HE hml
      generalize hm : M.length = m at *
      by_cases hTt : T = t
      · have hd2 : (T == t) = true := by simp [hTt]
        have HE2 : Hid (getF t l = some M) := Lib.hid (by rw [hE2, if_pos hTt])
        have HO : Hid (OwnB (wr.alloc (.cells #[] 5)) w.heap.size (.slice (some ⟨wr.heap.size, 0, none⟩) 0 0) []) := Lib.hid (OwnB.lit0 wr w.heap.size Hb.out.size)
        have HB2 := Lib.hid (Hb.out.alloc Hb.out.size (.cells #[] 5))
        have h2b : (wr.alloc (.cells #[] 5)).cell? ⟨b, off + k * 2 + 1, none⟩ = some (.slice a1 m c1) := (HB2.out.cell (p := ⟨b, off + k * 2 + 1, none⟩) hbl).trans h2w
        have Hm := Lib.hid hm
        clear hE2 hTt hm h2w
        go_wp2_with (refine appI rfl _ _ rfl w.heap.size (.slice (some ⟨wr.heap.size, 0, none⟩) 0 0) _ [] M rfl rfl HO.out (H3.out.below HB2.out) ?_ ?_ ?_
                     · have := Hm.out; have := HM.out; simp only [List.length_nil]; omega
                     · have := Hb.out.size; simp; omega
                     intro v5 w5 ho5 hg5
                     have hb5 : Below w.heap.size w w5 := Below.grown HB2.out hg5 (by have := Hb.out.size; simp; omega) (fun k hk => (HO.out.lt k hk).1)
                     have HO5 : Hid (OwnB w5 w.heap.size v5 M) := Lib.hid ho5
                     have HB5 := Lib.hid hb5
                     clear ho5 hg5 hb5)
        exact bodyPost_ret (results_tmp2 rfl _ _ _) rfl ⟨v5, 0, rfl, HB5.out, Or.inl ⟨M, HE2.out, rfl, HO5.out⟩⟩
      · have hd2 : (T == t) = false := by simp [hTt]
        have HE2 : Hid (getF t l = getF t (l.drop (k + 1))) := Lib.hid (by rw [hE2, if_neg hTt])
        clear hE2 hTt
        go_wp2
        exact ⟨⟨k + 1, by omega, by go_num, Hb.out, HE2⟩, by simp [intOf]; omega⟩
    · obtain rfl : k = l.length := by omega
      have hd1 : decide ((l.length : Int) < (l.length : Int)) = false := by simp
      have HE2 : Hid (getF t l = none) := Lib.hid (by rw [HE.out, List.drop_length]; rfl)
      go_wp2
      exact bodyPost_ret (results_tmp2 rfl _ _ _) rfl ⟨_, 5, rfl, Hb.out, Or.inr ⟨HE2.out, rfl, rfl⟩⟩
end Go.Proofs.YtbmhmaejakjieaaDoor
