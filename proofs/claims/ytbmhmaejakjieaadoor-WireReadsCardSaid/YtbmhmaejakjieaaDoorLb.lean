/- The walk of parts. -/
import Derived.Test.YtbmhmaejakjieaaDoorLa
namespace Go.Proofs.YtbmhmaejakjieaaDoor
open Go.RowKit

/-- What parts keeps of a list. -/
def partsF : Nat → Nat → List (List Nat) → List (List Nat)
  | _, _, [] => []
  | _, 0, _ => []
  | left, k + 1, x :: l => (x.take 4097).take left :: partsF (left - ((x.take 4097).take left).length) k l

/-- The whole length. -/
def sumB (l : List (List Nat)) : Nat := (l.map List.length).foldr (· + ·) 0

theorem sumB_cons (x : List Nat) (l : List (List Nat)) : sumB (x :: l) = x.length + sumB l := rfl

theorem partsF_small : ∀ (l : List (List Nat)) (left k : Nat), l.length ≤ k → (∀ x ∈ l, x.length ≤ 4097) → sumB l ≤ left → partsF left k l = l
  | [], left, k, _, _, _ => by cases k <;> rfl
  | x :: l, left, 0, h, _, _ => by simp at h
  | x :: l, left, k + 1, h, h2, h3 => by
    rw [sumB_cons] at h3
    have e1 : x.take 4097 = x := List.take_of_length_le (h2 x (by simp))
    have e2 : x.take left = x := List.take_of_length_le (by omega)
    simp only [partsF, e1, e2]
    rw [partsF_small l _ k (by simpa using h) (fun y hy => h2 y (by simp [hy])) (by omega)]

theorem partsF_len : ∀ (l : List (List Nat)) (left k : Nat), (partsF left k l).length ≤ k ∧ (∀ x ∈ partsF left k l, x.length ≤ 4097) ∧ sumB (partsF left k l) ≤ left
  | [], left, k => by cases k <;> simp [partsF, sumB]
  | x :: l, left, 0 => by simp [partsF, sumB]
  | x :: l, left, k + 1 => by
    have ih := partsF_len l (left - ((x.take 4097).take left).length) k
    have hl : ((x.take 4097).take left).length ≤ left := by rw [List.length_take]; omega
    have hl2 : ((x.take 4097).take left).length ≤ 4097 := by rw [List.length_take, List.length_take]; omega
    simp only [partsF]
    refine ⟨by simp only [List.length_cons]; omega, ?_, by rw [sumB_cons]; omega⟩
    intro y hy
    rcases List.mem_cons.1 hy with rfl | hy
    · exact hl2
    · exact ih.2.1 y hy

theorem partsF_twice (l : List (List Nat)) : partsF 12288 257 (partsF 12288 257 l) = partsF 12288 257 l := by
  obtain ⟨h1, h2, h3⟩ := partsF_len l 12288 257
  exact partsF_small _ _ _ h1 h2 h3

theorem partsF_byt : ∀ (l : List (List Nat)) (left k : Nat), (∀ x ∈ l, Byt x) → ∀ x ∈ partsF left k l, Byt x
  | [], left, k, _ => by cases k <;> simp [partsF]
  | x :: l, left, 0, _ => by simp [partsF]
  | x :: l, left, k + 1, h => by
    intro y hy
    simp only [partsF] at hy
    rcases List.mem_cons.1 hy with rfl | hy
    · intro z hz
      exact h x (by simp) z (List.mem_of_mem_take (List.mem_of_mem_take hz))
    · exact partsF_byt l _ k (fun z hz => h z (by simp [hz])) y hy

theorem nthL_lt {l : List (List Nat)} {k : Nat} (h : k < l.length) : l.drop k = nthL l k :: l.drop (k + 1) := by
  rw [List.drop_eq_getElem_cons h]
  simp [nthL, List.getD_eq_getElem?_getD, List.getElem?_eq_getElem h]

set_option maxHeartbeats 2000000 in
set_option maxRecDepth 100000 in
theorem parts_any (l : List (List Nat)) (v : Value) (w : World) (hv : LV w v l) :
    Calls Tryd.prog 22 #[v] w fun e w' => ∃ v', e = .returned v' ∧ Below w.heap.size w w' ∧ OwnL w' w.heap.size v' (partsF 12288 257 l) := by
  obtain ⟨a, c, rfl, hs⟩ := hv
  have HS := Lib.hid hs
  have b0 := Lib.hid ((Below.refl w.heap.size w).alloc (Nat.le_refl _) (.cells #[] 23))
  have o0 := Lib.hid (OwnL.lit0 w w.heap.size (Nat.le_refl _))
  clear hs
  go_enter Tryd.func22, Tryd.ntmps22
  go_wp2
  go_loopw [3, 4, 5] (fun out left i wr => ∃ (k lf : Nat) (D : List (List Nat)), k ≤ l.length ∧ k ≤ 257 ∧ lf ≤ 12288 ∧ D.length = k ∧ i = .int .i64 k ∧ left = .int .i64 lf ∧ Below w.heap.size w wr ∧ OwnL wr w.heap.size out D ∧
    D ++ partsF lf (257 - k) (l.drop k) = partsF 12288 257 l) (fun _ _ i _ => 257 - (intOf i).toNat)
  case atStart => exact ⟨0, 12288, [], by omega, by omega, by omega, rfl, rfl, rfl, b0.out, o0.out, by simp⟩
  case round =>
    obtain ⟨k, lf, D, hk, hk2, hlf, hDl, rfl, rfl, hbel, hown, hE⟩ := hrel
    have HE := Lib.hid hE; have HO := Lib.hid hown; have Hb := Lib.hid hbel; have HD := Lib.hid hDl
    clear hE hown hbel hDl
    by_cases hlt : k < l.length
    · have hd1 : decide ((k : Int) < (l.length : Int)) = true := by simp; omega
      by_cases hlt2 : k ≤ 256
      · have hd2 : decide ((k : Int) ≤ 256) = true := by simp; omega
        have hkl : (k : Int) < (l.length : Int) := by omega
        have hkb : (k : Int) < 257 := by omega
        obtain ⟨b, off, rfl, hbl, hs⟩ : ∃ b off, a = some ⟨b, off, none⟩ ∧ b < w.heap.size ∧ SegL w b off l := by
          rcases HS.out with h | h
          · rw [h] at hlt; simp at hlt
          · exact h
        obtain ⟨u, h2, h3⟩ := hs k hlt
        have h2 : wr.cell? ⟨b, off + k, none⟩ = some u := by rw [Hb.out.cell (p := ⟨b, off + k, none⟩) hbl]; exact h2
        have h3 : In wr u (nthL l k) := h3.below Hb.out
        have hdr := nthL_lt hlt
        have he2 := HE.out
        rw [hdr, show 257 - k = (257 - (k + 1)) + 1 by omega] at he2
        simp only [partsF] at he2
        have HE2 := Lib.hid he2
        have H3 := Lib.hid h3
        clear hs h3 hdr he2 HE
        generalize hX : (nthL l k).take 4097 = X at *
        have HXl : Hid (X.length ≤ 4097) := Lib.hid (by rw [← hX, List.length_take]; omega)
        have Hsh : Hid (Calls Tryd.prog 11 #[u] wr fun e w' => ∃ a1 c1, e = .returned (.slice a1 X.length c1) ∧ wr = w' ∧ In wr (.slice a1 X.length c1) X) := Lib.hid (by
          refine (short_any u (nthL l k) wr H3.out).mono ?_
          rintro e w' ⟨v', rfl, rfl, h⟩
          rw [hX] at h
          obtain ⟨a1, c1, rfl, h1⟩ := h
          exact ⟨a1, c1, rfl, rfl, ⟨a1, c1, rfl, h1⟩⟩)
        by_cases hm : X.length ≤ lf
        · clear HS
          have hmm : ((X.length : Nat) : Int) ≤ ((lf : Nat) : Int) := by omega
          have hmx : min ((X.length : Nat) : Int) ((lf : Nat) : Int) = ((X.length : Nat) : Int) := by omega
          have hsub : wrap64 (((lf : Nat) : Int) - ((X.length : Nat) : Int)) = ((lf - X.length : Nat) : Int) := by unfold wrap64; omega
          have hsub2 : IntKind.i64.wrap (((lf : Nat) : Int) - ((X.length : Nat) : Int)) = ((lf - X.length : Nat) : Int) := by rw [IntWalk.i64_left]; exact hsub
          have HM : Hid (X.length ≤ X.length) := Lib.hid (by omega)
          have HMl : Hid (X.length ≤ 100000) := Lib.hid (by have := HXl.out; omega)
          have HLF : Hid (lf - X.length ≤ 12288) := Lib.hid (by omega)
          have HT : Hid (X.take lf = X.take X.length) := Lib.hid (by first | rfl | (rw [List.take_of_length_le hm, List.take_length]))
          have HTl : Hid ((X.take X.length).length = X.length) := Lib.hid (by rw [List.length_take]; omega)
          clear hm
          go_wp2_with (first
            | (go_at_call 11; refine Hsh.out.mono ?_; rintro e w1 ⟨a1, c1, rfl, rfl, h1⟩; have H1 := Lib.hid h1; clear h1)
            | (refine stepHi rfl _ _ rfl (.slice a1 X.length c1) X .i64 (X.length) rfl rfl H1.out HM.out ?_; intro v2 h2; obtain ⟨a2, c2, rfl, h2b⟩ := h2; have H2 : Hid (In wr (.slice a2 (X.take (X.length)).length c2) (X.take (X.length))) := Lib.hid ⟨a2, c2, rfl, h2b⟩; clear h2b; rw [HTl.out] at H2 ⊢)
            | (go_at_call 27; refine (bytes_any _ (X.take (X.length)) (by rw [HTl.out]; exact HMl.out) wr H2.out).mono ?_; rintro e w3 ⟨v3, rfl, hb3, ho3⟩; obtain ⟨a3, n3, c3, rfl⟩ := ho3.formA
               have HB3 := Lib.hid hb3; have HO3 := Lib.hid (ho3.le Hb.out.size); have HB4 := Lib.hid (bcall Hb.out hb3 Hb.out.size); clear hb3 ho3)
            | (refine appL rfl _ _ rfl w.heap.size u3 (.slice a3 n3 c3) D (X.take (X.length)) _ 1 rfl rfl ((HO.out.below HB3.out).alloc _) (Has.newAt _ 23 rfl) (HO3.out.alloc _) ?_ ?_ ?_
               · have := HD.out; omega
               · have := HB4.out.size; simp; omega
               intro v5 w5 ho5 hg5
               have hb5 : Below w.heap.size w w5 := Below.grown (HB4.out.alloc HB4.out.size _) hg5 (by have := HB4.out.size; simp; omega) (fun k hk => (HO.out.lt k hk).1)
               have HO5 := Lib.hid ho5; have HB5 := Lib.hid hb5
               clear ho5 hg5 hb5))
          refine ⟨⟨k + 1, lf - X.length, D ++ [X.take (X.length)], by omega, by omega, HLF.out, by rw [List.length_append, HD.out]; rfl, by go_num, rfl, HB5.out, HO5.out, ?_⟩, by simp [intOf]; omega⟩
          have e := HE2.out
          rw [HT.out, HTl.out] at e
          rw [← e, List.append_assoc]
          rfl
        · clear HS
          have hmm : ¬ ((X.length : Nat) : Int) ≤ ((lf : Nat) : Int) := by omega
          have hmx : min ((X.length : Nat) : Int) ((lf : Nat) : Int) = ((lf : Nat) : Int) := by omega
          have hsub : wrap64 (((lf : Nat) : Int) - ((lf : Nat) : Int)) = ((lf - lf : Nat) : Int) := by unfold wrap64; omega
          have hsub2 : IntKind.i64.wrap (((lf : Nat) : Int) - ((lf : Nat) : Int)) = ((lf - lf : Nat) : Int) := by rw [IntWalk.i64_left]; exact hsub
          have HM : Hid (lf ≤ X.length) := Lib.hid (by omega)
          have HMl : Hid (lf ≤ 100000) := Lib.hid (by have := HXl.out; omega)
          have HLF : Hid (lf - lf ≤ 12288) := Lib.hid (by omega)
          have HT : Hid (X.take lf = X.take lf) := Lib.hid (by first | rfl | (rw [List.take_of_length_le hm, List.take_length]))
          have HTl : Hid ((X.take lf).length = lf) := Lib.hid (by rw [List.length_take]; omega)
          clear hm
          go_wp2_with (first
            | (go_at_call 11; refine Hsh.out.mono ?_; rintro e w1 ⟨a1, c1, rfl, rfl, h1⟩; have H1 := Lib.hid h1; clear h1)
            | (refine stepHi rfl _ _ rfl (.slice a1 X.length c1) X .i64 (lf) rfl rfl H1.out HM.out ?_; intro v2 h2; obtain ⟨a2, c2, rfl, h2b⟩ := h2; have H2 : Hid (In wr (.slice a2 (X.take (lf)).length c2) (X.take (lf))) := Lib.hid ⟨a2, c2, rfl, h2b⟩; clear h2b; rw [HTl.out] at H2 ⊢)
            | (go_at_call 27; refine (bytes_any _ (X.take (lf)) (by rw [HTl.out]; exact HMl.out) wr H2.out).mono ?_; rintro e w3 ⟨v3, rfl, hb3, ho3⟩; obtain ⟨a3, n3, c3, rfl⟩ := ho3.formA
               have HB3 := Lib.hid hb3; have HO3 := Lib.hid (ho3.le Hb.out.size); have HB4 := Lib.hid (bcall Hb.out hb3 Hb.out.size); clear hb3 ho3)
            | (refine appL rfl _ _ rfl w.heap.size u3 (.slice a3 n3 c3) D (X.take (lf)) _ 1 rfl rfl ((HO.out.below HB3.out).alloc _) (Has.newAt _ 23 rfl) (HO3.out.alloc _) ?_ ?_ ?_
               · have := HD.out; omega
               · have := HB4.out.size; simp; omega
               intro v5 w5 ho5 hg5
               have hb5 : Below w.heap.size w w5 := Below.grown (HB4.out.alloc HB4.out.size _) hg5 (by have := HB4.out.size; simp; omega) (fun k hk => (HO.out.lt k hk).1)
               have HO5 := Lib.hid ho5; have HB5 := Lib.hid hb5
               clear ho5 hg5 hb5))
          refine ⟨⟨k + 1, 0, D ++ [X.take (lf)], by omega, by omega, by omega, by rw [List.length_append, HD.out]; rfl, by go_num, rfl, HB5.out, HO5.out, ?_⟩, by simp [intOf]; omega⟩
          have e := HE2.out
          rw [HTl.out, Nat.sub_self] at e
          rw [← e, List.append_assoc]
          rfl
      · have hd2 : decide ((k : Int) ≤ 256) = false := by simp; omega
        obtain rfl : k = 257 := by omega
        have hfin : partsF lf (257 - 257) (l.drop 257) = [] := by cases l.drop 257 <;> rfl
        rw [hfin, List.append_nil] at HE
        go_wp2
        exact bodyPost_ret (results_tmp rfl _ _ _) rfl ⟨_, rfl, Hb.out, by rw [← HE.out]; exact HO.out⟩
    · have hd1 : decide ((k : Int) < (l.length : Int)) = false := by simp; omega
      have hfin : partsF lf (257 - k) (l.drop k) = [] := by
        rw [List.drop_of_length_le (by omega)]
        cases 257 - k <;> rfl
      rw [hfin, List.append_nil] at HE
      go_wp2
      exact bodyPost_ret (results_tmp rfl _ _ _) rfl ⟨_, rfl, Hb.out, by rw [← HE.out]; exact HO.out⟩
end Go.Proofs.YtbmhmaejakjieaaDoor
