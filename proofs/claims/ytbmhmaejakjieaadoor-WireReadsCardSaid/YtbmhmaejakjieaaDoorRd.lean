/- The walk of ref.Read. -/
import Derived.Test.YtbmhmaejakjieaaDoorQd
namespace Go.Proofs.YtbmhmaejakjieaaDoor
open Go.RowKit

theorem In.lh {w : World} {v : Value} {L : List Nat} (h : In w v L) (hne : L ≠ []) (k1 k2 : IntKind) (p q : Nat) (hp : p ≤ q) (hq : q ≤ L.length) :
    ∃ v', (Instr.sliceAt 23 v (some (.int k1 (p : Int))) (some (.int k2 (q : Int))) none).run Tryd.prog w = .ok v' w ∧ In w v' ((L.drop p).take (q - p)) := by
  obtain ⟨a, c, rfl, ⟨h1, h0⟩, h3⟩ := h
  rcases h3 with h3 | ⟨b, off, rfl, h4⟩
  · exact absurd h3 hne
  refine ⟨sliced (some ⟨b, off, none⟩) p q c 1, ?_, ?_⟩
  · rw [run_sliceAt_slice (P := Tryd.prog) w 23 _ _ _ _ elem23, run_slice_lh (P := Tryd.prog) w 23 (some ⟨b, off, none⟩) L.length c elem23 k1 k2 p q (by omega) (by omega) (by omega), elem23e, size5]
    simp
  · have hl : ((L.drop p).take (q - p)).length = q - p := by rw [List.length_take, List.length_drop]; omega
    unfold sliced
    by_cases e : c = p
    · have e2 : q - p = 0 := by omega
      refine ⟨some ⟨b, off, none⟩, c - p, by rw [hl, if_pos e], ⟨by rw [hl]; omega, fun h => by cases h⟩, Or.inl (List.eq_nil_of_length_eq_zero (by omega))⟩
    · have hadd : (⟨b, off, none⟩ : Addr).add (p * 1) = ⟨b, off + p, none⟩ := by unfold Addr.add; split <;> simp_all
      refine ⟨some ⟨b, off + p, none⟩, c - p, by rw [hl, if_neg e, Option.map_some, hadd], ⟨by rw [hl]; omega, fun h => by cases h⟩, Or.inr ⟨b, off + p, rfl, (h4.drop p).take _⟩⟩

section
variable {ops : Array Oper} {rest : List Oper} {o : Oper} {a : Act} {w : World} {Q : Exit → Act → World → Prop}

theorem stepLH (hgd : o.guard = none) (s x y : Operand) (ho : o.op = .slice 23 s (some x) (some y) none) (v : Value) (L : List Nat) (p q : Nat) (i j : Int) (hs : a.eval s = v) (hx : a.eval x = .int .i64 i) (hy : a.eval y = .int .i64 j)
    (hi : i = (p : Int)) (hj : j = (q : Int)) (hv : In w v L) (hne : L ≠ []) (hp : p ≤ q) (hq : q ≤ L.length)
    (h : ∀ v', In w v' ((L.drop p).take (q - p)) → wpList Tryd.prog ops Q rest (a.put o.dst v') w) : wpList Tryd.prog ops Q (o :: rest) a w := by
  subst hi; subst hj
  obtain ⟨v', hr, h2⟩ := hv.lh hne .i64 .i64 p q hp hq
  refine wpList_plain hgd fun K hK => ?_
  unfold Oper.wp execOp
  simp only [ho, Sem.run_bind, Sem.run_pure, Result.andThen_ok, Option.map_some, Option.map_none, hs, hx, hy, hr]
  exact hK _ _ (h v' h2)
end

theorem nth_drop {L : List Nat} (k j : Nat) : nth (L.drop k) j = nth L (k + j) := by simp [nth, List.getD_eq_getElem?_getD]

set_option maxHeartbeats 4000000 in
set_option maxRecDepth 100000 in
theorem rread_any (L : List Nat) (hL : Byt L) (hlen : L.length ≤ 4096) (w : World) (v : Value) (hv : In w v L) :
    Calls Tryd.prog 28 #[v] w fun e w' => ∃ v' n, e = .returned (.tuple #[v', .int .i64 n]) ∧ Below w.heap.size w w' ∧
      ((∃ l, readF L.length 0 L = some l ∧ n = 0 ∧ OwnF w' w.heap.size v' (l.map toF)) ∨ (readF L.length 0 L = none ∧ n = 80 ∧ v' = .slice none 0 0)) := by
  obtain ⟨a, c, rfl, h2, h3⟩ := hv
  have HV : Hid (In w (.slice a L.length c) L) := Lib.hid ⟨a, c, rfl, h2, h3⟩
  have H3 := Lib.hid h3; have HL := Lib.hid hL
  have hd : decide ((4096 : Int) < (L.length : Int)) = false := by simp; omega
  have b0 := Lib.hid ((Below.refl w.heap.size w).alloc (Nat.le_refl _) (.cells #[] 54))
  have o0 := Lib.hid (OwnF.lit0 w w.heap.size (Nat.le_refl _))
  clear h2 h3 hL
  obtain ⟨q, hq⟩ : ∃ q, L.length = q := ⟨_, rfl⟩
  have Hq := Lib.hid hq
  rw [hq] at HV hd hlen ⊢
  clear hq
  go_enter Tryd.func28, Tryd.ntmps28
  go_wp2
  go_loopw [4, 5, 6] (fun out last at_ wr => ∃ (f t k : Nat) (D : List (Nat × List Nat)), k ≤ q ∧ q - k ≤ f ∧ t < 256 ∧ at_ = .int .i64 k ∧ last = .int .i64 t ∧ Hid (readF q 0 L = (readF f t (L.drop k)).map (D ++ ·)) ∧ OwnF wr w.heap.size out (D.map toF) ∧ Below w.heap.size w wr ∧ D.length ≤ k)
    (fun _ _ at_ _ => q - (intOf at_).toNat)
  case atStart => exact ⟨q, 0, 0, [], by omega, by omega, by omega, rfl, rfl, Lib.hid (by rw [List.drop_zero]; cases readF q 0 L <;> simp), o0.out, b0.out, by simp⟩
  case round =>
    obtain ⟨f, t, k, D, hk, hf, ht, rfl, rfl, HE, hown, hbel, hDl⟩ := hrel
    have HO := Lib.hid hown; have Hb := Lib.hid hbel; have HD := Lib.hid hDl; have Hf := Lib.hid hf
    clear hown hbel hDl hf
    have hdl : (L.drop k).length = q - k := by rw [List.length_drop, Hq.out]
    by_cases hlt : k < q
    · have hd1 : decide ((k : Int) < (q : Int)) = true := by simp; omega
      have hkq : (k : Int) < (q : Int) := by omega
      obtain ⟨g, r1, hr1⟩ : ∃ g r1, L.drop k = g :: r1 := by
        cases h : L.drop k with
        | nil => rw [h] at hdl; simp at hdl; omega
        | cons g r1 => exact ⟨g, r1, rfl⟩
      have hne : L ≠ [] := by intro h; rw [h] at hr1; simp at hr1
      obtain ⟨b, off, rfl, hs⟩ : ∃ b off, a = some ⟨b, off, none⟩ ∧ SegB w b off L := by
        rcases H3.out with h | h
        · exact absurd h hne
        · exact h
      have Hne := Lib.hid hne
      clear hne
      by_cases h3 : q - k < 3
      · have hd2 : decide ((q : Int) - (k : Int) < 3) = true := by simp; omega
        have HX : Hid (readF q 0 L = none) := Lib.hid (by
          rw [HE.out, hr1, readF_short (by rw [hr1] at hdl; simp only [List.length_cons] at hdl; omega)]; rfl)
        clear hs hdl hr1 h3
        go_wp2
        exact bodyPost_ret (results_tmp2 rfl _ _ _) rfl ⟨_, 80, rfl, Hb.out, Or.inr ⟨HX.out, rfl, rfl⟩⟩
      · have hd2 : decide ((q : Int) - (k : Int) < 3) = false := by simp; omega
        obtain ⟨x, y, r, rfl⟩ : ∃ x y r, r1 = x :: y :: r := by
          match r1, hr1 with
          | [], hr1 => rw [hr1] at hdl; simp at hdl; omega
          | [_], hr1 => rw [hr1] at hdl; simp at hdl; omega
          | x :: y :: r, _ => exact ⟨x, y, r, rfl⟩
        have hmem : ∀ z ∈ g :: x :: y :: r, z < 256 := fun z hz => HL.out z (by rw [← hr1] at hz; exact List.mem_of_mem_drop hz)
        have hg : g < 256 := hmem g (by simp)
        have hx : x < 256 := hmem x (by simp)
        have hy : y < 256 := hmem y (by simp)
        have hrl : r.length = q - k - 3 := by rw [hr1] at hdl; simp only [List.length_cons] at hdl; omega
        have n0 : nth L k = g := by have := nth_drop (L := L) k 0; rw [hr1] at this; simpa [nth] using this.symm
        have n1 : nth L (k + 1) = x := by have := nth_drop (L := L) k 1; rw [hr1] at this; simpa [nth] using this.symm
        have n2 : nth L (k + 2) = y := by have := nth_drop (L := L) k 2; rw [hr1] at this; simpa [nth] using this.symm
        have hbl : b < w.heap.size := hs.lt (by rw [Hq.out]; omega)
        have c0 : wr.cell? ⟨b, off + k, none⟩ = some (.int .u8 ((g : Nat) : Int)) := by
          rw [Hb.out.cell (p := ⟨b, off + k, none⟩) hbl, hs k (by rw [Hq.out]; omega), n0]
        have c1 : wr.cell? ⟨b, off + (k + 1), none⟩ = some (.int .u8 ((x : Nat) : Int)) := by
          rw [Hb.out.cell (p := ⟨b, off + (k + 1), none⟩) hbl, hs (k + 1) (by rw [Hq.out]; omega), n1]
        have c2 : wr.cell? ⟨b, off + (k + 2), none⟩ = some (.int .u8 ((y : Nat) : Int)) := by
          rw [Hb.out.cell (p := ⟨b, off + (k + 2), none⟩) hbl, hs (k + 2) (by rw [Hq.out]; omega), n2]
        have hgi : (g : Int) < 256 := by omega
        have hxi : (x : Int) < 256 := by omega
        have hyi : (y : Int) < 256 := by omega
        have hk1 : (k : Int) + 1 < (q : Int) := by omega
        have hk2 : (k : Int) + 2 < (q : Int) := by omega
        have Hr1 := Lib.hid hr1; have Hrl := Lib.hid hrl
        clear hs hdl hr1 hmem n0 n1 n2 hrl
        by_cases hgt : g ≤ t
        · have hd3 : decide (g ≤ t) = true := by simp [hgt]
          have HX : Hid (readF q 0 L = none) := Lib.hid (by rw [HE.out, Hr1.out, readF_le hgt]; rfl)
          clear hgt
          go_wp2
          go_region
          go_wp2
          exact bodyPost_ret (results_tmp2 rfl _ _ _) rfl ⟨_, 80, rfl, Hb.out.drew, Or.inr ⟨HX.out, rfl, rfl⟩⟩
        · have hd3 : decide (g ≤ t) = false := by simp only [decide_eq_false_iff_not]; exact hgt
          have HG := Lib.hid hgt
          clear hgt
          obtain ⟨m, hm⟩ : ∃ m, x * 256 + y = m := ⟨_, rfl⟩
          have Hm := Lib.hid hm
          by_cases hmq : q - k - 3 < m
          · have hd4 : decide ((q : Int) - (k : Int) - 3 < (x : Int) * 256 + (y : Int)) = true := by simp; omega
            have HX : Hid (readF q 0 L = none) := Lib.hid (by rw [HE.out, Hr1.out, readF_over (by rw [Hrl.out, hm]; exact hmq)]; rfl)
            clear hm hmq
            go_wp2
            go_region
            go_wp2
            exact bodyPost_ret (results_tmp2 rfl _ _ _) rfl ⟨_, 80, rfl, Hb.out.drew, Or.inr ⟨HX.out, rfl, rfl⟩⟩
          · have hd4 : decide ((q : Int) - (k : Int) - 3 < (x : Int) * 256 + (y : Int)) = false := by simp; omega
            have HMq : Hid (m ≤ q - k - 3) := Lib.hid (by omega)
            have HI1 : Hid ((k : Int) + 3 = ((k + 3 : Nat) : Int)) := Lib.hid (by omega)
            have HI2 : Hid ((k : Int) + 3 + ((x : Int) * 256 + (y : Int)) = ((k + 3 + m : Nat) : Int)) := Lib.hid (by omega)
            have HI3 : Hid ((k : Int) + (3 + ((x : Int) * 256 + (y : Int))) = ((k + 3 + m : Nat) : Int)) := Lib.hid (by omega)
            have hxy : (x : Int) * 256 + (y : Int) ≤ 4096 := by omega
            have HVr : Hid (In wr.drew (.slice (some ⟨b, off, none⟩) q c) L) := Lib.hid (HV.out.below Hb.out.drew)
            have HO2 : Hid (OwnB (wr.drew.alloc (.cells #[] 5)) w.heap.size (.slice (some ⟨wr.heap.size, 0, none⟩) 0 0) []) := Lib.hid (OwnB.lit0 wr.drew w.heap.size Hb.out.size)
            have HB2 := Lib.hid (Hb.out.drew.alloc Hb.out.size (.cells #[] 5))
            have HB0 := Lib.hid ((Below.refl wr.heap.size wr).drew.alloc (Nat.le_refl _) (.cells #[] 5))
            obtain ⟨M, hM⟩ : ∃ M, r.take m = M := ⟨_, rfl⟩
            have hd3r : L.drop (k + 3) = r := by
              rw [← List.drop_drop, Hr1.out]; rfl
            have HMe : Hid ((L.drop (k + 3)).take (k + 3 + m - (k + 3)) = M) := Lib.hid (by rw [hd3r, show k + 3 + m - (k + 3) = m by omega, hM])
            have HMl : Hid (M.length = m) := Lib.hid (by rw [← hM, List.length_take, Hrl.out]; omega)
            have HNx : Hid (L.drop (k + 3 + m) = r.drop m) := Lib.hid (by rw [← List.drop_drop, hd3r])
            have HMm := Lib.hid hM
            clear hd3r hM
            clear hm hmq
            go_wp2
            go_region
            go_wp2_with (first
              | (refine stepLH rfl _ _ _ rfl (.slice (some ⟨b, off, none⟩) q c) L (k + 3) (k + 3 + m) _ _ rfl rfl rfl HI1.out HI2.out (HV.out.below HB2.out) Hne.out (by omega) (by have := HMq.out; rw [Hq.out]; omega) ?_; intro v1 h1
                 rw [HMe.out] at h1
                 obtain ⟨a1, c1, rfl, h1b⟩ := h1
                 rw [HMl.out] at h1b ⊢
                 have H1 : Hid (In (wr.drew.alloc (.cells #[] 5)) (.slice a1 m c1) M) := Lib.hid ⟨a1, c1, by rw [HMl.out], by rw [HMl.out]; exact h1b.1, h1b.2⟩
                 clear h1b)
              | (refine appI rfl _ _ rfl w.heap.size (.slice (some ⟨wr.heap.size, 0, none⟩) 0 0) _ [] M rfl rfl HO2.out H1.out ?_ ?_ ?_
                 · have := HMl.out; have := HMq.out; simp only [List.length_nil]; omega
                 · exact HB2.out.size
                 intro v2 w2 ho2 hg2
                 obtain ⟨a2, n2, c2, rfl⟩ := ho2.formA
                 have hb2 : Below w.heap.size w w2 := Below.grown HB2.out hg2 HB2.out.size (fun k hk => (HO2.out.lt k hk).1)
                 have hf2 : OwnF w2 w.heap.size u4 (D.map toF) := HO.out.below (Below.grown HB0.out hg2 HB0.out.size (fun k hk => by simp [Value.ownBlock] at hk; omega))
                 have HW2 : Hid (OwnB w2 w.heap.size (.slice a2 n2 c2) M) := Lib.hid ho2
                 have HB3 := Lib.hid hb2; have HF3 := Lib.hid hf2
                 clear ho2 hg2 hb2 hf2)
              | (refine appF rfl _ _ rfl w.heap.size u4 (.slice a2 n2 c2) (D.map toF) (g : Int) M _ 1 rfl rfl (HF3.out.alloc _) (Has.newAt _ 54 rfl) (HW2.out.alloc _) ?_ ?_ ?_
                 · have := HD.out; simp only [List.length_map]; omega
                 · have := HB3.out.size; simp; omega
                 intro v5 w5 ho5 hg5
                 have hb5 : Below w.heap.size w w5 := Below.grown (HB3.out.alloc HB3.out.size _) hg5 (by have := HB3.out.size; simp; omega) (fun k hk => (HF3.out.lt k hk).1)
                 have HO5 := Lib.hid ho5; have HB5 := Lib.hid hb5
                 clear ho5 hg5 hb5))
            match f, Hf.out, HE.out with
            | 0, hf0, _ => omega
            | f + 1, hf0, hE0 =>
              have hmq := HMq.out
              rw [Hr1.out, readF_next HG.out (by rw [Hm.out, Hrl.out]; exact hmq), Hm.out, HMm.out] at hE0
              refine ⟨⟨f, g, k + 3 + m, D ++ [(g, M)], by omega, by omega, hg, ?_, rfl, Lib.hid ?_, ?_, HB5.out, ?_⟩, ?_⟩
              · have := HI3.out; simp only [Value.int.injEq, true_and]; omega
              · rw [hE0, HNx.out, Option.map_map]
                congr 1
                funext z
                simp
              · have := HO5.out
                rw [List.map_append]
                exact this
              · have := HD.out
                rw [List.length_append]
                simp only [List.length_cons, List.length_nil]
                omega
              · have := HI3.out
                simp only [intOf]
                omega
    · obtain rfl : k = q := by omega
      have hd1 : decide ((k : Int) < (k : Int)) = false := by simp
      have HX : Hid (readF k 0 L = some D) := Lib.hid (by
        rw [HE.out, List.drop_of_length_le (by rw [Hq.out]; omega)]
        cases f <;> simp [readF])
      clear hdl
      go_wp2
      exact bodyPost_ret (results_tmp2 rfl _ _ _) rfl ⟨_, 0, rfl, Hb.out, Or.inl ⟨D, HX.out, rfl, HO.out⟩⟩
end Go.Proofs.YtbmhmaejakjieaaDoor
