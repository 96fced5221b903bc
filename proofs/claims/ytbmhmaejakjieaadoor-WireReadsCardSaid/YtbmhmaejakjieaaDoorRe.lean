/- The walk of ref.ReadList. -/
import Derived.Test.YtbmhmaejakjieaaDoorRd
import Derived.Test.YtbmhmaejakjieaaDoorLf
namespace Go.Proofs.YtbmhmaejakjieaaDoor
open Go.RowKit

theorem rread_long (a : Option Addr) (n c : Nat) (hn : 4096 < n) (w : World) :
    Calls Tryd.prog 28 #[.slice a n c] w fun e w' => e = .returned (.tuple #[.slice none 0 0, .int .i64 3]) ∧ w = w' := by
  have hd : decide ((4096 : Int) < (n : Int)) = true := by simp; omega
  clear hn
  go_enter Tryd.func28, Tryd.ntmps28
  go_wp2
  exact bodyPost_ret (results_tmp2 rfl _ _ _) rfl ⟨rfl, rfl⟩

theorem readList_long (a : Option Addr) (n c : Nat) (hn : 4096 < n) (w : World) :
    Calls Tryd.prog 25 #[.slice a n c] w fun e w' => e = .returned (.tuple #[.slice none 0 0, .int .i64 3]) ∧ w = w' := by
  have hd : decide ((4096 : Int) < (n : Int)) = true := by simp; omega
  clear hn
  go_enter Tryd.func25, Tryd.ntmps25
  go_wp2
  exact bodyPost_ret (results_tmp2 rfl _ _ _) rfl ⟨rfl, rfl⟩

theorem rreadList_long (a : Option Addr) (n c : Nat) (hn : 4096 < n) (w : World) :
    Calls Tryd.prog 30 #[.slice a n c] w fun e w' => e = .returned (.tuple #[.slice none 0 0, .int .i64 3]) ∧ w = w' := by
  have hd : decide ((4096 : Int) < (n : Int)) = true := by simp; omega
  clear hn
  go_enter Tryd.func30, Tryd.ntmps30
  go_wp2
  exact bodyPost_ret (results_tmp2 rfl _ _ _) rfl ⟨rfl, rfl⟩

set_option maxHeartbeats 4000000 in
set_option maxRecDepth 100000 in
theorem rreadList_any (L : List Nat) (hL : Byt L) (hlen : L.length ≤ 4096) (w : World) (v : Value) (hv : In w v L) :
    Calls Tryd.prog 30 #[v] w fun e w' => ∃ v' n, e = .returned (.tuple #[v', .int .i64 n]) ∧ Below w.heap.size w w' ∧
      ((∃ l, readL L.length L = some l ∧ l.length ≤ 256 ∧ n = 0 ∧ OwnL w' w.heap.size v' l) ∨ (∃ l, readL L.length L = some l ∧ 256 < l.length ∧ n = 3 ∧ v' = .slice none 0 0) ∨
        (readL L.length L = none ∧ n = 80 ∧ v' = .slice none 0 0)) := by
  obtain ⟨a, c, rfl, h2, h3⟩ := hv
  have HV : Hid (In w (.slice a L.length c) L) := Lib.hid ⟨a, c, rfl, h2, h3⟩
  have H3 := Lib.hid h3; have HL := Lib.hid hL
  have hd : decide ((4096 : Int) < (L.length : Int)) = false := by simp; omega
  have b0 := Lib.hid ((Below.refl w.heap.size w).alloc (Nat.le_refl _) (.cells #[] 23))
  have o0 := Lib.hid (OwnL.lit0 w w.heap.size (Nat.le_refl _))
  clear h2 h3 hL
  obtain ⟨q, hq⟩ : ∃ q, L.length = q := ⟨_, rfl⟩
  have Hq := Lib.hid hq
  rw [hq] at HV hd hlen ⊢
  clear hq
  go_enter Tryd.func30, Tryd.ntmps30
  go_wp2
  go_loopw [4, 5] (fun out at_ wr => ∃ (f k : Nat) (D : List (List Nat)), k ≤ q ∧ q - k ≤ f ∧ at_ = .int .i64 k ∧ Hid (readL q L = (readL f (L.drop k)).map (D ++ ·)) ∧ OwnL wr w.heap.size out D ∧ Below w.heap.size w wr ∧ D.length ≤ k)
    (fun _ at_ _ => q - (intOf at_).toNat)
  case atStart => exact ⟨q, 0, [], by omega, by omega, rfl, Lib.hid (by rw [List.drop_zero]; cases readL q L <;> simp), o0.out, b0.out, by simp⟩
  case round =>
    obtain ⟨f, k, D, hk, hf, rfl, HE, hown, hbel, hDl⟩ := hrel
    have HO := Lib.hid hown; have Hb := Lib.hid hbel; have HD := Lib.hid hDl; have Hf := Lib.hid hf
    clear hown hbel hDl hf
    have hdl : (L.drop k).length = q - k := by rw [List.length_drop, Hq.out]
    obtain ⟨al, cl, hform⟩ := HO.out.form
    subst hform
    by_cases hlt : k < q
    · have hd1 : decide ((k : Int) < (q : Int)) = true := by simp; omega
      have hkq : (k : Int) < (q : Int) := by omega
      obtain ⟨g, r1, hr1⟩ : ∃ g r1, L.drop k = g :: r1 := by
        cases h : L.drop k with
        | nil => rw [h] at hdl; simp at hdl; omega
        | cons g r1 => exact ⟨g, r1, rfl⟩
      have hne : L ≠ [] := by intro h; rw [h] at hr1; simp at hr1
      obtain ⟨b, off, rfl, hs⟩ : ∃ b off, a = some ⟨b, off, none⟩ ∧ SegB w b off L := by
        rcases H3.out with h | h
        · exact absurd h hne
        · exact h
      have Hne := Lib.hid hne
      clear hne
      by_cases h3 : q - k < 2
      · have hd2 : decide ((q : Int) - (k : Int) < 2) = true := by simp; omega
        have HX : Hid (readL q L = none) := Lib.hid (by
          rw [HE.out, readL_short (by rw [hr1]; simp) (by rw [hdl]; exact h3)]; rfl)
        clear hs hdl hr1 h3
        go_wp2
        exact bodyPost_ret (results_tmp2 rfl _ _ _) rfl ⟨_, 80, rfl, Hb.out, Or.inr (Or.inr ⟨HX.out, rfl, rfl⟩)⟩
      · have hd2 : decide ((q : Int) - (k : Int) < 2) = false := by simp; omega
        obtain ⟨y, r, rfl⟩ : ∃ y r, r1 = y :: r := by
          match r1, hr1 with
          | [], hr1 => rw [hr1] at hdl; simp at hdl; omega
          | y :: r, _ => exact ⟨y, r, rfl⟩
        have hmem : ∀ z ∈ g :: y :: r, z < 256 := fun z hz => HL.out z (by rw [← hr1] at hz; exact List.mem_of_mem_drop hz)
        have hg : g < 256 := hmem g (by simp)
        have hy : y < 256 := hmem y (by simp)
        have hrl : r.length = q - k - 2 := by rw [hr1] at hdl; simp only [List.length_cons] at hdl; omega
        have n0 : nth L k = g := by have := nth_drop (L := L) k 0; rw [hr1] at this; simpa [nth] using this.symm
        have n1 : nth L (k + 1) = y := by have := nth_drop (L := L) k 1; rw [hr1] at this; simpa [nth] using this.symm
        have hbl : b < w.heap.size := hs.lt (by rw [Hq.out]; omega)
        have c0 : wr.cell? ⟨b, off + k, none⟩ = some (.int .u8 ((g : Nat) : Int)) := by
          rw [Hb.out.cell (p := ⟨b, off + k, none⟩) hbl, hs k (by rw [Hq.out]; omega), n0]
        have c1 : wr.cell? ⟨b, off + (k + 1), none⟩ = some (.int .u8 ((y : Nat) : Int)) := by
          rw [Hb.out.cell (p := ⟨b, off + (k + 1), none⟩) hbl, hs (k + 1) (by rw [Hq.out]; omega), n1]
        have hgi : (g : Int) < 256 := by omega
        have hyi : (y : Int) < 256 := by omega
        have hk1 : (k : Int) + 1 < (q : Int) := by omega
        have Hr1 := Lib.hid hr1; have Hrl := Lib.hid hrl
        clear hs hdl hr1 hmem n0 n1 hrl
        obtain ⟨m, hm⟩ : ∃ m, g * 256 + y = m := ⟨_, rfl⟩
        have Hm := Lib.hid hm
        by_cases hmq : q - k - 2 < m
        · have hd4 : decide ((q : Int) - (k : Int) - 2 < (g : Int) * 256 + (y : Int)) = true := by simp; omega
          have HX : Hid (readL q L = none) := Lib.hid (by rw [HE.out, Hr1.out, readL_over (by rw [Hrl.out, hm]; exact hmq)]; rfl)
          clear hm hmq
          go_wp2
          go_region
          go_wp2
          exact bodyPost_ret (results_tmp2 rfl _ _ _) rfl ⟨_, 80, rfl, Hb.out.drew, Or.inr (Or.inr ⟨HX.out, rfl, rfl⟩)⟩
        · have hd4 : decide ((q : Int) - (k : Int) - 2 < (g : Int) * 256 + (y : Int)) = false := by simp; omega
          have HMq : Hid (m ≤ q - k - 2) := Lib.hid (by omega)
          have HI1 : Hid ((k : Int) + 2 = ((k + 2 : Nat) : Int)) := Lib.hid (by omega)
          have HI2 : Hid ((k : Int) + 2 + ((g : Int) * 256 + (y : Int)) = ((k + 2 + m : Nat) : Int)) := Lib.hid (by omega)
          have HI3 : Hid ((k : Int) + (2 + ((g : Int) * 256 + (y : Int))) = ((k + 2 + m : Nat) : Int)) := Lib.hid (by omega)
          have hxy : (g : Int) * 256 + (y : Int) ≤ 4096 := by omega
          have HO2 : Hid (OwnB (wr.drew.alloc (.cells #[] 5)) w.heap.size (.slice (some ⟨wr.heap.size, 0, none⟩) 0 0) []) := Lib.hid (OwnB.lit0 wr.drew w.heap.size Hb.out.size)
          have HB2 := Lib.hid (Hb.out.drew.alloc Hb.out.size (.cells #[] 5))
          have HB0 := Lib.hid ((Below.refl wr.heap.size wr).drew.alloc (Nat.le_refl _) (.cells #[] 5))
          obtain ⟨M, hM⟩ : ∃ M, r.take m = M := ⟨_, rfl⟩
          have hd3r : L.drop (k + 2) = r := by
            rw [← List.drop_drop, Hr1.out]; rfl
          have HMe : Hid ((L.drop (k + 2)).take (k + 2 + m - (k + 2)) = M) := Lib.hid (by rw [hd3r, show k + 2 + m - (k + 2) = m by omega, hM])
          have HMl : Hid (M.length = m) := Lib.hid (by rw [← hM, List.length_take, Hrl.out]; omega)
          have HNx : Hid (L.drop (k + 2 + m) = r.drop m) := Lib.hid (by rw [← List.drop_drop, hd3r])
          have HMm := Lib.hid hM
          clear hd3r hM
          clear hm hmq
          go_wp2
          go_region
          go_wp2_with (first
            | (refine stepLH rfl _ _ _ rfl (.slice (some ⟨b, off, none⟩) q c) L (k + 2) (k + 2 + m) _ _ rfl rfl rfl HI1.out HI2.out (HV.out.below HB2.out) Hne.out (by omega) (by have := HMq.out; rw [Hq.out]; omega) ?_; intro v1 h1
               rw [HMe.out] at h1
               obtain ⟨a1, c1, rfl, h1b⟩ := h1
               rw [HMl.out] at h1b ⊢
               have H1 : Hid (In (wr.drew.alloc (.cells #[] 5)) (.slice a1 m c1) M) := Lib.hid ⟨a1, c1, by rw [HMl.out], by rw [HMl.out]; exact h1b.1, h1b.2⟩
               clear h1b)
            | (refine appI rfl _ _ rfl w.heap.size (.slice (some ⟨wr.heap.size, 0, none⟩) 0 0) _ [] M rfl rfl HO2.out H1.out ?_ ?_ ?_
               · have := HMl.out; have := HMq.out; simp only [List.length_nil]; omega
               · exact HB2.out.size
               intro v2 w2 ho2 hg2
               obtain ⟨a2, n2, c2, rfl⟩ := ho2.formA
               have hb2 : Below w.heap.size w w2 := Below.grown HB2.out hg2 HB2.out.size (fun k hk => (HO2.out.lt k hk).1)
               have hf2 : OwnL w2 w.heap.size (.slice al D.length cl) D := HO.out.below (Below.grown HB0.out hg2 HB0.out.size (fun k hk => by simp [Value.ownBlock] at hk; omega))
               have HW2 : Hid (OwnB w2 w.heap.size (.slice a2 n2 c2) M) := Lib.hid ho2
               have HB3 := Lib.hid hb2; have HF3 := Lib.hid hf2
               clear ho2 hg2 hb2 hf2)
            | (refine appL rfl _ _ rfl w.heap.size (.slice al D.length cl) (.slice a2 n2 c2) D M _ 1 rfl rfl (HF3.out.alloc _) (Has.newAt _ 23 rfl) (HW2.out.alloc _) ?_ ?_ ?_
               · have := HD.out; omega
               · have := HB3.out.size; simp; omega
               intro v5 w5 ho5 hg5
               have hb5 : Below w.heap.size w w5 := Below.grown (HB3.out.alloc HB3.out.size _) hg5 (by have := HB3.out.size; simp; omega) (fun k hk => (HF3.out.lt k hk).1)
               have HO5 := Lib.hid ho5; have HB5 := Lib.hid hb5
               clear ho5 hg5 hb5))
          match f, Hf.out, HE.out with
          | 0, hf0, _ => omega
          | f + 1, hf0, hE0 =>
            have hmq := HMq.out
            rw [Hr1.out, readL_next (by rw [Hm.out, Hrl.out]; exact hmq), Hm.out, HMm.out] at hE0
            refine ⟨⟨f, k + 2 + m, D ++ [M], by omega, by omega, ?_, Lib.hid ?_, HO5.out, HB5.out, ?_⟩, ?_⟩
            · have := HI3.out; simp only [Value.int.injEq, true_and]; omega
            · rw [hE0, HNx.out, Option.map_map]
              congr 1
              funext z
              simp
            · have := HD.out
              rw [List.length_append]
              simp only [List.length_cons, List.length_nil]
              omega
            · have := HI3.out
              simp only [intOf]
              omega
    · obtain rfl : k = q := by omega
      have hd1 : decide ((k : Int) < (k : Int)) = false := by simp
      have HX : Hid (readL k L = some D) := Lib.hid (by
        rw [HE.out, List.drop_of_length_le (by rw [Hq.out]; omega)]
        cases f <;> simp [readL])
      clear hdl
      by_cases h256 : D.length ≤ 256
      · have hdd : decide ((256 : Int) < (D.length : Int)) = false := by simp; omega
        have H2 := Lib.hid h256
        clear h256
        go_wp2
        exact bodyPost_ret (results_tmp2 rfl _ _ _) rfl ⟨_, 0, rfl, Hb.out, Or.inl ⟨D, HX.out, H2.out, rfl, HO.out⟩⟩
      · have hdd : decide ((256 : Int) < (D.length : Int)) = true := by simp; omega
        have H2 : Hid (256 < D.length) := Lib.hid (by omega)
        clear h256
        go_wp2
        exact bodyPost_ret (results_tmp2 rfl _ _ _) rfl ⟨_, 3, rfl, Hb.out, Or.inr (Or.inl ⟨D, HX.out, H2.out, rfl, rfl⟩)⟩
end Go.Proofs.YtbmhmaejakjieaaDoor
