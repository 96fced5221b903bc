/- The walk of wire.ReadList. -/
import Derived.Test.YtbmhmaejakjieaaDoorLd
namespace Go.Proofs.YtbmhmaejakjieaaDoor
open Go.RowKit

theorem readL_short {f : Nat} {r : List Nat} (h : r ≠ []) (h2 : r.length < 2) : readL f r = none := by
  match f, r with
  | _, [] => exact absurd rfl h
  | 0, [_] => rfl
  | f + 1, [_] => rfl
  | _, x :: y :: r => simp only [List.length_cons] at h2; omega

theorem readL_over {f x y : Nat} {r : List Nat} (h : r.length < x * 256 + y) : readL f (x :: y :: r) = none := by
  match f with
  | 0 => rfl
  | f + 1 => simp only [readL, if_pos h]

theorem readL_next {f x y : Nat} {r : List Nat} (h2 : x * 256 + y ≤ r.length) :
    readL (f + 1) (x :: y :: r) = (readL f (r.drop (x * 256 + y))).map (r.take (x * 256 + y) :: ·) := by
  simp only [readL, if_neg (show ¬ r.length < x * 256 + y by omega)]

set_option maxHeartbeats 2000000 in
set_option maxRecDepth 100000 in
theorem readList_any (L : List Nat) (hL : Byt L) (hlen : L.length ≤ 4096) (w : World) (v : Value) (hv : Rd w v L)
    (hnum : readL L.length L = none → ∀ w' u, Below w.heap.size w w' → FaultV w' w.heap.size u 80 → Calls Tryd.prog 33 #[u] w' fun e w'' => e = .returned (.int .i64 80) ∧ Below w'.heap.size w' w'') :
    Calls Tryd.prog 25 #[v] w fun e w' => ∃ v' n, e = .returned (.tuple #[v', .int .i64 n]) ∧ Below w.heap.size w w' ∧
      ((∃ l, readL L.length L = some l ∧ l.length ≤ 256 ∧ n = 0 ∧ OwnL w' w.heap.size v' l) ∨ (∃ l, readL L.length L = some l ∧ 256 < l.length ∧ n = 3 ∧ v' = .slice none 0 0) ∨
        (readL L.length L = none ∧ n = 80 ∧ v' = .slice none 0 0)) := by
  obtain ⟨⟨a, c, rfl⟩, hr⟩ := hv
  have HR := Lib.hid hr; have HN := Lib.hid hnum; have HL := Lib.hid hL; have Hlen := Lib.hid hlen
  have hd : decide ((4096 : Int) < (L.length : Int)) = false := by simp; omega
  clear hr hnum hL hlen
  go_enter Tryd.func25, Tryd.ntmps25
  go_wp2
  go_loopw [0, 4] (fun b l wr => ∃ (f : Nat) (r : List Nat) (D : List (List Nat)) (a : Option Addr) (c : Nat), r.length ≤ f ∧ Byt r ∧ b = .slice a r.length c ∧
      (r = [] ∨ Sl w w.heap.size (.slice a r.length c) r) ∧ readL L.length L = (readL f r).map (D ++ ·) ∧ OwnL wr w.heap.size l D ∧ Below w.heap.size w wr ∧ D.length + r.length ≤ 4096)
    (fun b _ _ => lenV b)
  case atStart => exact ⟨L.length, L, [], a, c, Nat.le_refl _, HL.out, rfl, HR.out, by cases readL L.length L <;> simp, OwnL.nil _ _, Below.refl _ _, by simpa using Hlen.out⟩
  case round =>
    obtain ⟨f, r, D, a, c, hf, hb, rfl, hsl, hE, hown, hbel, hDl⟩ := hrel
    have HE := Lib.hid hE; have HO := Lib.hid hown; have Hb := Lib.hid hbel; have HD := Lib.hid hDl; have HB := Lib.hid hb; have Hf := Lib.hid hf
    clear hE hown hbel hDl hb hf
    obtain ⟨al, cl, hform⟩ := HO.out.form
    subst hform
    match r, hsl with
    | [], _ =>
      have hd : decide ((0 : Int) < 0) = false := by simp
      have HE2 : Hid (readL L.length L = some D) := Lib.hid (by rw [HE.out]; cases f <;> simp [readL])
      simp only [List.length_nil]
      by_cases h256 : D.length ≤ 256
      · have hdd : decide ((256 : Int) < (D.length : Int)) = false := by simp; omega
        have H2 := Lib.hid h256
        clear h256
        go_wp2
        exact bodyPost_ret (results_tmp2 rfl _ _ _) rfl ⟨_, _, rfl, Hb.out, Or.inl ⟨D, HE2.out, H2.out, rfl, HO.out⟩⟩
      · have hdd : decide ((256 : Int) < (D.length : Int)) = true := by simp; omega
        have H2 : Hid (256 < D.length) := Lib.hid (by omega)
        clear h256
        go_wp2
        exact bodyPost_ret (results_tmp2 rfl _ _ _) rfl ⟨_, _, rfl, Hb.out, Or.inr (Or.inl ⟨D, HE2.out, H2.out, rfl, rfl⟩)⟩
    | g :: r1, hsl =>
      have hsl : Sl w w.heap.size (.slice a (g :: r1).length c) (g :: r1) := by
        rcases hsl with h | h
        · simp at h
        · exact h
      obtain ⟨q, hq⟩ : ∃ q, (g :: r1).length = q := ⟨_, rfl⟩
      rw [hq] at hsl ⊢
      have HSl : Hid (Sl wr w.heap.size (.slice a q c) (g :: r1)) := Lib.hid (hsl.below Hb.out (Nat.le_refl _))
      have hq0 : (0 : Int) < (q : Int) := by simp at hq; omega
      have hd0 : decide (0 < q) = true := by simp at hq ⊢; omega
      have hcut : ∀ at_, Calls Tryd.prog 34 #[.slice a q c, .int .i64 at_] wr _ := fun at_ =>
        cut_any (g :: r1) HB.out (by have := HD.out; omega) at_ wr w.heap.size Hb.out.size (.slice a q c) HSl.out
      clear hsl
      by_cases hgood : ∃ x y r', g :: r1 = x :: y :: r' ∧ x * 256 + y ≤ r'.length
      · obtain ⟨x, y, r', hxy, hm⟩ := hgood
        simp only [List.cons.injEq] at hxy
        obtain ⟨rfl, rfl⟩ := hxy
        have hcut2 : ∀ at_, Calls Tryd.prog 34 #[.slice a q c, .int .i64 at_] wr fun e w' => ∃ p q, e = .returned (.tuple #[p, q, .nilIface]) ∧ Below wr.heap.size wr w' ∧
            OwnB w' w.heap.size p (r'.take (g * 256 + y)) ∧ Sl w' w.heap.size q (r'.drop (g * 256 + y)) := by
          intro at_
          refine (hcut at_).mono ?_
          rintro e w' ⟨p, q, E, rfl, hb3, h3⟩
          rcases h3 with ⟨x2, y2, r2, h4, h5, rfl, h6, h7⟩ | ⟨h4, _⟩
          · simp only [List.cons.injEq] at h4
            obtain ⟨rfl, rfl, rfl⟩ := h4
            exact ⟨p, q, rfl, hb3, h6.le Hb.out.size, h7⟩
          · rcases h4 with h4 | ⟨x2, y2, r2, h4, h5⟩
            · simp only [List.length_cons] at h4; omega
            · simp only [List.cons.injEq] at h4
              obtain ⟨rfl, rfl, rfl⟩ := h4
              omega
        have HC := Lib.hid hcut2; have HM := Lib.hid hm
        clear hcut hcut2 hm
        generalize hM : r'.take (g * 256 + y) = M at *
        generalize hT : r'.drop (g * 256 + y) = T at *
        go_wp2_with (first
          | (go_at_call 34; refine (HC.out _).mono ?_; rintro e w3 ⟨p3, q3, rfl, hb3, ho3, hq3⟩
             obtain ⟨a3, n3, c3, rfl⟩ := ho3.formA
             have HO3 := Lib.hid (HO.out.below hb3); have HP3 := Lib.hid ho3; have HB3 := Lib.hid (bcall Hb.out hb3 Hb.out.size)
             have HQ := Lib.hid (hq3.back HB3.out)
             clear hb3 ho3 hq3)
          | (refine appL rfl _ _ rfl w.heap.size _ (.slice a3 n3 c3) D M _ 1 rfl rfl (HO3.out.alloc _) (Has.newAt _ 23 rfl) (HP3.out.alloc _) ?_ ?_ ?_
             · have := HD.out; omega
             · have := HB3.out.size; simp; omega
             intro v5 w5 ho5 hg5
             have hb5 : Below w.heap.size w w5 := Below.grown (HB3.out.alloc HB3.out.size _) hg5 (by have := HB3.out.size; simp; omega) (fun k hk => (HO3.out.lt k hk).1)
             have HO5 := Lib.hid ho5; have HB5 := Lib.hid hb5
             clear ho5 hg5 hb5))
        have hlr : (g :: y :: r').length = r'.length + 2 := rfl
        have HSq := Lib.hid HQ.out
        obtain ⟨b5, off5, c5, rfl, hc5, hb5, hs5⟩ := HQ.out
        have hTl : T.length + (g * 256 + y) = r'.length := by rw [← hT, List.length_drop]; have := HM.out; omega
        match f, Hf.out, HE.out with
        | 0, hf0, _ => simp at hf0
        | f + 1, hf0, hE0 =>
          rw [readL_next HM.out, hT, hM] at hE0
          refine ⟨⟨f, T, D ++ [M], _, c5, ?_, ?_, rfl, Or.inr HSq.out, ?_, HO5.out, HB5.out, ?_⟩, ?_⟩
          · rw [hlr] at hf0; omega
          · intro z hz
            rw [← hT] at hz
            exact HB.out z (by have := List.mem_of_mem_drop hz; simp [this])
          · rw [hE0, Option.map_map]
            congr 1
            funext z
            simp
          · have := HD.out
            rw [hlr] at this
            rw [List.length_append]
            simp only [List.length_cons, List.length_nil]
            omega
          · simp only [lenV]
            rw [hlr] at hq
            omega
      · have hcut2 : ∀ at_, Calls Tryd.prog 34 #[.slice a q c, .int .i64 at_] wr fun e w' => ∃ p q g1, e = .returned (.tuple #[p, q, .iface 63 (.pointer (some ⟨g1, 0, none⟩))]) ∧ Below w.heap.size w w' ∧ FaultV w' w.heap.size (.iface 63 (.pointer (some ⟨g1, 0, none⟩))) 80 := by
          intro at_
          refine (hcut at_).mono ?_
          rintro e w' ⟨p, q, E, rfl, hb3, h3⟩
          rcases h3 with ⟨x, y, r', h4, h5, _⟩ | ⟨_, g1, a1, h4, h5, h6⟩
          · exact absurd ⟨x, y, r', h4, h5⟩ hgood
          · subst h4
            exact ⟨p, q, g1, rfl, bcall Hb.out hb3 Hb.out.size, ⟨g1, a1, rfl, Nat.le_trans Hb.out.size h5, h6⟩⟩
        have hnone : readL L.length L = none := by
          rw [HE.out]
          match r1 with
          | [] => rw [readL_short (by simp) (by simp)]; rfl
          | y :: r' =>
            rw [readL_over (by
              apply Nat.lt_of_not_le
              intro h
              exact hgood ⟨g, y, r', rfl, h⟩)]; rfl
        have HC := Lib.hid hcut2; have HX := Lib.hid hnone
        clear hcut hcut2 hgood hnone
        go_wp2_with (first
          | (go_at_call 34; refine (HC.out _).mono ?_; rintro e w3 ⟨p3, q3, g3, rfl, hb3, hf3⟩; have HB3 := Lib.hid hb3; have HF3 := Lib.hid hf3; clear hb3 hf3)
          | (go_at_call 33; refine (HN.out HX.out _ _ HB3.out HF3.out).mono ?_; rintro e w4 ⟨rfl, hb4⟩; have HB4 := Lib.hid (bcall HB3.out hb4 HB3.out.size); clear hb4))
        exact bodyPost_ret (results_tmp2 rfl _ _ _) rfl ⟨_, _, rfl, HB4.out, Or.inr (Or.inr ⟨HX.out, rfl, rfl⟩)⟩
end Go.Proofs.YtbmhmaejakjieaaDoor
