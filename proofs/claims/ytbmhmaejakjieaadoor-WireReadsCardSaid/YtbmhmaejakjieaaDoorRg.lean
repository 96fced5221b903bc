/- The walk of WireReads. -/
import Derived.Test.YtbmhmaejakjieaaDoorRf
import Derived.Test.YtbmhmaejakjieaaDoorKb
namespace Go.Proofs.YtbmhmaejakjieaaDoor
open Go.RowKit

theorem Has.in8 {w : World} {g T : Nat} {L : List Nat} (h : Has w g T (u8s L)) (hl : L.length = 8) : In w (.slice (some ⟨g, 0, none⟩) 8 8) L :=
  ⟨_, 8, by rw [hl], ⟨by omega, fun h => by cases h⟩, Or.inr ⟨g, 0, rfl, h.segB⟩⟩

set_option maxHeartbeats 4000000 in
set_option maxRecDepth 100000 in
theorem reads_walk (L B : List Nat) (q : Nat) (n n1 n2 n3 p : Int) (Y1 : List Fld) (Y3 : List (List Nat)) (v : Value) (w : World) (HH : Hid (Hnd w)) (HV : Hid (In w v L)) (HBb : Hid (Byt B)) (Hq : Hid (B.length = q)) (Hq2 : Hid (q ≤ 100000))
    (HSh : Hid (∀ (w' : World) (u : Value), In w' u L → Calls Tryd.prog 11 #[u] w' fun e w'' => ∃ a c, e = .returned (.slice a q c) ∧ w' = w'' ∧ In w' (.slice a q c) B))
    (H13 : Hid (∀ (w' : World) (u : Value), Hnd w' → In w' u B → Calls Tryd.prog 13 #[u] w' fun e w'' => ∃ v', e = .returned (.tuple #[v', .int .i64 n1]) ∧ Below w'.heap.size w' w'' ∧ OwnF w'' w'.heap.size v' Y1))
    (H28 : Hid (∀ (w' : World) (u : Value), In w' u B → Calls Tryd.prog 28 #[u] w' fun e w'' => ∃ v', e = .returned (.tuple #[v', .int .i64 n1]) ∧ Below w'.heap.size w' w'' ∧ OwnF w'' w'.heap.size v' Y1))
    (H20 : Hid (∀ (w' : World) (u : Value), In w' u B → Calls Tryd.prog 20 #[u] w' fun e w'' => e = .returned (.tuple #[.int .i64 p, .int .i64 n2]) ∧ w' = w''))
    (H29 : Hid (∀ (w' : World) (u : Value), In w' u B → Calls Tryd.prog 29 #[u] w' fun e w'' => e = .returned (.tuple #[.int .i64 p, .int .i64 n2]) ∧ w' = w''))
    (H25 : Hid (∀ (w' : World) (u : Value), Hnd w' → In w' u B → Calls Tryd.prog 25 #[u] w' fun e w'' => ∃ v', e = .returned (.tuple #[v', .int .i64 n3]) ∧ Below w'.heap.size w' w'' ∧ OwnL w'' w'.heap.size v' Y3))
    (H30 : Hid (∀ (w' : World) (u : Value), In w' u B → Calls Tryd.prog 30 #[u] w' fun e w'' => ∃ v', e = .returned (.tuple #[v', .int .i64 n3]) ∧ Below w'.heap.size w' w'' ∧ OwnL w'' w'.heap.size v' Y3))
    (HSF : Hid (∀ (u1 u2 : Value) (w' : World), FIn w' u1 Y1 → FIn w' u2 Y1 → Calls Tryd.prog 14 #[u1, u2] w' fun e w'' => e = .returned (.bool true) ∧ Below w'.heap.size w' w''))
    (HSL : Hid (∀ (u1 u2 : Value) (w' : World), LV w' u1 Y3 → LV w' u2 Y3 → Calls Tryd.prog 26 #[u1, u2] w' fun e w'' => e = .returned (.bool true) ∧ Below w'.heap.size w' w'')) :
    Calls Tryd.prog 8 #[v, .int .i64 n] w fun e w' => e = .returned (.bool true) ∧ Below w.heap.size w w' := by
  have Hby := Lib.hid (fun (w' : World) (u : Value) (h : In w' u B) => bytes_any u B (by rw [Hq.out]; exact Hq2.out) w' h)
  have H21 := Lib.hid (int_bytes n); have H31 := Lib.hid (rint_bytes n)
  have h8 := be8_byt (uI n); have h8l := be8_len (uI n)
  generalize be8 (uI n) = Z at *
  have HZ := Lib.hid h8; have HZl := Lib.hid h8l
  clear h8 h8l
  go_enter Tryd.func8, Tryd.ntmps8
  go_wp2_with (first
    | (go_at_call 11; refine (HSh.out _ _ HV.out).mono ?_; rintro e w1 ⟨a1, c1, rfl, rfl, h1⟩; have HI := Lib.hid h1; clear h1)
    | (go_at_call 27; refine (Hby.out _ _ HI.out).mono ?_; rintro e w2 ⟨v2, rfl, hb2, ho2⟩; have HB2 := Lib.hid hb2; have HI2 := Lib.hid (HI.out.below hb2); have HO2 := Lib.hid ho2; clear hb2 ho2)
    | (go_at_call 13; refine (H13.out _ _ (HH.out.below HB2.out HH.out.lt) HO2.out.in).mono ?_; rintro e w3 ⟨v3, rfl, hb3, ho3⟩; have HB3 := Lib.hid (bcall HB2.out hb3 HB2.out.size); have HI3 := Lib.hid (HI2.out.below hb3); have HO3 := Lib.hid (HO2.out.below hb3); have HF3 := Lib.hid ho3; clear hb3 ho3)
    | (go_at_call 28; refine (H28.out _ _ HI3.out).mono ?_; rintro e w4 ⟨v4, rfl, hb4, ho4⟩; have HB4 := Lib.hid (bcall HB3.out hb4 HB3.out.size); have HI4 := Lib.hid (HI3.out.below hb4); have HO4 := Lib.hid (HO3.out.below hb4); have HF4 := Lib.hid (HF3.out.below hb4); have HG4 := Lib.hid ho4; clear hb4 ho4)
    | (go_at_call 20; refine (H20.out _ _ HO4.out.in).mono ?_; rintro e w5 ⟨rfl, rfl⟩)
    | (go_at_call 29; refine (H29.out _ _ HI4.out).mono ?_; rintro e w5 ⟨rfl, rfl⟩)
    | (go_at_call 25; refine (H25.out _ _ (HH.out.below HB4.out HH.out.lt) HO4.out.in).mono ?_; rintro e w6 ⟨v6, rfl, hb6, ho6⟩; have HB6 := Lib.hid (bcall HB4.out hb6 HB4.out.size); have HI6 := Lib.hid (HI4.out.below hb6); have HO6 := Lib.hid (HO4.out.below hb6); have HF6 := Lib.hid (HF4.out.below hb6); have HG6 := Lib.hid (HG4.out.below hb6); have HL6 := Lib.hid ho6; clear hb6 ho6)
    | (go_at_call 30; refine (H30.out _ _ HI6.out).mono ?_; rintro e w7 ⟨v7, rfl, hb7, ho7⟩; have HB7 := Lib.hid (bcall HB6.out hb7 HB6.out.size); have HI7 := Lib.hid (HI6.out.below hb7); have HO7 := Lib.hid (HO6.out.below hb7); have HF7 := Lib.hid (HF6.out.below hb7); have HG7 := Lib.hid (HG6.out.below hb7); have HL7 := Lib.hid (HL6.out.below hb7); have HM7 := Lib.hid ho7; clear hb7 ho7)
    | (go_at_call 14; refine (HSF.out _ _ _ HF7.out.fin HG7.out.fin).mono ?_; rintro e w8 ⟨rfl, hb8⟩; have HB8 := Lib.hid (bcall HB7.out hb8 HB7.out.size); have HI8 := Lib.hid (HI7.out.below hb8); have HO8 := Lib.hid (HO7.out.below hb8); have HL8 := Lib.hid (HL7.out.below hb8); have HM8 := Lib.hid (HM7.out.below hb8); clear hb8)
    | (go_at_call 26; refine (HSL.out _ _ _ HL8.out.lv HM8.out.lv).mono ?_; rintro e w9 ⟨rfl, hb9⟩; have HB9 := Lib.hid (bcall HB8.out hb9 HB8.out.size); have HI9 := Lib.hid (HI8.out.below hb9); have HO9 := Lib.hid (HO8.out.below hb9); clear hb9)
    | (go_at_call 15; refine (same_in _ _ B _ HO9.out.in HI9.out HBb.out).mono ?_; rintro e w10 ⟨rfl, rfl⟩; clear HBb)
    | (go_at_call 21; refine (H21.out _).mono ?_; rintro e w11 ⟨rfl, hb11, hh11⟩; have HB11 := Lib.hid (bcall HB9.out hb11 HB9.out.size); have HX11 := Lib.hid hh11; clear hb11 hh11)
    | (go_at_call 31; refine (H31.out _).mono ?_; rintro e w12 ⟨rfl, hb12, hh12⟩; have HB12 := Lib.hid (bcall HB11.out hb12 HB11.out.size); have HX12 := Lib.hid (HX11.out.below hb12 HX11.out.lt); have HY12 := Lib.hid hh12; clear hb12 hh12)
    | (go_at_call 15; refine (same_in _ _ Z _ (HX12.out.in8 HZl.out) (HY12.out.in8 HZl.out) HZ.out).mono ?_; rintro e w13 ⟨rfl, rfl⟩; clear HZ)
    | (go_at_call 9; refine (works_any _).mono ?_; rintro e w14 ⟨rfl, hb14⟩; have HB14 := Lib.hid (bcall HB12.out hb14 HB12.out.size); clear hb14))
  exact bodyPost_ret (results_tmp rfl _ _ _) rfl ⟨rfl, HB14.out⟩
end Go.Proofs.YtbmhmaejakjieaaDoor
