/- The walk of WireBack. Written by tools/back8.py. -/
import Derived.Test.YtbmhmaejakjieaaDoorKb
namespace Go.Proofs.YtbmhmaejakjieaaDoor
open Go.RowKit

set_option maxHeartbeats 2000000 in
set_option maxRecDepth 100000 in
theorem back_Aa (l P : List Fld) (L Bs X : List Nat) (K q : Nat) (v vb : Value) (w : World) (HV : Hid (FIn w v l)) (HI : Hid (In w vb L))
    (HA : Hid (∀ (w' : World), FIn w' v l → Calls Tryd.prog 10 #[v] w' fun e w'' => ∃ v', e = .returned v' ∧ Below w'.heap.size w' w'' ∧ OwnF w'' w'.heap.size v' P))
    (HSh : Hid (∀ (w' : World) (u : Value), In w' u L → Calls Tryd.prog 11 #[u] w' fun e w'' => ∃ a c, e = .returned (.slice a q c) ∧ w' = w'' ∧ In w' (.slice a q c) Bs))
    (HPut : Hid (∀ (w' : World) (u : Value), FV w' u P → Calls Tryd.prog 12 #[u] w' fun e w'' => ∃ v', e = .returned (.tuple #[v', .int .i64 0]) ∧ Below w'.heap.size w' w'' ∧ OwnB w'' w'.heap.size v' X))
    (HRd : Hid (∀ (w' : World) (u : Value), Rd w' u X → Calls Tryd.prog 13 #[u] w' fun e w'' => ∃ a c, e = .returned (.tuple #[.slice a K c, .int .i64 0]) ∧ Below w'.heap.size w' w'' ∧ OwnF w'' w'.heap.size (.slice a K c) P))
    (HSame : Hid (∀ (u1 u2 : Value) (w' : World), FIn w' u1 P → FIn w' u2 P → Calls Tryd.prog 14 #[u1, u2] w' fun e w'' => e = .returned (.bool true) ∧ Below w'.heap.size w' w''))
    (HLong : Hid (∀ (a : Option Addr) (c : Nat) (w' : World), Calls Tryd.prog 13 #[.slice a q c] w' fun e w'' => e = .returned (.tuple #[.slice none 0 0, .int .i64 3]) ∧ w' = w'')) :
    Calls Tryd.prog 3 #[v, vb] w fun e w' => e = .returned (.bool true) ∧ Below w.heap.size w w' := by
  go_enter Tryd.func3, Tryd.ntmps3
  go_wp2_with (first
    | (go_at_call 9; refine (works_any _).mono ?_; rintro e w1 ⟨rfl, hb1⟩; have HB1 := Lib.hid hb1; have HV1 := Lib.hid (HV.out.below hb1); have HI1 := Lib.hid (HI.out.below hb1); clear hb1)
    | (go_at_call 10; refine (HA.out _ HV1.out).mono ?_; rintro e w2 ⟨v2, rfl, hb2, ho2⟩; have HB2 := Lib.hid (bcall HB1.out hb2 HB1.out.size); have HO2 := Lib.hid ho2; have HI2 := Lib.hid (HI1.out.below hb2); clear hb2 ho2)
    | (go_at_call 11; refine (HSh.out _ _ HI2.out).mono ?_; rintro e w3 ⟨a3, c3, rfl, rfl, h3⟩; have HI3 := Lib.hid h3; clear h3)
    | (go_at_call 12; refine (HPut.out _ _ HO2.out.fv).mono ?_; rintro e w4 ⟨v4, rfl, hb4, ho4⟩; have HB4 := Lib.hid (bcall HB2.out hb4 HB2.out.size); have HO4 := Lib.hid ho4; have HI4 := Lib.hid (HI3.out.below hb4); have HO5 := Lib.hid (HO2.out.below hb4); clear hb4 ho4 HPut HI3 HO2)
    | (go_at_call 13; refine (HRd.out _ _ HO4.out.rd).mono ?_; rintro e w5 ⟨a5, c5, rfl, hb5, ho5⟩; have HB5 := Lib.hid (bcall HB4.out hb5 HB4.out.size); have HO6 := Lib.hid ho5; have HI5 := Lib.hid (HI4.out.below hb5); have HO7 := Lib.hid (HO5.out.below hb5); clear hb5 ho5 HRd HI4 HO5 HO4)
    | (go_at_call 14; refine (HSame.out _ _ _ HO6.out.fin HO7.out.fin).mono ?_; rintro e w6 ⟨rfl, hb6⟩; have HB6 := Lib.hid (bcall HB5.out hb6 HB5.out.size); have HI6 := Lib.hid (HI5.out.below hb6); clear hb6 HI5)
    | (go_at_call 13; refine (HLong.out _ _ _).mono ?_; rintro e w7 ⟨rfl, rfl⟩))
  exact bodyPost_ret (results_tmp rfl _ _ _) rfl ⟨rfl, HB6.out⟩

set_option maxHeartbeats 2000000 in
set_option maxRecDepth 100000 in
theorem back_Ab (l P : List Fld) (L Bs X : List Nat) (K q : Nat) (v vb : Value) (w : World) (HV : Hid (FIn w v l)) (HI : Hid (In w vb L))
    (HA : Hid (∀ (w' : World), FIn w' v l → Calls Tryd.prog 10 #[v] w' fun e w'' => ∃ v', e = .returned v' ∧ Below w'.heap.size w' w'' ∧ OwnF w'' w'.heap.size v' P))
    (HSh : Hid (∀ (w' : World) (u : Value), In w' u L → Calls Tryd.prog 11 #[u] w' fun e w'' => ∃ a c, e = .returned (.slice a q c) ∧ w' = w'' ∧ In w' (.slice a q c) Bs))
    (HPut : Hid (∀ (w' : World) (u : Value), FV w' u P → Calls Tryd.prog 12 #[u] w' fun e w'' => ∃ v', e = .returned (.tuple #[v', .int .i64 0]) ∧ Below w'.heap.size w' w'' ∧ OwnB w'' w'.heap.size v' X))
    (HRd : Hid (∀ (w' : World) (u : Value), Rd w' u X → Calls Tryd.prog 13 #[u] w' fun e w'' => ∃ a c, e = .returned (.tuple #[.slice a K c, .int .i64 0]) ∧ Below w'.heap.size w' w'' ∧ OwnF w'' w'.heap.size (.slice a K c) P))
    (HSame : Hid (∀ (u1 u2 : Value) (w' : World), FIn w' u1 P → FIn w' u2 P → Calls Tryd.prog 14 #[u1, u2] w' fun e w'' => e = .returned (.bool true) ∧ Below w'.heap.size w' w''))
    (HH : Hid (Hnd w))
    (HNone : Hid (∀ (w' : World), Hnd w' → ∀ (u : Value), Rd w' u Bs → Calls Tryd.prog 13 #[u] w' fun e w'' => e = .returned (.tuple #[.slice none 0 0, .int .i64 80]) ∧ Below w'.heap.size w' w'')) :
    Calls Tryd.prog 3 #[v, vb] w fun e w' => e = .returned (.bool true) ∧ Below w.heap.size w w' := by
  go_enter Tryd.func3, Tryd.ntmps3
  go_wp2_with (first
    | (go_at_call 9; refine (works_any _).mono ?_; rintro e w1 ⟨rfl, hb1⟩; have HB1 := Lib.hid hb1; have HV1 := Lib.hid (HV.out.below hb1); have HI1 := Lib.hid (HI.out.below hb1); clear hb1)
    | (go_at_call 10; refine (HA.out _ HV1.out).mono ?_; rintro e w2 ⟨v2, rfl, hb2, ho2⟩; have HB2 := Lib.hid (bcall HB1.out hb2 HB1.out.size); have HO2 := Lib.hid ho2; have HI2 := Lib.hid (HI1.out.below hb2); clear hb2 ho2)
    | (go_at_call 11; refine (HSh.out _ _ HI2.out).mono ?_; rintro e w3 ⟨a3, c3, rfl, rfl, h3⟩; have HI3 := Lib.hid h3; clear h3)
    | (go_at_call 12; refine (HPut.out _ _ HO2.out.fv).mono ?_; rintro e w4 ⟨v4, rfl, hb4, ho4⟩; have HB4 := Lib.hid (bcall HB2.out hb4 HB2.out.size); have HO4 := Lib.hid ho4; have HI4 := Lib.hid (HI3.out.below hb4); have HO5 := Lib.hid (HO2.out.below hb4); clear hb4 ho4 HPut HI3 HO2)
    | (go_at_call 13; refine (HRd.out _ _ HO4.out.rd).mono ?_; rintro e w5 ⟨a5, c5, rfl, hb5, ho5⟩; have HB5 := Lib.hid (bcall HB4.out hb5 HB4.out.size); have HO6 := Lib.hid ho5; have HI5 := Lib.hid (HI4.out.below hb5); have HO7 := Lib.hid (HO5.out.below hb5); clear hb5 ho5 HRd HI4 HO5 HO4)
    | (go_at_call 14; refine (HSame.out _ _ _ HO6.out.fin HO7.out.fin).mono ?_; rintro e w6 ⟨rfl, hb6⟩; have HB6 := Lib.hid (bcall HB5.out hb6 HB5.out.size); have HI6 := Lib.hid (HI5.out.below hb6); clear hb6 HI5)
    | (go_at_call 13; refine (HNone.out _ (HH.out.below HB6.out HH.out.lt) _ HI6.out.rd).mono ?_; rintro e w7 ⟨rfl, hb7⟩; have HB7 := Lib.hid (bcall HB6.out hb7 HB6.out.size); clear hb7))
  exact bodyPost_ret (results_tmp rfl _ _ _) rfl ⟨rfl, HB7.out⟩

set_option maxHeartbeats 2000000 in
set_option maxRecDepth 100000 in
theorem back_Ac (l P : List Fld) (L Bs X : List Nat) (K q : Nat) (v vb : Value) (w : World) (HV : Hid (FIn w v l)) (HI : Hid (In w vb L))
    (HA : Hid (∀ (w' : World), FIn w' v l → Calls Tryd.prog 10 #[v] w' fun e w'' => ∃ v', e = .returned v' ∧ Below w'.heap.size w' w'' ∧ OwnF w'' w'.heap.size v' P))
    (HSh : Hid (∀ (w' : World) (u : Value), In w' u L → Calls Tryd.prog 11 #[u] w' fun e w'' => ∃ a c, e = .returned (.slice a q c) ∧ w' = w'' ∧ In w' (.slice a q c) Bs))
    (HPut : Hid (∀ (w' : World) (u : Value), FV w' u P → Calls Tryd.prog 12 #[u] w' fun e w'' => ∃ v', e = .returned (.tuple #[v', .int .i64 0]) ∧ Below w'.heap.size w' w'' ∧ OwnB w'' w'.heap.size v' X))
    (HRd : Hid (∀ (w' : World) (u : Value), Rd w' u X → Calls Tryd.prog 13 #[u] w' fun e w'' => ∃ a c, e = .returned (.tuple #[.slice a K c, .int .i64 0]) ∧ Below w'.heap.size w' w'' ∧ OwnF w'' w'.heap.size (.slice a K c) P))
    (HSame : Hid (∀ (u1 u2 : Value) (w' : World), FIn w' u1 P → FIn w' u2 P → Calls Tryd.prog 14 #[u1, u2] w' fun e w'' => e = .returned (.bool true) ∧ Below w'.heap.size w' w''))
    (Y : List Fld) (ky : Nat)
    (HSome : Hid (∀ (w' : World) (u : Value), Rd w' u Bs → Calls Tryd.prog 13 #[u] w' fun e w'' => ∃ a c, e = .returned (.tuple #[.slice a ky c, .int .i64 0]) ∧ Below w'.heap.size w' w'' ∧ OwnF w'' w'.heap.size (.slice a ky c) Y))
    (HPut2 : Hid (∀ (w' : World) (u : Value), FV w' u Y → Calls Tryd.prog 12 #[u] w' fun e w'' => ∃ v', e = .returned (.tuple #[v', .int .i64 0]) ∧ Below w'.heap.size w' w'' ∧ OwnB w'' w'.heap.size v' Bs))
    (HSm : Hid (∀ (u1 u2 : Value) (w' : World), In w' u1 Bs → In w' u2 Bs → Calls Tryd.prog 15 #[u1, u2] w' fun e w'' => e = .returned (.bool true) ∧ w' = w'')) :
    Calls Tryd.prog 3 #[v, vb] w fun e w' => e = .returned (.bool true) ∧ Below w.heap.size w w' := by
  go_enter Tryd.func3, Tryd.ntmps3
  go_wp2_with (first
    | (go_at_call 9; refine (works_any _).mono ?_; rintro e w1 ⟨rfl, hb1⟩; have HB1 := Lib.hid hb1; have HV1 := Lib.hid (HV.out.below hb1); have HI1 := Lib.hid (HI.out.below hb1); clear hb1)
    | (go_at_call 10; refine (HA.out _ HV1.out).mono ?_; rintro e w2 ⟨v2, rfl, hb2, ho2⟩; have HB2 := Lib.hid (bcall HB1.out hb2 HB1.out.size); have HO2 := Lib.hid ho2; have HI2 := Lib.hid (HI1.out.below hb2); clear hb2 ho2)
    | (go_at_call 11; refine (HSh.out _ _ HI2.out).mono ?_; rintro e w3 ⟨a3, c3, rfl, rfl, h3⟩; have HI3 := Lib.hid h3; clear h3)
    | (go_at_call 12; refine (HPut.out _ _ HO2.out.fv).mono ?_; rintro e w4 ⟨v4, rfl, hb4, ho4⟩; have HB4 := Lib.hid (bcall HB2.out hb4 HB2.out.size); have HO4 := Lib.hid ho4; have HI4 := Lib.hid (HI3.out.below hb4); have HO5 := Lib.hid (HO2.out.below hb4); clear hb4 ho4 HPut HI3 HO2)
    | (go_at_call 13; refine (HRd.out _ _ HO4.out.rd).mono ?_; rintro e w5 ⟨a5, c5, rfl, hb5, ho5⟩; have HB5 := Lib.hid (bcall HB4.out hb5 HB4.out.size); have HO6 := Lib.hid ho5; have HI5 := Lib.hid (HI4.out.below hb5); have HO7 := Lib.hid (HO5.out.below hb5); clear hb5 ho5 HRd HI4 HO5 HO4)
    | (go_at_call 14; refine (HSame.out _ _ _ HO6.out.fin HO7.out.fin).mono ?_; rintro e w6 ⟨rfl, hb6⟩; have HB6 := Lib.hid (bcall HB5.out hb6 HB5.out.size); have HI6 := Lib.hid (HI5.out.below hb6); clear hb6 HI5)
    | (go_at_call 13; refine (HSome.out _ _ HI6.out.rd).mono ?_; rintro e w7 ⟨a7, c7, rfl, hb7, ho7⟩; have HB7 := Lib.hid (bcall HB6.out hb7 HB6.out.size); have HO8 := Lib.hid ho7; have HI7 := Lib.hid (HI6.out.below hb7); clear hb7 ho7)
    | (go_at_call 12; refine (HPut2.out _ _ HO8.out.fv).mono ?_; rintro e w8 ⟨v8, rfl, hb8, ho8⟩; have HB8 := Lib.hid (bcall HB7.out hb8 HB7.out.size); have HO9 := Lib.hid ho8; have HI8 := Lib.hid (HI7.out.below hb8); clear hb8 ho8)
    | (go_at_call 15; refine (HSm.out _ _ _ HO9.out.in HI8.out).mono ?_; rintro e w9 ⟨rfl, rfl⟩))
  exact bodyPost_ret (results_tmp rfl _ _ _) rfl ⟨rfl, HB8.out⟩

set_option maxHeartbeats 2000000 in
set_option maxRecDepth 100000 in
theorem back_Ba (l P : List Fld) (L Bs : List Nat) (q : Nat) (v vb : Value) (w : World) (HV : Hid (FIn w v l)) (HI : Hid (In w vb L))
    (HA : Hid (∀ (w' : World), FIn w' v l → Calls Tryd.prog 10 #[v] w' fun e w'' => ∃ v', e = .returned v' ∧ Below w'.heap.size w' w'' ∧ OwnF w'' w'.heap.size v' P))
    (HSh : Hid (∀ (w' : World) (u : Value), In w' u L → Calls Tryd.prog 11 #[u] w' fun e w'' => ∃ a c, e = .returned (.slice a q c) ∧ w' = w'' ∧ In w' (.slice a q c) Bs))
    (n : Int) (hn : n ≠ 0) (HH : Hid (Hnd w)) (HBad : Hid (∀ (w' : World) (u : Value), Hnd w' → FV w' u P → Calls Tryd.prog 12 #[u] w' fun e w'' => e = .returned (.tuple #[.slice none 0 0, .int .i64 n]) ∧ Below w'.heap.size w' w''))
    (HLong : Hid (∀ (a : Option Addr) (c : Nat) (w' : World), Calls Tryd.prog 13 #[.slice a q c] w' fun e w'' => e = .returned (.tuple #[.slice none 0 0, .int .i64 3]) ∧ w' = w'')) :
    Calls Tryd.prog 3 #[v, vb] w fun e w' => e = .returned (.bool true) ∧ Below w.heap.size w w' := by
  go_enter Tryd.func3, Tryd.ntmps3
  go_wp2_with (first
    | (go_at_call 9; refine (works_any _).mono ?_; rintro e w1 ⟨rfl, hb1⟩; have HB1 := Lib.hid hb1; have HV1 := Lib.hid (HV.out.below hb1); have HI1 := Lib.hid (HI.out.below hb1); clear hb1)
    | (go_at_call 10; refine (HA.out _ HV1.out).mono ?_; rintro e w2 ⟨v2, rfl, hb2, ho2⟩; have HB2 := Lib.hid (bcall HB1.out hb2 HB1.out.size); have HO2 := Lib.hid ho2; have HI2 := Lib.hid (HI1.out.below hb2); clear hb2 ho2)
    | (go_at_call 11; refine (HSh.out _ _ HI2.out).mono ?_; rintro e w3 ⟨a3, c3, rfl, rfl, h3⟩; have HI3 := Lib.hid h3; clear h3)
    | (go_at_call 12; refine (HBad.out _ _ (HH.out.below HB2.out HH.out.lt) HO2.out.fv).mono ?_; rintro e w6 ⟨rfl, hb6⟩; have HB6 := Lib.hid (bcall HB2.out hb6 HB2.out.size); have HI6 := Lib.hid (HI3.out.below hb6); clear hb6 HBad HI3)
    | (go_at_call 13; refine (HLong.out _ _ _).mono ?_; rintro e w7 ⟨rfl, rfl⟩))
  exact bodyPost_ret (results_tmp rfl _ _ _) rfl ⟨rfl, HB6.out⟩

set_option maxHeartbeats 2000000 in
set_option maxRecDepth 100000 in
theorem back_Bb (l P : List Fld) (L Bs : List Nat) (q : Nat) (v vb : Value) (w : World) (HV : Hid (FIn w v l)) (HI : Hid (In w vb L))
    (HA : Hid (∀ (w' : World), FIn w' v l → Calls Tryd.prog 10 #[v] w' fun e w'' => ∃ v', e = .returned v' ∧ Below w'.heap.size w' w'' ∧ OwnF w'' w'.heap.size v' P))
    (HSh : Hid (∀ (w' : World) (u : Value), In w' u L → Calls Tryd.prog 11 #[u] w' fun e w'' => ∃ a c, e = .returned (.slice a q c) ∧ w' = w'' ∧ In w' (.slice a q c) Bs))
    (n : Int) (hn : n ≠ 0) (HH : Hid (Hnd w)) (HBad : Hid (∀ (w' : World) (u : Value), Hnd w' → FV w' u P → Calls Tryd.prog 12 #[u] w' fun e w'' => e = .returned (.tuple #[.slice none 0 0, .int .i64 n]) ∧ Below w'.heap.size w' w''))
    (HNone : Hid (∀ (w' : World), Hnd w' → ∀ (u : Value), Rd w' u Bs → Calls Tryd.prog 13 #[u] w' fun e w'' => e = .returned (.tuple #[.slice none 0 0, .int .i64 80]) ∧ Below w'.heap.size w' w'')) :
    Calls Tryd.prog 3 #[v, vb] w fun e w' => e = .returned (.bool true) ∧ Below w.heap.size w w' := by
  go_enter Tryd.func3, Tryd.ntmps3
  go_wp2_with (first
    | (go_at_call 9; refine (works_any _).mono ?_; rintro e w1 ⟨rfl, hb1⟩; have HB1 := Lib.hid hb1; have HV1 := Lib.hid (HV.out.below hb1); have HI1 := Lib.hid (HI.out.below hb1); clear hb1)
    | (go_at_call 10; refine (HA.out _ HV1.out).mono ?_; rintro e w2 ⟨v2, rfl, hb2, ho2⟩; have HB2 := Lib.hid (bcall HB1.out hb2 HB1.out.size); have HO2 := Lib.hid ho2; have HI2 := Lib.hid (HI1.out.below hb2); clear hb2 ho2)
    | (go_at_call 11; refine (HSh.out _ _ HI2.out).mono ?_; rintro e w3 ⟨a3, c3, rfl, rfl, h3⟩; have HI3 := Lib.hid h3; clear h3)
    | (go_at_call 12; refine (HBad.out _ _ (HH.out.below HB2.out HH.out.lt) HO2.out.fv).mono ?_; rintro e w6 ⟨rfl, hb6⟩; have HB6 := Lib.hid (bcall HB2.out hb6 HB2.out.size); have HI6 := Lib.hid (HI3.out.below hb6); clear hb6 HBad HI3)
    | (go_at_call 13; refine (HNone.out _ (HH.out.below HB6.out HH.out.lt) _ HI6.out.rd).mono ?_; rintro e w7 ⟨rfl, hb7⟩; have HB7 := Lib.hid (bcall HB6.out hb7 HB6.out.size); clear hb7))
  exact bodyPost_ret (results_tmp rfl _ _ _) rfl ⟨rfl, HB7.out⟩

set_option maxHeartbeats 2000000 in
set_option maxRecDepth 100000 in
theorem back_Bc (l P : List Fld) (L Bs : List Nat) (q : Nat) (v vb : Value) (w : World) (HV : Hid (FIn w v l)) (HI : Hid (In w vb L))
    (HA : Hid (∀ (w' : World), FIn w' v l → Calls Tryd.prog 10 #[v] w' fun e w'' => ∃ v', e = .returned v' ∧ Below w'.heap.size w' w'' ∧ OwnF w'' w'.heap.size v' P))
    (HSh : Hid (∀ (w' : World) (u : Value), In w' u L → Calls Tryd.prog 11 #[u] w' fun e w'' => ∃ a c, e = .returned (.slice a q c) ∧ w' = w'' ∧ In w' (.slice a q c) Bs))
    (n : Int) (hn : n ≠ 0) (HH : Hid (Hnd w)) (HBad : Hid (∀ (w' : World) (u : Value), Hnd w' → FV w' u P → Calls Tryd.prog 12 #[u] w' fun e w'' => e = .returned (.tuple #[.slice none 0 0, .int .i64 n]) ∧ Below w'.heap.size w' w''))
    (Y : List Fld) (ky : Nat)
    (HSome : Hid (∀ (w' : World) (u : Value), Rd w' u Bs → Calls Tryd.prog 13 #[u] w' fun e w'' => ∃ a c, e = .returned (.tuple #[.slice a ky c, .int .i64 0]) ∧ Below w'.heap.size w' w'' ∧ OwnF w'' w'.heap.size (.slice a ky c) Y))
    (HPut2 : Hid (∀ (w' : World) (u : Value), FV w' u Y → Calls Tryd.prog 12 #[u] w' fun e w'' => ∃ v', e = .returned (.tuple #[v', .int .i64 0]) ∧ Below w'.heap.size w' w'' ∧ OwnB w'' w'.heap.size v' Bs))
    (HSm : Hid (∀ (u1 u2 : Value) (w' : World), In w' u1 Bs → In w' u2 Bs → Calls Tryd.prog 15 #[u1, u2] w' fun e w'' => e = .returned (.bool true) ∧ w' = w'')) :
    Calls Tryd.prog 3 #[v, vb] w fun e w' => e = .returned (.bool true) ∧ Below w.heap.size w w' := by
  go_enter Tryd.func3, Tryd.ntmps3
  go_wp2_with (first
    | (go_at_call 9; refine (works_any _).mono ?_; rintro e w1 ⟨rfl, hb1⟩; have HB1 := Lib.hid hb1; have HV1 := Lib.hid (HV.out.below hb1); have HI1 := Lib.hid (HI.out.below hb1); clear hb1)
    | (go_at_call 10; refine (HA.out _ HV1.out).mono ?_; rintro e w2 ⟨v2, rfl, hb2, ho2⟩; have HB2 := Lib.hid (bcall HB1.out hb2 HB1.out.size); have HO2 := Lib.hid ho2; have HI2 := Lib.hid (HI1.out.below hb2); clear hb2 ho2)
    | (go_at_call 11; refine (HSh.out _ _ HI2.out).mono ?_; rintro e w3 ⟨a3, c3, rfl, rfl, h3⟩; have HI3 := Lib.hid h3; clear h3)
    | (go_at_call 12; refine (HBad.out _ _ (HH.out.below HB2.out HH.out.lt) HO2.out.fv).mono ?_; rintro e w6 ⟨rfl, hb6⟩; have HB6 := Lib.hid (bcall HB2.out hb6 HB2.out.size); have HI6 := Lib.hid (HI3.out.below hb6); clear hb6 HBad HI3)
    | (go_at_call 13; refine (HSome.out _ _ HI6.out.rd).mono ?_; rintro e w7 ⟨a7, c7, rfl, hb7, ho7⟩; have HB7 := Lib.hid (bcall HB6.out hb7 HB6.out.size); have HO8 := Lib.hid ho7; have HI7 := Lib.hid (HI6.out.below hb7); clear hb7 ho7)
    | (go_at_call 12; refine (HPut2.out _ _ HO8.out.fv).mono ?_; rintro e w8 ⟨v8, rfl, hb8, ho8⟩; have HB8 := Lib.hid (bcall HB7.out hb8 HB7.out.size); have HO9 := Lib.hid ho8; have HI8 := Lib.hid (HI7.out.below hb8); clear hb8 ho8)
    | (go_at_call 15; refine (HSm.out _ _ _ HO9.out.in HI8.out).mono ?_; rintro e w9 ⟨rfl, rfl⟩))
  exact bodyPost_ret (results_tmp rfl _ _ _) rfl ⟨rfl, HB8.out⟩

theorem back_core (l : List Fld) (hb : ∀ p ∈ l, Byt p.2) (L : List Nat) (hL : Byt L) (v vb : Value) (w : World) (hh : Hnd w) (hv : FIn w v l) (hi : In w vb L) :
    Calls Tryd.prog 3 #[v, vb] w fun e w' => e = .returned (.bool true) ∧ Below w.heap.size w w' := by
  have hPb := fewF_byt l 12288 257 hb
  have HA := Lib.hid (fun (w' : World) (h : FIn w' v l) => few_any l v w' h)
  generalize fewF 12288 257 l = P at *
  have HSh : Hid (∀ (w' : World) (u : Value), In w' u L → Calls Tryd.prog 11 #[u] w' fun e w'' => ∃ a c, e = .returned (.slice a (L.take 4097).length c) ∧ w' = w'' ∧ In w' (.slice a (L.take 4097).length c) (L.take 4097)) := Lib.hid fun w' u h => by
    refine (short_any u L w' h).mono ?_
    rintro e w'' ⟨v', rfl, rfl, h⟩
    obtain ⟨a, c, rfl, h1⟩ := h
    exact ⟨a, c, rfl, rfl, ⟨a, c, rfl, h1⟩⟩
  have hBb : Byt (L.take 4097) := fun x hx => hL x (List.mem_of_mem_take hx)
  generalize L.take 4097 = Bs at *
  have second : (4096 < Bs.length) ∨ (Bs.length ≤ 4096 ∧ readF Bs.length 0 Bs = none) ∨ (Bs.length ≤ 4096 ∧ ∃ y, readF Bs.length 0 Bs = some y) := by
    by_cases h : 4096 < Bs.length
    · exact Or.inl h
    · cases hr : readF Bs.length 0 Bs with
      | none => exact Or.inr (Or.inl ⟨by omega, rfl⟩)
      | some y => exact Or.inr (Or.inr ⟨by omega, y, rfl⟩)
  have bad : ∀ n, putC P n → n ≠ 0 → Hid (∀ (w' : World) (u : Value), Hnd w' → FV w' u P → Calls Tryd.prog 12 #[u] w' fun e w'' => e = .returned (.tuple #[.slice none 0 0, .int .i64 n]) ∧ Below w'.heap.size w' w'') :=
    fun n hp hn => Lib.hid fun w' u hh' hu => put_bad P n hp hn w' u hh' hu
  have main : (okF P) ∨ ∃ n, n ≠ 0 ∧ putC P n := by
    rcases putC_total P with h | h | h
    · exact Or.inl h
    · exact Or.inr ⟨3, by decide, h⟩
    · exact Or.inr ⟨80, by decide, h⟩
  have some2 : ∀ y, Bs.length ≤ 4096 → readF Bs.length 0 Bs = some y → (Hid (∀ (w' : World) (u : Value), Rd w' u Bs → Calls Tryd.prog 13 #[u] w' fun e w'' => ∃ a c, e = .returned (.tuple #[.slice a y.length c, .int .i64 0]) ∧ Below w'.heap.size w' w'' ∧ OwnF w'' w'.heap.size (.slice a y.length c) (y.map toF))) ∧
      (Hid (∀ (w' : World) (u : Value), FV w' u (y.map toF) → Calls Tryd.prog 12 #[u] w' fun e w'' => ∃ v', e = .returned (.tuple #[v', .int .i64 0]) ∧ Below w'.heap.size w' w'' ∧ OwnB w'' w'.heap.size v' Bs)) ∧
      (Hid (∀ (u1 u2 : Value) (w' : World), In w' u1 Bs → In w' u2 Bs → Calls Tryd.prog 15 #[u1, u2] w' fun e w'' => e = .returned (.bool true) ∧ w' = w'')) := fun y hl hr => by
    obtain ⟨k1, k2⟩ := put_read hBb hl hr
    refine ⟨Lib.hid fun w' u hu => read_some Bs hBb hl y hr w' u hu, Lib.hid fun w' u hu => ?_, Lib.hid fun u1 u2 w' h1 h2 => same_in u1 u2 Bs w' h1 h2 hBb⟩
    have := put_good _ k1 w' u hu
    rwa [k2] at this
  rcases main with hok | ⟨n, hn, hp⟩
  · obtain ⟨k1, k2, k3⟩ := (okF_iff P).1 hok
    have hxb := goodF_byt P 0 k2 hPb
    obtain ⟨r1, r2⟩ := read_put hok
    have HPut := Lib.hid (put_good P hok)
    have HRd : Hid (∀ (w' : World) (u : Value), Rd w' u (flI P) → Calls Tryd.prog 13 #[u] w' fun e w'' => ∃ a c, e = .returned (.tuple #[.slice a (unF P).length c, .int .i64 0]) ∧ Below w'.heap.size w' w'' ∧ OwnF w'' w'.heap.size (.slice a (unF P).length c) P) := Lib.hid fun w' u hu => by
      have := read_some (flI P) hxb k3 (unF P) r1 w' u hu
      rwa [r2] at this
    have HSame := Lib.hid (fun u1 u2 w' h1 h2 => sameFields_any P u1 u2 w' h1 h2 hPb (by omega))
    rcases second with h | ⟨h1, h2⟩ | ⟨h1, y, h2⟩
    · exact back_Aa l P L Bs (flI P) (unF P).length Bs.length v vb w (Lib.hid hv) (Lib.hid hi) HA HSh HPut HRd HSame (Lib.hid fun a c w' => read_long a Bs.length c h w')
    · exact back_Ab l P L Bs (flI P) (unF P).length Bs.length v vb w (Lib.hid hv) (Lib.hid hi) HA HSh HPut HRd HSame (Lib.hid hh) (Lib.hid fun w' hw u hu => read_none Bs hBb h1 h2 w' hw u hu)
    · obtain ⟨s1, s2, s3⟩ := some2 y h1 h2
      exact back_Ac l P L Bs (flI P) (unF P).length Bs.length v vb w (Lib.hid hv) (Lib.hid hi) HA HSh HPut HRd HSame (y.map toF) y.length s1 s2 s3
  · rcases second with h | ⟨h1, h2⟩ | ⟨h1, y, h2⟩
    · exact back_Ba l P L Bs Bs.length v vb w (Lib.hid hv) (Lib.hid hi) HA HSh n hn (Lib.hid hh) (bad n hp hn) (Lib.hid fun a c w' => read_long a Bs.length c h w')
    · exact back_Bb l P L Bs Bs.length v vb w (Lib.hid hv) (Lib.hid hi) HA HSh n hn (Lib.hid hh) (bad n hp hn) (Lib.hid fun w' hw u hu => read_none Bs hBb h1 h2 w' hw u hu)
    · obtain ⟨s1, s2, s3⟩ := some2 y h1 h2
      exact back_Bc l P L Bs Bs.length v vb w (Lib.hid hv) (Lib.hid hi) HA HSh n hn (Lib.hid hh) (bad n hp hn) (y.map toF) y.length s1 s2 s3
end Go.Proofs.YtbmhmaejakjieaaDoor
