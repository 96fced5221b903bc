/- The walk of WireLists. -/
import Derived.Test.YtbmhmaejakjieaaDoorLf
namespace Go.Proofs.YtbmhmaejakjieaaDoor
open Go.RowKit

theorem flatL_two : ∀ (l : List (List Nat)), 2 * l.length ≤ (flatL l).length
  | [] => by simp
  | x :: l => by
    have ih := flatL_two l
    have e : flatL (x :: l) = part1 x ++ flatL l := by simp [flatL]
    rw [e, List.length_append]
    simp only [part1, List.length_cons]
    omega

theorem flatL_byt {l : List (List Nat)} (h : ∀ x ∈ l, Byt x) (hs : (flatL l).length ≤ 4096) : Byt (flatL l) := by
  intro z hz
  unfold flatL at hz
  obtain ⟨x, hx, hz⟩ := List.mem_flatMap.1 hz
  have hxl : x.length ≤ 4096 := by
    have : (part1 x).length ≤ (flatL l).length := by
      obtain ⟨a, b, rfl⟩ := List.append_of_mem hx
      simp only [flatL, List.flatMap_append, List.flatMap_cons, List.length_append]
      omega
    simp only [part1, List.length_cons] at this
    omega
  simp only [part1, List.mem_cons] at hz
  rcases hz with rfl | rfl | hz
  · omega
  · omega
  · exact h x hx z hz

theorem readList_good (P : List (List Nat)) (hok : listOK P) (hb : ∀ x ∈ P, Byt x) (w : World) (v : Value) (hv : Rd w v (flatL P)) :
    Calls Tryd.prog 25 #[v] w fun e w' => ∃ v', e = .returned (.tuple #[v', .int .i64 0]) ∧ Below w.heap.size w w' ∧ OwnL w' w.heap.size v' P := by
  have hr : readL (flatL P).length (flatL P) = some P := readL_flatL P _ (by have := flatL_two P; omega)
  refine (readList_any (flatL P) (flatL_byt hb hok.2) hok.2 w v hv (fun h => by rw [hr] at h; simp at h)).mono ?_
  rintro e w' ⟨v', n, rfl, hb, h⟩
  rcases h with ⟨l, h1, h2, rfl, h3⟩ | ⟨l, h1, h2, _⟩ | ⟨h1, _⟩
  · rw [hr] at h1
    simp only [Option.some.injEq] at h1
    subst h1
    exact ⟨v', rfl, hb, h3⟩
  · rw [hr] at h1
    simp only [Option.some.injEq] at h1
    subst h1
    have := hok.1
    omega
  · rw [hr] at h1; simp at h1

set_option maxHeartbeats 2000000 in
set_option maxRecDepth 100000 in
theorem lists_core (l : List (List Nat)) (hb : ∀ x ∈ l, Byt x) (v : Value) (w : World) (hv : LV w v l) :
    Calls Tryd.prog 7 #[v] w fun e w' => e = .returned (.bool true) ∧ Below w.heap.size w w' := by
  have hPb := partsF_byt l 12288 257 hb
  have hP2 := partsF_twice l
  have hPl : (partsF 12288 257 l).length ≤ 100000 := by have := (partsF_len l 12288 257).1; omega
  have HV := Lib.hid hv; have HPb := Lib.hid hPb; have HP2 := Lib.hid hP2; have HPl := Lib.hid hPl
  clear hv hPb hP2 hPl hb
  have hp1 := fun (w' : World) (h : LV w' v l) => parts_any l v w' h
  have HA := Lib.hid hp1
  clear hp1
  generalize partsF 12288 257 l = P at *
  by_cases hok : listOK P
  · have HOK := Lib.hid hok
    clear hok
    go_enter Tryd.func7, Tryd.ntmps7
    go_wp2_with (first
      | (go_at_call 22; refine (HA.out _ HV.out).mono ?_; rintro e w1 ⟨v1, rfl, hb1, ho1⟩; have HB1 := Lib.hid hb1; have HO1 := Lib.hid ho1; clear hb1 ho1 HV HA)
      | (go_at_call 22; refine (parts_any P _ _ HO1.out.lv).mono ?_; rintro e w2 ⟨v2, rfl, hb2, ho2⟩; rw [HP2.out] at ho2; have HB2 := Lib.hid (bcall HB1.out hb2 HB1.out.size); have HO1' := Lib.hid (HO1.out.below hb2); have HO2 := Lib.hid ho2; clear hb2 ho2 HO1)
      | (go_at_call 23; refine (list_any P _ _ HO2.out.lv).mono ?_; rintro e w3 ⟨v3, n3, rfl, hb3, ho3⟩
         obtain ⟨rfl, hq3⟩ : n3 = 0 ∧ OwnB w3 _ v3 (flatL P) := by
           rcases ho3 with ⟨_, h1, h2⟩ | ⟨h1, _⟩
           · exact ⟨h1, h2⟩
           · exact absurd HOK.out h1
         have HB3 := Lib.hid (bcall HB2.out hb3 HB2.out.size); have HO3 := Lib.hid hq3; have HO1 := Lib.hid (HO1'.out.below hb3); clear hb3 ho3 hq3 HO1')
      | (go_at_call 24; refine (rlist_any P _ _ HO1.out.lv).mono ?_; rintro e w4 ⟨v4, n4, rfl, hb4, ho4⟩
         obtain ⟨rfl, hq4⟩ : n4 = 0 ∧ OwnB w4 _ v4 (flatL P) := by
           rcases ho4 with ⟨_, h1, h2⟩ | ⟨h1, _⟩
           · exact ⟨h1, h2⟩
           · exact absurd HOK.out h1
         have HB4 := Lib.hid (bcall HB3.out hb4 HB3.out.size); have HO4 := Lib.hid hq4; have HO5 := Lib.hid (HO1.out.below hb4); have HO6 := Lib.hid (HO3.out.below hb4); clear hb4 ho4 hq4 HO1 HO3)
      | (go_at_call 15; refine (same_in _ _ (flatL P) _ HO6.out.in HO4.out.in (flatL_byt HPb.out HOK.out.2)).mono ?_; rintro e w5 ⟨rfl, rfl⟩)
      | (go_at_call 25; refine (readList_good P HOK.out HPb.out _ _ HO6.out.rd).mono ?_; rintro e w6 ⟨v6, rfl, hb6, ho6⟩; have HB6 := Lib.hid (bcall HB4.out hb6 HB4.out.size); have HO7 := Lib.hid (HO5.out.below hb6); have HO8 := Lib.hid ho6; clear hb6 ho6)
      | (go_at_call 26; refine (sameLists_any P _ _ _ HO8.out.lv HO7.out.lv HPb.out HPl.out).mono ?_; rintro e w7 ⟨rfl, hb7⟩; have HB7 := Lib.hid (bcall HB6.out hb7 HB6.out.size); clear hb7)
      | (go_at_call 9; refine (works_any _).mono ?_; rintro e w8 ⟨rfl, hb8⟩; have HB8 := Lib.hid (bcall HB7.out hb8 HB7.out.size); clear hb8))
    exact bodyPost_ret (results_tmp rfl _ _ _) rfl ⟨rfl, HB8.out⟩
  · have HOK := Lib.hid hok
    clear hok
    go_enter Tryd.func7, Tryd.ntmps7
    go_wp2_with (first
      | (go_at_call 22; refine (HA.out _ HV.out).mono ?_; rintro e w1 ⟨v1, rfl, hb1, ho1⟩; have HB1 := Lib.hid hb1; have HO1 := Lib.hid ho1; clear hb1 ho1 HV HA)
      | (go_at_call 22; refine (parts_any P _ _ HO1.out.lv).mono ?_; rintro e w2 ⟨v2, rfl, hb2, ho2⟩; rw [HP2.out] at ho2; have HB2 := Lib.hid (bcall HB1.out hb2 HB1.out.size); have HO1' := Lib.hid (HO1.out.below hb2); have HO2 := Lib.hid ho2; clear hb2 ho2 HO1)
      | (go_at_call 23; refine (list_any P _ _ HO2.out.lv).mono ?_; rintro e w3 ⟨v3, n3, rfl, hb3, ho3⟩
         obtain ⟨rfl, rfl⟩ : n3 = 3 ∧ v3 = .slice none 0 0 := by
           rcases ho3 with ⟨h1, _⟩ | ⟨_, h1, h2⟩
           · exact absurd h1 HOK.out
           · exact ⟨h1, h2⟩
         have HB3 := Lib.hid (bcall HB2.out hb3 HB2.out.size); have HO1 := Lib.hid (HO1'.out.below hb3); clear hb3 ho3 HO1')
      | (go_at_call 24; refine (rlist_any P _ _ HO1.out.lv).mono ?_; rintro e w4 ⟨v4, n4, rfl, hb4, ho4⟩
         obtain ⟨rfl, rfl⟩ : n4 = 3 ∧ v4 = .slice none 0 0 := by
           rcases ho4 with ⟨h1, _⟩ | ⟨_, h1, h2⟩
           · exact absurd h1 HOK.out
           · exact ⟨h1, h2⟩
         have HB4 := Lib.hid (bcall HB3.out hb4 HB3.out.size); clear hb4 ho4 HO1)
      | (go_at_call 15; refine (same_in _ _ [] _ ((OwnB.nil _ 0).in) ((OwnB.nil _ 0).in) (fun x hx => by cases hx)).mono ?_; rintro e w5 ⟨rfl, rfl⟩)
      | (go_at_call 9; refine (works_any _).mono ?_; rintro e w8 ⟨rfl, hb8⟩; have HB8 := Lib.hid (bcall HB4.out hb8 HB4.out.size); clear hb8))
    exact bodyPost_ret (results_tmp rfl _ _ _) rfl ⟨rfl, HB8.out⟩
end Go.Proofs.YtbmhmaejakjieaaDoor
