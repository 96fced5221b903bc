/- The walk of WirePuts. -/
import Derived.Test.YtbmhmaejakjieaaDoorGc
import Derived.Test.YtbmhmaejakjieaaDoorCb
import Derived.Test.YtbmhmaejakjieaaDoorLf
namespace Go.Proofs.YtbmhmaejakjieaaDoor
open Go.RowKit

theorem getF_mem {t : Int} : ∀ {l : List Fld} {M : List Nat}, getF t l = some M → ∃ p ∈ l, p.2 = M
  | [], M, h => by simp [getF] at h
  | p :: l, M, h => by
    simp only [getF] at h
    split at h
    · simp only [Option.some.injEq] at h
      exact ⟨p, by simp, h⟩
    · obtain ⟨q, h1, h2⟩ := getF_mem h
      exact ⟨q, by simp [h1], h2⟩

set_option maxHeartbeats 2000000 in
set_option maxRecDepth 100000 in
theorem puts_walk (l P : List Fld) (X M : List Nat) (n g t : Int) (hX : Byt X) (hM : Byt M) (v : Value) (w : World) (HH : Hid (Hnd w)) (HV : Hid (FIn w v l))
    (HA : Hid (∀ (w' : World), FIn w' v l → Calls Tryd.prog 10 #[v] w' fun e w'' => ∃ v', e = .returned v' ∧ Below w'.heap.size w' w'' ∧ OwnF w'' w'.heap.size v' P))
    (HA2 : Hid (∀ (w' : World) (u : Value), FIn w' u P → Calls Tryd.prog 10 #[u] w' fun e w'' => ∃ v', e = .returned v' ∧ Below w'.heap.size w' w'' ∧ OwnF w'' w'.heap.size v' P))
    (HPut : Hid (∀ (w' : World) (u : Value), Hnd w' → FV w' u P → Calls Tryd.prog 12 #[u] w' fun e w'' => ∃ v', e = .returned (.tuple #[v', .int .i64 n]) ∧ Below w'.heap.size w' w'' ∧ OwnB w'' w'.heap.size v' X))
    (HRPut : Hid (∀ (w' : World) (u : Value), FIn w' u P → Calls Tryd.prog 17 #[u] w' fun e w'' => ∃ v', e = .returned (.tuple #[v', .int .i64 n]) ∧ Below w'.heap.size w' w'' ∧ OwnB w'' w'.heap.size v' X))
    (HGet : Hid (∀ (w' : World) (u : Value), FIn w' u P → Calls Tryd.prog 18 #[u, .int .i64 t] w' fun e w'' => ∃ v', e = .returned (.tuple #[v', .int .i64 g]) ∧ Below w'.heap.size w' w'' ∧ OwnB w'' w'.heap.size v' M))
    (HRGet : Hid (∀ (w' : World) (u : Value), FIn w' u P → Calls Tryd.prog 19 #[u, .int .i64 t] w' fun e w'' => ∃ v', e = .returned (.tuple #[v', .int .i64 g]) ∧ Below w'.heap.size w' w'' ∧ OwnB w'' w'.heap.size v' M)) :
    Calls Tryd.prog 5 #[v, .int .i64 t] w fun e w' => e = .returned (.bool true) ∧ Below w.heap.size w w' := by
  have HX := Lib.hid hX; have HM := Lib.hid hM
  clear hX hM
  go_enter Tryd.func5, Tryd.ntmps5
  go_wp2_with (first
    | (go_at_call 10; refine (HA.out _ HV.out).mono ?_; rintro e w1 ⟨v1, rfl, hb1, ho1⟩; have HB1 := Lib.hid hb1; have HO1 := Lib.hid ho1; clear hb1 ho1 HA)
    | (go_at_call 10; refine (HA2.out _ _ HO1.out.fin).mono ?_; rintro e w2 ⟨v2, rfl, hb2, ho2⟩; have HB2 := Lib.hid (bcall HB1.out hb2 HB1.out.size); have HO2 := Lib.hid (HO1.out.below hb2); have HP2 := Lib.hid ho2; clear hb2 ho2 HA2)
    | (go_at_call 12; refine (HPut.out _ _ (HH.out.below HB2.out HH.out.lt) HP2.out.fv).mono ?_; rintro e w3 ⟨v3, rfl, hb3, ho3⟩; have HB3 := Lib.hid (bcall HB2.out hb3 HB2.out.size); have HO3 := Lib.hid (HO2.out.below hb3); have HX3 := Lib.hid ho3; clear hb3 ho3)
    | (go_at_call 17; refine (HRPut.out _ _ HO3.out.fin).mono ?_; rintro e w4 ⟨v4, rfl, hb4, ho4⟩; have HB4 := Lib.hid (bcall HB3.out hb4 HB3.out.size); have HO4 := Lib.hid (HO3.out.below hb4); have HX4 := Lib.hid (HX3.out.below hb4); have HY4 := Lib.hid ho4; clear hb4 ho4)
    | (go_at_call 18; refine (HGet.out _ _ HO4.out.fin).mono ?_; rintro e w5 ⟨v5, rfl, hb5, ho5⟩; have HB5 := Lib.hid (bcall HB4.out hb5 HB4.out.size); have HO5 := Lib.hid (HO4.out.below hb5); have HX5 := Lib.hid (HX4.out.below hb5); have HY5 := Lib.hid (HY4.out.below hb5); have HZ5 := Lib.hid ho5; clear hb5 ho5)
    | (go_at_call 19; refine (HRGet.out _ _ HO5.out.fin).mono ?_; rintro e w6 ⟨v6, rfl, hb6, ho6⟩; have HB6 := Lib.hid (bcall HB5.out hb6 HB5.out.size); have HX6 := Lib.hid (HX5.out.below hb6); have HY6 := Lib.hid (HY5.out.below hb6); have HZ6 := Lib.hid (HZ5.out.below hb6); have HU6 := Lib.hid ho6; clear hb6 ho6)
    | (go_at_call 15; refine (same_in _ _ X _ HX6.out.in HY6.out.in HX.out).mono ?_; rintro e w7 ⟨rfl, rfl⟩; clear HX)
    | (go_at_call 15; refine (same_in _ _ M _ HZ6.out.in HU6.out.in HM.out).mono ?_; rintro e w7 ⟨rfl, rfl⟩; clear HM)
    | (go_at_call 9; refine (works_any _).mono ?_; rintro e w8 ⟨rfl, hb8⟩; have HB8 := Lib.hid (bcall HB6.out hb8 HB6.out.size); clear hb8))
  exact bodyPost_ret (results_tmp rfl _ _ _) rfl ⟨rfl, HB8.out⟩

theorem puts_core (l : List Fld) (hb : ∀ p ∈ l, Byt p.2) (v : Value) (t : Int) (w : World) (hh : Hnd w) (hv : FIn w v l) :
    Calls Tryd.prog 5 #[v, .int .i64 t] w fun e w' => e = .returned (.bool true) ∧ Below w.heap.size w w' := by
  have hPb := fewF_byt l 12288 257 hb
  obtain ⟨p1, p2, _⟩ := fewF_len l 12288 257
  have hP2 := fewF_twice l
  have HA := Lib.hid (fun (w' : World) (h : FIn w' v l) => few_any l v w' h)
  generalize fewF 12288 257 l = P at *
  have HA2 : Hid (∀ (w' : World) (u : Value), FIn w' u P → Calls Tryd.prog 10 #[u] w' fun e w'' => ∃ v', e = .returned v' ∧ Below w'.heap.size w' w'' ∧ OwnF w'' w'.heap.size v' P) := Lib.hid fun w' u h => by
    have := few_any P u w' h
    rwa [hP2] at this
  have hl : P.length ≤ 100000 := by omega
  have hpl : ∀ p ∈ P, p.2.length ≤ 100000 := fun p hp => by have := p2 p hp; omega
  obtain ⟨n, X, hX, hPut, hRPut⟩ : ∃ (n : Int) (X : List Nat), Byt X ∧ (∀ (w' : World) (u : Value), Hnd w' → FV w' u P → Calls Tryd.prog 12 #[u] w' fun e w'' => ∃ v', e = .returned (.tuple #[v', .int .i64 n]) ∧ Below w'.heap.size w' w'' ∧ OwnB w'' w'.heap.size v' X) ∧
      (∀ (w' : World) (u : Value), FIn w' u P → Calls Tryd.prog 17 #[u] w' fun e w'' => ∃ v', e = .returned (.tuple #[v', .int .i64 n]) ∧ Below w'.heap.size w' w'' ∧ OwnB w'' w'.heap.size v' X) := by
    have key : ∃ (n : Int), putC P n := by
      rcases putC_total P with h | h | h
      · exact ⟨0, Or.inl ⟨rfl, h⟩⟩
      · exact ⟨3, h⟩
      · exact ⟨80, h⟩
    obtain ⟨n, hp⟩ := key
    refine ⟨n, if n = 0 then flI P else [], ?_, ?_, ?_⟩
    · split
      · rename_i h0
        subst h0
        obtain ⟨k1, k2, k3⟩ := (okF_iff P).1 (putC_ok hp)
        exact goodF_byt P 0 k2 hPb
      · intro x hx; cases hx
    · intro w' u hw hu
      refine (put_any P w' u hw hu).mono ?_
      rintro e w'' ⟨v', m, rfl, h1, h2, h3⟩
      obtain rfl := putC_one hp h2
      rcases h3 with ⟨rfl, h3⟩ | ⟨h3, rfl⟩
      · exact ⟨v', rfl, h1, by rw [if_pos rfl]; exact h3⟩
      · exact ⟨_, rfl, h1, by rw [if_neg h3]; exact OwnB.nil _ _⟩
    · intro w' u hu
      refine (rput_any P u w' hu).mono ?_
      rintro e w'' ⟨v', m, rfl, h1, h2, h3⟩
      obtain rfl := putC_one hp h2
      rcases h3 with ⟨rfl, h3⟩ | ⟨h3, rfl⟩
      · exact ⟨v', rfl, h1, by rw [if_pos rfl]; exact h3⟩
      · exact ⟨_, rfl, h1, by rw [if_neg h3]; exact OwnB.nil _ _⟩
  cases hg : getF t P with
  | none =>
    refine puts_walk l P X [] n 5 t hX (fun x hx => by cases hx) v w (Lib.hid hh) (Lib.hid hv) HA HA2 (Lib.hid hPut) (Lib.hid hRPut) (Lib.hid fun w' u hu => ?_) (Lib.hid fun w' u hu => ?_)
    · refine (get_any P t u w' hu hl hpl).mono ?_
      rintro e w'' ⟨v', m, rfl, h1, h2⟩
      rcases h2 with ⟨M, h2, _⟩ | ⟨_, rfl, rfl⟩
      · rw [hg] at h2; simp at h2
      · exact ⟨_, rfl, h1, OwnB.nil _ _⟩
    · refine (rget_any P t u w' hu hl hpl).mono ?_
      rintro e w'' ⟨v', m, rfl, h1, h2⟩
      rcases h2 with ⟨M, h2, _⟩ | ⟨_, rfl, rfl⟩
      · rw [hg] at h2; simp at h2
      · exact ⟨_, rfl, h1, OwnB.nil _ _⟩
  | some M =>
    have hM : Byt M := by
      obtain ⟨p, hp, rfl⟩ := getF_mem hg
      exact hPb p hp
    refine puts_walk l P X M n 0 t hX hM v w (Lib.hid hh) (Lib.hid hv) HA HA2 (Lib.hid hPut) (Lib.hid hRPut) (Lib.hid fun w' u hu => ?_) (Lib.hid fun w' u hu => ?_)
    · refine (get_any P t u w' hu hl hpl).mono ?_
      rintro e w'' ⟨v', m, rfl, h1, h2⟩
      rcases h2 with ⟨M', h2, rfl, h3⟩ | ⟨h2, _⟩
      · rw [hg] at h2
        simp only [Option.some.injEq] at h2
        subst h2
        exact ⟨_, rfl, h1, h3⟩
      · rw [hg] at h2; simp at h2
    · refine (rget_any P t u w' hu hl hpl).mono ?_
      rintro e w'' ⟨v', m, rfl, h1, h2⟩
      rcases h2 with ⟨M', h2, rfl, h3⟩ | ⟨h2, _⟩
      · rw [hg] at h2
        simp only [Option.some.injEq] at h2
        subst h2
        exact ⟨_, rfl, h1, h3⟩
      · rw [hg] at h2; simp at h2
end Go.Proofs.YtbmhmaejakjieaaDoor
