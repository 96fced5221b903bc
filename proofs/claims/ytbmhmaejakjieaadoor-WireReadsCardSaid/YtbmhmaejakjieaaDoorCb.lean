/- The walk of WireCuts. -/
import Derived.Test.YtbmhmaejakjieaaDoorQd
namespace Go.Proofs.YtbmhmaejakjieaaDoor
open Go.RowKit

theorem In.rd {w : World} {v : Value} {L : List Nat} (h : In w v L) : Rd w v L := by
  obtain ⟨a, c, rfl, ⟨h1, _⟩, h3⟩ := h
  refine ⟨⟨a, c, rfl⟩, ?_⟩
  rcases h3 with h3 | ⟨b, off, rfl, h4⟩
  · exact Or.inl h3
  · rcases Nat.eq_zero_or_pos L.length with h0 | h0
    · exact Or.inl (List.eq_nil_of_length_eq_zero h0)
    · exact Or.inr ⟨b, off, c, rfl, h1, h4.lt h0, h4⟩

theorem FIn.below {w w' : World} {v : Value} {l : List Fld} (h : FIn w v l) (hb : Below w.heap.size w w') : FIn w' v l := by
  obtain ⟨a, c, h1, h3⟩ := h
  refine ⟨a, c, h1, ?_⟩
  rcases h3 with h3 | ⟨b, off, rfl, hl, h4⟩
  · exact Or.inl h3
  · refine Or.inr ⟨b, off, rfl, Nat.lt_of_lt_of_le hl hb.size, fun j hj => ?_⟩
    obtain ⟨h5, u, h6, h7⟩ := h4 j hj
    exact ⟨by rw [hb.cell (p := ⟨b, off + j * 2, none⟩) hl]; exact h5, u, by rw [hb.cell (p := ⟨b, off + j * 2 + 1, none⟩) hl]; exact h6, h7.below hb⟩

theorem OwnB.flen {w : World} {N : Nat} {v : Value} {L : List Nat} (h : OwnB w N v L) : ∃ a c, v = .slice a L.length c := by
  rcases h.form with ⟨h, h0⟩ | ⟨g, c, h, _⟩
  · exact ⟨none, 0, by rw [h, h0]; rfl⟩
  · exact ⟨_, _, h⟩

theorem among_any (x : Int) (n : Nat) (h0 : 0 < n) (h1 : n ≤ 4096) (w : World) :
    Calls Tryd.prog 16 #[.int .i64 x, .int .i64 (n : Int)] w fun e w' => e = .returned (.int .i64 (((IntKind.u64.wrap x).toNat % n : Nat) : Int)) ∧ w = w' := by
  have hd : decide ((n : Int) < 1) = false := by simp; omega
  obtain ⟨a, ha⟩ : ∃ a : Nat, IntKind.u64.wrap x = (a : Int) := ⟨(IntKind.u64.wrap x).toNat, by rw [IntKind.wrap_u64]; omega⟩
  rw [ha, Int.toNat_natCast]
  have hn : IntKind.u64.wrap (n : Int) = (n : Int) := by rw [IntKind.wrap_u64]; omega
  have hnz : ¬ (n : Int) = 0 := by omega
  have hr : ((a : Nat) : Int).tmod (n : Int) = ((a % n : Nat) : Int) := by rw [Int.tmod_eq_emod_of_nonneg (by omega)]; omega
  have hlt : a % n < n := Nat.mod_lt _ h0
  obtain ⟨m, hm⟩ : ∃ m, a % n = m := ⟨_, rfl⟩
  rw [hm] at hr hlt ⊢
  have hw : IntKind.i64.wrap (m : Int) = (m : Int) := by rw [IntKind.wrap_i64]; omega
  have Hlt := Lib.hid hlt
  clear hm h0 hlt
  go_enter Tryd.func16, Tryd.ntmps16
  go_wp2
  exact bodyPost_ret (results_tmp rfl _ _ _) rfl ⟨rfl, rfl⟩

theorem putC_total (l : List Fld) : okF l ∨ putC l 3 ∨ putC l 80 := by
  by_cases h1 : l.length ≤ 256
  · by_cases h2 : ∀ j, j < l.length → goodAt (tagF l) (lenF l) j
    · by_cases h3 : sumL (lenF l) l.length ≤ 4096
      · exact Or.inl ⟨h1, h2, h3⟩
      · exact Or.inr (Or.inl (Or.inr (Or.inl ⟨rfl, Or.inr ⟨h1, h2, by omega⟩⟩)))
    · refine Or.inr (Or.inr (Or.inr (Or.inr ⟨rfl, h1, ?_⟩)))
      exact Classical.byContradiction fun h => h2 fun j hj => Classical.byContradiction fun hg => h ⟨j, hj, hg⟩
  · exact Or.inr (Or.inl (Or.inr (Or.inl ⟨rfl, Or.inl (by omega)⟩)))

theorem put_bad (l : List Fld) (n : Int) (hp : putC l n) (hn : n ≠ 0) (w : World) (v : Value) (hh : Hnd w) (hv : FV w v l) :
    Calls Tryd.prog 12 #[v] w fun e w' => e = .returned (.tuple #[.slice none 0 0, .int .i64 n]) ∧ Below w.heap.size w w' := by
  refine (put_any l w v hh hv).mono ?_
  rintro e w' ⟨v', m, rfl, hb, hp2, h⟩
  obtain rfl := putC_one hp hp2
  rcases h with ⟨h, _⟩ | ⟨_, rfl⟩
  · exact absurd h hn
  · exact ⟨rfl, hb⟩

set_option maxHeartbeats 2000000 in
set_option maxRecDepth 100000 in
theorem cuts_bad (n : Int) (hn : n = 3 ∨ n = 80) (l : List Fld) (v : Value) (at_ : Int) (w : World) (hh : Hnd w) (hv : FIn w v l) (hp : putC (fewF 12288 257 l) n) :
    Calls Tryd.prog 4 #[v, .int .i64 at_] w fun e w' => e = .returned (.bool true) ∧ Below w.heap.size w w' := by
  have HV := Lib.hid hv; have HH := Lib.hid hh; have HP := Lib.hid hp
  have HA := Lib.hid (fun (w' : World) (h : FIn w' v l) => few_any l v w' h)
  clear hv hh hp
  generalize fewF 12288 257 l = P at *
  rcases hn with rfl | rfl <;>
  (go_enter Tryd.func4, Tryd.ntmps4
   go_wp2_with (first
    | (go_at_call 9; refine (works_any _).mono ?_; rintro e w1 ⟨rfl, hb1⟩; have HB1 := Lib.hid hb1; have HV1 := Lib.hid (HV.out.below hb1); clear hb1)
    | (go_at_call 10; refine (HA.out _ HV1.out).mono ?_; rintro e w2 ⟨v2, rfl, hb2, ho2⟩; have HB2 := Lib.hid (bcall HB1.out hb2 HB1.out.size); have HO2 := Lib.hid ho2; clear hb2 ho2)
    | (go_at_call 12; refine (put_bad P _ HP.out (by decide) _ _ (HH.out.below HB2.out HH.out.lt) HO2.out.fv).mono ?_; rintro e w3 ⟨rfl, hb3⟩; have HB3 := Lib.hid (bcall HB2.out hb3 HB2.out.size); clear hb3))
   exact bodyPost_ret (results_tmp rfl _ _ _) rfl ⟨rfl, HB3.out⟩)

set_option maxHeartbeats 2000000 in
set_option maxRecDepth 100000 in
theorem cuts_none (l : List Fld) (v : Value) (at_ : Int) (w : World) (hv : FIn w v l) (hp : fewF 12288 257 l = []) :
    Calls Tryd.prog 4 #[v, .int .i64 at_] w fun e w' => e = .returned (.bool true) ∧ Below w.heap.size w w' := by
  have HV := Lib.hid hv
  have ha := fun (w' : World) (h : FIn w' v l) => few_any l v w' h
  rw [hp] at ha
  have HA := Lib.hid ha
  have hok : okF [] := ⟨by simp, fun j hj => by simp at hj, by simp [sumL]⟩
  have HP := Lib.hid (fun (w' : World) (u : Value) (h : FV w' u []) => put_good [] hok w' u h)
  clear hv hp ha hok
  go_enter Tryd.func4, Tryd.ntmps4
  go_wp2_with (first
    | (go_at_call 9; refine (works_any _).mono ?_; rintro e w1 ⟨rfl, hb1⟩; have HB1 := Lib.hid hb1; have HV1 := Lib.hid (HV.out.below hb1); clear hb1)
    | (go_at_call 10; refine (HA.out _ HV1.out).mono ?_; rintro e w2 ⟨v2, rfl, hb2, ho2⟩; obtain ⟨a2, c2, hv2⟩ := ho2.form; rw [List.length_nil] at hv2; subst hv2; have HB2 := Lib.hid (bcall HB1.out hb2 HB1.out.size); have HO2 := Lib.hid ho2; clear hb2 ho2)
    | (go_at_call 12; refine (HP.out _ _ HO2.out.fv).mono ?_; rintro e w3 ⟨v3, rfl, hb3, ho3⟩; obtain ⟨a3, c3, hv3⟩ := ho3.flen; rw [show (flI []).length = 0 from rfl] at hv3; subst hv3; have HB3 := Lib.hid (bcall HB2.out hb3 HB2.out.size); clear hb3 ho3))
  exact bodyPost_ret (results_tmp rfl _ _ _) rfl ⟨rfl, HB3.out⟩

theorem read_some (L : List Nat) (hL : Byt L) (hlen : L.length ≤ 4096) (m : List (Nat × List Nat)) (hm : readF L.length 0 L = some m) (w : World) (v : Value) (hv : Rd w v L) :
    Calls Tryd.prog 13 #[v] w fun e w' => ∃ a c, e = .returned (.tuple #[.slice a m.length c, .int .i64 0]) ∧ Below w.heap.size w w' ∧ OwnF w' w.heap.size (.slice a m.length c) (m.map toF) := by
  refine (read_any L hL hlen w v hv (fun h => by rw [hm] at h; simp at h)).mono ?_
  rintro e w' ⟨v', n, rfl, hb, h⟩
  rcases h with ⟨l, h1, rfl, h2⟩ | ⟨h1, _⟩
  · rw [hm] at h1
    simp only [Option.some.injEq] at h1
    subst h1
    obtain ⟨a, c, h3⟩ := h2.form
    rw [List.length_map] at h3
    subst h3
    exact ⟨a, c, rfl, hb, h2⟩
  · rw [hm] at h1; simp at h1

theorem read_none (L : List Nat) (hL : Byt L) (hlen : L.length ≤ 4096) (hm : readF L.length 0 L = none) (w : World) (hh : Hnd w) (v : Value) (hv : Rd w v L) :
    Calls Tryd.prog 13 #[v] w fun e w' => e = .returned (.tuple #[.slice none 0 0, .int .i64 80]) ∧ Below w.heap.size w w' := by
  refine (read_all L hL hlen w v hh hv).mono ?_
  rintro e w' ⟨v', n, rfl, hb, h⟩
  rcases h with ⟨l, h1, _⟩ | ⟨_, rfl, rfl⟩
  · rw [hm] at h1; simp at h1
  · exact ⟨rfl, hb⟩

set_option maxHeartbeats 2000000 in
set_option maxRecDepth 100000 in
theorem cuts_good (l : List Fld) (hb : ∀ p ∈ l, Byt p.2) (v : Value) (at_ : Int) (w : World) (hh : Hnd w) (hv : FIn w v l) (hok : okF (fewF 12288 257 l)) (hne : fewF 12288 257 l ≠ []) :
    Calls Tryd.prog 4 #[v, .int .i64 at_] w fun e w' => e = .returned (.bool true) ∧ Below w.heap.size w w' := by
  have hPb := fewF_byt l 12288 257 hb
  have HV := Lib.hid hv; have HH := Lib.hid hh
  have HA := Lib.hid (fun (w' : World) (h : FIn w' v l) => few_any l v w' h)
  clear hv hh hb
  generalize fewF 12288 257 l = P at *
  obtain ⟨k1, k2, k3⟩ := (okF_iff P).1 hok
  have hxb := goodF_byt P 0 k2 hPb
  have hx3 : 3 * P.length ≤ (flI P).length := by rw [flI_unF]; have := flatF_three (unF P); rwa [unF_len] at this
  have hPl : 0 < P.length := List.length_pos_iff.2 hne
  obtain ⟨q, hq⟩ : ∃ q, (flI P).length = q := ⟨_, rfl⟩
  obtain ⟨m, hm⟩ : ∃ m, (IntKind.u64.wrap at_).toNat % q = m := ⟨_, rfl⟩
  have hmq : m < q := by rw [← hm]; exact Nat.mod_lt _ (by omega)
  have hcut := read_cut hok (n := m) (by omega)
  have htb : Byt ((flI P).take m) := fun x hx => hxb x (List.mem_of_mem_take hx)
  have htl : ((flI P).take m).length ≤ 4096 := by rw [List.length_take]; omega
  have hq0 : ¬ (q : Int) = 0 := by omega
  have hqd : decide ((q : Int) = 0) = false := by simp; omega
  have HM := Lib.hid (among_any at_ q (by omega) (by omega))
  have HMl : Hid (m ≤ (flI P).length) := Lib.hid (by omega)
  have HPut := Lib.hid (put_good P hok)
  rw [hm] at HM
  have Hq := Lib.hid hq
  clear hm hmq hx3 k1 k2 k3 hxb hPb hok hne
  rcases hcut with hr | ⟨y, hr, hy⟩
  · have HR := Lib.hid (read_none _ htb htl hr)
    clear hr htb htl hq hPl
    generalize flI P = X at *
    go_enter Tryd.func4, Tryd.ntmps4
    go_wp2_with (first
      | (go_at_call 9; refine (works_any _).mono ?_; rintro e w1 ⟨rfl, hb1⟩; have HB1 := Lib.hid hb1; have HV1 := Lib.hid (HV.out.below hb1); clear hb1)
      | (go_at_call 10; refine (HA.out _ HV1.out).mono ?_; rintro e w2 ⟨v2, rfl, hb2, ho2⟩; obtain ⟨a2, c2, hv2⟩ := ho2.form; subst hv2; have HB2 := Lib.hid (bcall HB1.out hb2 HB1.out.size); have HO2 := Lib.hid ho2; clear hb2 ho2)
      | (go_at_call 12; refine (HPut.out _ _ HO2.out.fv).mono ?_; rintro e w3 ⟨v3, rfl, hb3, ho3⟩; obtain ⟨a3, c3, hv3⟩ := ho3.flen; rw [Hq.out] at hv3; subst hv3; have HB3 := Lib.hid (bcall HB2.out hb3 HB2.out.size); have HO3 := Lib.hid ho3; clear hb3 ho3)
      | (go_at_call 16; refine (HM.out _).mono ?_; rintro e w4 ⟨rfl, rfl⟩)
      | (refine stepHi rfl _ _ rfl _ X .i64 m rfl rfl HO3.out.in HMl.out ?_; intro v5 h5; have H5 := Lib.hid h5; clear h5)
      | (go_at_call 13; refine (HR.out _ (HH.out.below HB3.out HH.out.lt) _ H5.out.rd).mono ?_; rintro e w6 ⟨rfl, hb6⟩; have HB6 := Lib.hid (bcall HB3.out hb6 HB3.out.size); clear hb6))
    exact bodyPost_ret (results_tmp rfl _ _ _) rfl ⟨rfl, HB6.out⟩
  · have HR := Lib.hid (read_some _ htb htl y hr)
    have hyd : decide (y.length < P.length) = true := by simp [hy]
    clear hr htb htl hq hPl hy
    generalize flI P = X at *
    go_enter Tryd.func4, Tryd.ntmps4
    go_wp2_with (first
      | (go_at_call 9; refine (works_any _).mono ?_; rintro e w1 ⟨rfl, hb1⟩; have HB1 := Lib.hid hb1; have HV1 := Lib.hid (HV.out.below hb1); clear hb1)
      | (go_at_call 10; refine (HA.out _ HV1.out).mono ?_; rintro e w2 ⟨v2, rfl, hb2, ho2⟩; obtain ⟨a2, c2, hv2⟩ := ho2.form; subst hv2; have HB2 := Lib.hid (bcall HB1.out hb2 HB1.out.size); have HO2 := Lib.hid ho2; clear hb2 ho2)
      | (go_at_call 12; refine (HPut.out _ _ HO2.out.fv).mono ?_; rintro e w3 ⟨v3, rfl, hb3, ho3⟩; obtain ⟨a3, c3, hv3⟩ := ho3.flen; rw [Hq.out] at hv3; subst hv3; have HB3 := Lib.hid (bcall HB2.out hb3 HB2.out.size); have HO3 := Lib.hid ho3; clear hb3 ho3)
      | (go_at_call 16; refine (HM.out _).mono ?_; rintro e w4 ⟨rfl, rfl⟩)
      | (refine stepHi rfl _ _ rfl _ X .i64 m rfl rfl HO3.out.in HMl.out ?_; intro v5 h5; have H5 := Lib.hid h5; clear h5)
      | (go_at_call 13; refine (HR.out _ _ H5.out.rd).mono ?_; rintro e w6 ⟨a6, c6, rfl, hb6, _⟩; have HB6 := Lib.hid (bcall HB3.out hb6 HB3.out.size); clear hb6))
    exact bodyPost_ret (results_tmp rfl _ _ _) rfl ⟨rfl, HB6.out⟩

theorem cuts_core (l : List Fld) (hb : ∀ p ∈ l, Byt p.2) (v : Value) (at_ : Int) (w : World) (hh : Hnd w) (hv : FIn w v l) :
    Calls Tryd.prog 4 #[v, .int .i64 at_] w fun e w' => e = .returned (.bool true) ∧ Below w.heap.size w w' := by
  rcases putC_total (fewF 12288 257 l) with h | h | h
  · by_cases hn : fewF 12288 257 l = []
    · exact cuts_none l v at_ w hv hn
    · exact cuts_good l hb v at_ w hh hv h hn
  · exact cuts_bad 3 (Or.inl rfl) l v at_ w hh hv h
  · exact cuts_bad 80 (Or.inr rfl) l v at_ w hh hv h
end Go.Proofs.YtbmhmaejakjieaaDoor
