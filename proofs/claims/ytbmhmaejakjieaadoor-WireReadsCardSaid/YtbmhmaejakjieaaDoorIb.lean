/- The walk of WireInts. -/
import Derived.Test.YtbmhmaejakjieaaDoorWb
namespace Go.Proofs.YtbmhmaejakjieaaDoor
open Go.RowKit

theorem sI_uI {n : Int} (h1 : -9223372036854775808 ≤ n) (h2 : n ≤ 9223372036854775807) : sI (uI n) = n := by
  unfold sI uI
  rw [IntKind.wrap_i64]
  omega

theorem uI_sI {u : Nat} (h : u < 18446744073709551616) : uI (sI u) = u := by
  unfold sI uI
  rw [IntKind.wrap_i64]
  omega

theorem be8_len (u : Nat) : (be8 u).length = 8 := rfl
theorem be8_byt (u : Nat) : Byt (be8 u) := by
  intro x hx
  simp only [be8, List.mem_cons, List.not_mem_nil, or_false] at hx
  omega

theorem read8_lt (L : List Nat) : L ≠ [] → read8 L < 18446744073709551616 := by
  intro h
  unfold read8
  obtain ⟨M, x, rfl⟩ : ∃ M x, L = M ++ [x] := ⟨L.dropLast, L.getLast h, (List.dropLast_concat_getLast h).symm⟩
  rw [List.foldl_append]
  simp only [List.foldl_cons, List.foldl_nil, step8]
  exact Nat.mod_lt _ (by omega)

theorem be8_read {L : List Nat} (hl : L.length = 8) (hb : Byt L) : be8 (uI (sI (read8 L))) = L := by
  rw [uI_sI (read8_lt L (by intro e; subst e; simp at hl))]
  match L, hl with
  | [a, b, c, d, e, f, g, h], _ => exact be8_read8 (hb a (by simp)) (hb b (by simp)) (hb c (by simp)) (hb d (by simp)) (hb e (by simp)) (hb f (by simp)) (hb g (by simp)) (hb h (by simp))

theorem first_byte {n : Int} (h1 : -9223372036854775808 ≤ n) (h2 : n ≤ 9223372036854775807) : decide (((nth (be8 (uI n)) 0 : Nat) : Int) < 128) = decide (0 ≤ n) := by
  have : nth (be8 (uI n)) 0 = uI n / 72057594037927936 % 256 := rfl
  rw [this]
  unfold uI
  by_cases h : 0 ≤ n
  · simp [h]; omega
  · simp [h]; omega

section
variable {ops : Array Oper} {o : Oper} {a : Act} {w : World} {K' : Act → World → Prop}
/-- A step that stands alone and leaves the world as it is. -/
theorem R_alone (v : Value) (hw : Region.wanted o (yielded ops a.tmps) = true) (hv : (execOp a.eval o).run Tryd.prog w = .ok (.value v) w) (h : K' (a.put o.dst v) w) : opS Tryd.prog ops o K' a w :=
  .inl ⟨hw, by rw [hv]; exact h⟩
end

set_option maxHeartbeats 2000000 in
set_option maxRecDepth 100000 in
theorem ints_core (n : Int) (h1 : -9223372036854775808 ≤ n) (h2 : n ≤ 9223372036854775807) (L : List Nat) (hl : L.length = 8) (hL : Byt L) (w : World) :
    Calls Tryd.prog 6 #[.int .i64 n, .agg (u8s L)] w fun e w' => e = .returned (.bool true) ∧ Below w.heap.size w w' := by
  have HL := Lib.hid hL; have Hl := Lib.hid hl
  have hA := Lib.hid (Has.new w (u8s L) 39)
  have b0 := Lib.hid ((Below.refl w.heap.size w).alloc (Nat.le_refl _) (.cells (u8s L) 39))
  have hr1 : ∀ w' g, Has w' g 39 (u8s (be8 (uI n))) → Calls Tryd.prog 20 #[.slice (some ⟨g, 0, none⟩) 8 8] w' fun e w'' => e = .returned (.tuple #[.int .i64 n, .int .i64 0]) ∧ w' = w'' := fun w' g h => by
    have := readInt_any (be8 (uI n)) rfl (be8_byt _) g 0 8 w' h.segB
    rwa [read8_be8 (by unfold uI; omega), sI_uI h1 h2] at this
  have hr2 : ∀ w' g, Has w' g 39 (u8s L) → Calls Tryd.prog 20 #[.slice (some ⟨g, 0, none⟩) 8 8] w' fun e w'' => e = .returned (.tuple #[.int .i64 (sI (read8 L)), .int .i64 0]) ∧ w' = w'' := fun w' g h =>
    readInt_any L hl hL g 0 8 w' h.segB
  have hi2 : ∀ w', Calls Tryd.prog 21 #[.int .i64 (sI (read8 L))] w' fun e w'' => e = .returned (.slice (some ⟨w'.heap.size, 0, none⟩) 8 8) ∧ Below w'.heap.size w' w'' ∧ Has w'' w'.heap.size 39 (u8s L) := fun w' => by
    have := int_bytes (sI (read8 L)) w'
    rwa [be8_read hl hL] at this
  have hi1 := int_bytes n
  have hf := first_byte h1 h2
  have hMl : 0 < (be8 (uI n)).length := by rw [be8_len]; omega
  have HR1 := Lib.hid hr1; have HR2 := Lib.hid hr2; have HI1 := Lib.hid hi1; have HI2 := Lib.hid hi2
  clear hr1 hr2 hi1 hi2 h1 h2 hl hL
  generalize sI (read8 L) = k at *
  generalize be8 (uI n) = M at *
  go_enter Tryd.func6, Tryd.ntmps6
  go_wp2_with (first
    | (go_at_call 9; refine (works_any _).mono ?_; rintro e w1 ⟨rfl, hb1⟩; have bl1 := Lib.hid (bcall b0.out hb1 b0.out.size); have ha1 := Lib.hid (hA.out.below hb1 hA.out.lt); clear hb1)
    | (go_at_call 21; refine (HI1.out _).mono ?_; rintro e w2 ⟨rfl, hb2, hh2⟩; have bl2 := Lib.hid (bcall bl1.out hb2 bl1.out.size); have ha2 := Lib.hid (ha1.out.below hb2 ha1.out.lt); have hm2 := Lib.hid hh2; clear hb2 hh2)
    | (go_at_call 20; refine (HR1.out _ _ hm2.out).mono ?_; rintro e w3 ⟨rfl, rfl⟩; clear hm2)
    | (go_at_call 20; refine (HR2.out _ _ ha2.out).mono ?_; rintro e w3 ⟨rfl, rfl⟩))
  have q0 : Kp w2 w2.drew := Kp.start w2
  refine wp_region_ord (Kp w2) [(true, 0), (true, 1), (true, 2), (true, 3), (true, 4), (true, 5), (true, 6), (true, 7), (true, 8), (true, 9), (true, 10), (true, 11), (true, 12), (true, 14), (false, 13), (false, 15), (true, 16), (true, 17), (true, 18), (true, 19), (true, 20), (false, 21), (true, 22), (false, 23), (true, 24), (true, 25), (true, 26), (true, 27)] (by kernel_rfl) (by kernel_rfl) rfl (by kernel_rfl) ?_
  repeat (refine O_read rfl (by assumption) (fun K' hK => ?_); refine R_pure ?_ rfl (fun w => ?_) ?_; rotate_left; (focus (first | (go_simp; rfl) | (go_simp; done))); go_simp; refine hK _ ?_; clear hK K')
  have HM := Lib.hid hMl
  clear hMl
  refine O_call rfl (fun K' hK => ?_)
  refine R_callc 21 #[.int .i64 k] rfl (fun w => ?_) (HI2.out _) ?_
  · go_simp; done
  rintro e w3 ⟨rfl, hb3, hh3⟩
  have q3 : Kp w2 w3 := bcall q0 hb3 q0.size
  refine ⟨_, rfl, hK _ _ q3 ?_⟩
  clear hK K'
  go_simp
  have hl2 : Has w3 w.heap.size 39 (u8s L) := ha2.out.below q3 ha2.out.lt
  refine O_call rfl (fun K' hK => ?_)
  refine R_callc 15 _ rfl (fun w => ?_) (same_any _ _ L L _ (Or.inr ⟨_, 0, 8, by rw [Hl.out], hh3.segB⟩) (Or.inr ⟨_, 0, 8, by rw [Hl.out], hl2.segB⟩) HL.out HL.out) ?_
  · go_simp; done
  rintro e w4 ⟨rfl, rfl⟩
  refine ⟨_, rfl, hK _ _ q3 ?_⟩
  clear hK K' hl2 hh3
  simp only [decide_true]
  go_simp
  repeat (refine O_read rfl (by assumption) (fun K' hK => ?_); refine R_pure ?_ rfl (fun w => ?_) ?_; rotate_left; (focus (first | (go_simp; rfl) | (go_simp; done))); go_simp; refine hK _ ?_; clear hK K')
  refine O_call rfl (fun K' hK => ?_)
  refine R_callc 21 #[.int .i64 n] rfl (fun w => ?_) (HI1.out _) ?_
  · go_simp; done
  rintro e w5 ⟨rfl, hb5, hh5⟩
  have q5 : Kp w2 w5 := bcall q3 hb5 q3.size
  refine ⟨_, rfl, hK _ _ q5 ?_⟩
  clear hK K'
  go_simp
  have hc5 := hh5.cellB (k := 0) HM.out
  have q6 := Lib.hid (bcall bl2.out q5 bl2.out.size)
  refine O_read rfl (by assumption) (fun K' hK => ?_); refine R_pure ?_ rfl (fun w => ?_) ?_; rotate_left; (focus (first | (go_simp; rfl) | (go_simp; done))); go_simp; refine hK _ ?_; clear hK K'
  refine O_call rfl (fun K' hK => ?_); refine R_alone (.int .u8 ((nth M 0 : Nat) : Int)) rfl ?_ ?_
  · go_simp; done
  refine hK _ _ q5 ?_
  clear hK K'
  go_simp
  have hbb : (decide (0 ≤ n) == decide (0 ≤ n)) = true := by simp
  generalize decide (0 ≤ n) = D at *
  repeat (refine O_read rfl (by assumption) (fun K' hK => ?_); refine R_pure ?_ rfl (fun w => ?_) ?_; rotate_left; (focus (first | (go_simp; rfl) | (go_simp; done))); go_simp; refine hK _ ?_; clear hK K')
  refine O_nil ?_
  go_wp2
  exact bodyPost_ret (results_tmp rfl _ _ _) rfl ⟨rfl, q6.out⟩
end Go.Proofs.YtbmhmaejakjieaaDoor
