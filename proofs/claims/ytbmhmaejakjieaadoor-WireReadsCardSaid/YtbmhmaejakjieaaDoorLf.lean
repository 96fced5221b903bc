/- The walk of sameLists where the lists are the same. -/
import Derived.Test.YtbmhmaejakjieaaDoorLe
namespace Go.Proofs.YtbmhmaejakjieaaDoor
open Go.RowKit

theorem In.string {w : World} {v : Value} {L : List Nat} (h : In w v L) : (convert 23 9 v).run Tryd.prog w = .ok (.string (str L)) w := by
  by_cases h0 : L = []
  · subst h0
    obtain ⟨a, c, rfl, _⟩ := h
    cases a with
    | none => exact run_convert_bytes_nil w 23 5 und23s und5 0 c 9 und9
    | some x =>
      have hl : (loadCells x 0).run Tryd.prog w = .ok (([] : List Int).map (Value.int .u8)).toArray w := by
        have := run_loadCells_list (P := Tryd.prog) w x (([] : List Int).map (Value.int .u8)) (fun j v hj => by simp at hj)
        simpa using this
      show (convert 23 9 (.slice (some x) 0 c)).run Tryd.prog w = _
      rw [run_convert_bytes_string w 23 9 5 _ 0 c und23s und5 und9, run_bytesToString w x 0 c [] hl, foldl_push_bytes]
      rfl
  · exact (h.bv h0).string

set_option maxHeartbeats 400000 in
/-- SameBytes of what came in. -/
theorem same_inD (v1 v2 : Value) (L M : List Nat) (w : World) (h1 : In w v1 L) (h2 : In w v2 M) (hL : Byt L) (hM : Byt M) :
    Calls Tryd.prog 15 #[v1, v2] w fun e w' => e = .returned (.bool (decide (L = M))) ∧ w = w' := by
  have e1 := h1.string
  have e2 := h2.string
  have hq := str_beq hL hM
  clear h1 h2 hL hM
  generalize decide (L = M) = D at *
  go_enter Tryd.func15, Tryd.ntmps15
  go_wp2
  go_ret
  exact ⟨rfl, rfl⟩

theorem same_in (v1 v2 : Value) (L : List Nat) (w : World) (h1 : In w v1 L) (h2 : In w v2 L) (hL : Byt L) :
    Calls Tryd.prog 15 #[v1, v2] w fun e w' => e = .returned (.bool true) ∧ w = w' := by
  have := same_inD v1 v2 L L w h1 h2 hL hL
  simpa using this

set_option maxHeartbeats 2000000 in
set_option maxRecDepth 100000 in
theorem sameLists_any (l : List (List Nat)) (v1 v2 : Value) (w : World) (h1 : LV w v1 l) (h2 : LV w v2 l) (hb : ∀ x ∈ l, Byt x) (hl : l.length ≤ 100000) :
    Calls Tryd.prog 26 #[v1, v2] w fun e w' => e = .returned (.bool true) ∧ Below w.heap.size w w' := by
  obtain ⟨a1, c1, rfl, hs1⟩ := h1
  obtain ⟨a2, c2, rfl, hs2⟩ := h2
  have HS1 := Lib.hid hs1; have HS2 := Lib.hid hs2; have HB := Lib.hid hb; have HL := Lib.hid hl
  clear hs1 hs2 hb hl
  go_enter Tryd.func26, Tryd.ntmps26
  go_wp2
  go_loopw [5] (fun i wr => ∃ (k : Nat), k ≤ l.length ∧ i = .int .i64 k ∧ Below w.heap.size w wr) (fun i _ => l.length - (intOf i).toNat)
  case atStart => exact ⟨0, by omega, rfl, Below.refl _ _⟩
  case round =>
    obtain ⟨k, hk, rfl, hbel⟩ := hrel
    have Hb := Lib.hid hbel
    clear hbel
    by_cases hlt : k < l.length
    · have hd1 : decide ((k : Int) < (l.length : Int)) = true := by simp; omega
      have hkl : (k : Int) < (l.length : Int) := by omega
      have hkk : (k : Int) < 100000 := by have := HL.out; omega
      obtain ⟨b1, off1, rfl, hbl1, hs1⟩ : ∃ b off, a1 = some ⟨b, off, none⟩ ∧ b < w.heap.size ∧ SegL w b off l := by
        rcases HS1.out with h | h
        · rw [h] at hlt; simp at hlt
        · exact h
      obtain ⟨b2, off2, rfl, hbl2, hs2⟩ : ∃ b off, a2 = some ⟨b, off, none⟩ ∧ b < w.heap.size ∧ SegL w b off l := by
        rcases HS2.out with h | h
        · rw [h] at hlt; simp at hlt
        · exact h
      obtain ⟨x1, e1, i1⟩ := hs1 k hlt
      obtain ⟨x2, e2, i2⟩ := hs2 k hlt
      have hby : Byt (nthL l k) := HB.out _ (by
        unfold nthL
        rw [List.getD_eq_getElem?_getD, List.getElem?_eq_getElem hlt]
        exact List.getElem_mem hlt)
      have Hi1 := Lib.hid i1; have Hi2 := Lib.hid i2; have Hby := Lib.hid hby
      clear hs1 hs2 i1 i2 hby
      go_wp2
      have q0 : Kp w wr.drew := Hb.out.drew
      refine wp_region_ord (Kp w) [(true, 0), (true, 1), (true, 2), (true, 3), (true, 4), (true, 5), (true, 6), (true, 7), (false, 8), (true, 9)] (by kernel_rfl) (by kernel_rfl) rfl (by kernel_rfl) ?_
      iterate 8 (first
        | (refine O_read rfl (by assumption) (fun K' hK => ?_); refine R_pure ?_ rfl (fun w => ?_) ?_; rotate_left; (focus (first | (go_simp; rfl) | (go_simp; done))); go_simp; refine hK _ ?_; clear hK K')
        | (refine O_read rfl (by assumption) (fun K' hK => ?_); refine R_read x1 rfl (fun w hS => ?_) ?_; (focus (have hc := (hS.cell (p := ⟨b1, off1 + k, none⟩) hbl1).trans e1; go_simp; done)); go_simp; refine hK _ ?_; clear hK K')
        | (refine O_read rfl (by assumption) (fun K' hK => ?_); refine R_read x2 rfl (fun w hS => ?_) ?_; (focus (have hc := (hS.cell (p := ⟨b2, off2 + k, none⟩) hbl2).trans e2; go_simp; done)); go_simp; refine hK _ ?_; clear hK K'))
      refine O_call rfl (fun K' hK => ?_)
      refine R_callc 15 _ rfl (fun w => ?_) (same_in x1 x2 (nthL l k) wr.drew (Hi1.out.below q0) (Hi2.out.below q0) Hby.out) ?_
      · go_simp; done
      rintro e w4 ⟨rfl, rfl⟩
      refine ⟨_, rfl, hK _ _ q0 ?_⟩
      clear hK K'
      go_simp
      refine O_read rfl (by assumption) (fun K' hK => ?_); refine R_pure ?_ rfl (fun w => ?_) ?_; rotate_left; (focus (first | (go_simp; rfl) | (go_simp; done))); go_simp; refine hK _ ?_; clear hK K'
      refine O_nil ?_
      have Hq0 := Lib.hid q0
      clear q0
      go_wp2
      exact ⟨⟨k + 1, by omega, by go_num, Hq0.out⟩, by simp [intOf]; omega⟩
    · obtain rfl : k = l.length := by omega
      have hd1 : decide ((l.length : Int) < (l.length : Int)) = false := by simp
      go_wp2
      exact bodyPost_ret (results_tmp rfl _ _ _) rfl ⟨rfl, Hb.out⟩
end Go.Proofs.YtbmhmaejakjieaaDoor
