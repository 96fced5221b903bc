/- The walk of works. -/
import Derived.Test.YtbmhmaejakjieaaDoorRb
namespace Go.Proofs.YtbmhmaejakjieaaDoor
open Go.RowKit

theorem OwnB.rd {w : World} {N : Nat} {v : Value} {L : List Nat} (h : OwnB w N v L) : Rd w v L := by
  rcases h.form with ⟨rfl, rfl⟩ | ⟨g, c, rfl, _, h2, h3, _, h4, _⟩
  · exact ⟨⟨none, 0, rfl⟩, Or.inl rfl⟩
  · exact ⟨⟨_, _, rfl⟩, Or.inr ⟨g, 0, c, rfl, h3, h2, h4⟩⟩

def exB : List Nat := [1, 0, 2, 7, 8, 3, 0, 0]
def exF : List Fld := [(1, [7, 8]), (3, [])]

theorem exF_ok : okF exF := by
  refine ⟨by decide, ?_, by decide⟩
  intro j hj
  match j, hj with
  | 0, _ => exact ⟨by decide, by decide, by decide⟩
  | 1, _ => exact ⟨by decide, by decide, by decide⟩
  | j + 2, hj => simp [exF] at hj; omega

theorem exF_seg (w : World) (g : Nat) (hw : Has w g 5 #[.int .u8 7, .int .u8 8]) (h : Nat) (hh : Has w h 54 #[.int .i64 1, .slice (some ⟨g, 0, none⟩) 2 2, .int .i64 3, .slice none 0 0]) : FV w (.slice (some ⟨h, 0, none⟩) 2 2) exF := by
  have hl := hh.lt
  refine Or.inr ⟨h, 0, 2, rfl, hl, ?_⟩
  intro j hj
  unfold Has at hh
  match j, hj with
  | 0, _ =>
    refine ⟨by simp [World.cell?, hh, nthF, exF], _, by simp [World.cell?, hh]; rfl, Or.inr ⟨g, 0, 2, rfl, ?_⟩⟩
    exact (show Has w g 5 (u8s [7, 8]) from hw).segB
  | 1, _ => exact ⟨by simp [World.cell?, hh, nthF, exF], _, by simp [World.cell?, hh], Or.inl ⟨rfl, rfl⟩⟩
  | j + 2, hj => simp [exF] at hj; omega

theorem put_ex (w : World) (v : Value) (hv : FV w v exF) :
    Calls Tryd.prog 12 #[v] w fun e w' => ∃ v', e = .returned (.tuple #[v', .int .i64 0]) ∧ Below w.heap.size w w' ∧ OwnB w' w.heap.size v' exB := put_good exF exF_ok w v hv

theorem read_ex (w : World) (v : Value) (hv : Rd w v exB) :
    Calls Tryd.prog 13 #[v] w fun e w' => ∃ a c, e = .returned (.tuple #[.slice a 2 c, .int .i64 0]) ∧ Below w.heap.size w w' := by
  have e : readF exB.length 0 exB = some [(1, [7, 8]), (3, [])] := by decide
  refine (read_any exB (by intro x hx; revert x; decide) (by decide) w v hv (fun h => by rw [e] at h; simp at h)).mono ?_
  rintro e' w' ⟨v', n, rfl, hb, h⟩
  rcases h with ⟨l, h1, rfl, h2⟩ | ⟨h1, _⟩
  · rw [e] at h1
    simp only [Option.some.injEq] at h1
    subst h1
    obtain ⟨a, c, h3⟩ := h2.form
    exact ⟨a, c, by rw [h3]; rfl, hb⟩
  · rw [e] at h1; simp at h1

set_option maxHeartbeats 1000000 in
set_option maxRecDepth 100000 in
theorem works_any (w : World) : Calls Tryd.prog 9 #[] w fun e w' => e = .returned (.bool true) ∧ Below w.heap.size w w' := by
  have hA := (Has.newAt (w := w) #[.int .u8 7, .int .u8 8] 5 rfl).alloc (.cells #[.int .i64 1, .slice (some ⟨w.heap.size, 0, none⟩) 2 2, .int .i64 3, .slice none 0 0] 54)
  have hB := Has.newAt (w := w.alloc (.cells #[.int .u8 7, .int .u8 8] 5)) (n := w.heap.size + 1) #[.int .i64 1, .slice (some ⟨w.heap.size, 0, none⟩) 2 2, .int .i64 3, .slice none 0 0] 54 (by simp)
  have HF := Lib.hid (exF_seg _ _ hA _ hB)
  have HB := Lib.hid (((Below.refl w.heap.size w).alloc (Nat.le_refl _) (.cells #[.int .u8 7, .int .u8 8] 5)).alloc (by simp) (.cells #[.int .i64 1, .slice (some ⟨w.heap.size, 0, none⟩) 2 2, .int .i64 3, .slice none 0 0] 54))
  clear hA hB
  have hex : decide (exB = [1, 0, 2, 7, 8, 3, 0, 0]) = true := by decide
  go_enter Tryd.func9, Tryd.ntmps9
  go_wp2_with (first
    | (go_at_call 12; refine (put_ex _ _ HF.out).mono ?_; rintro e w1 ⟨v1, rfl, hb1, ho1⟩; have HB1 := Lib.hid (bcall HB.out hb1 HB.out.size); have HO1 := Lib.hid ho1; clear hb1 ho1)
    | (go_at_call 13; refine (read_ex _ _ HO1.out.rd).mono ?_; rintro e w2 ⟨a2, c2, rfl, hb2⟩; have HB2 := Lib.hid (bcall HB1.out hb2 HB1.out.size); have HO2 := Lib.hid (HO1.out.below hb2); clear hb2)
    | (go_at_call 15; refine (same_any _ _ exB exB _ ((HO2.out.alloc _).bv) (Or.inr ⟨_, 0, 8, rfl, seg_newB w2 exB 5 rfl⟩) (by intro x hx; revert x; decide) (by intro x hx; revert x; decide)).mono ?_; rintro e w3 ⟨rfl, rfl⟩; simp only [decide_true]))
  exact bodyPost_ret (results_tmp rfl _ _ _) rfl ⟨rfl, HB2.out.alloc HB2.out.size _⟩
end Go.Proofs.YtbmhmaejakjieaaDoor
