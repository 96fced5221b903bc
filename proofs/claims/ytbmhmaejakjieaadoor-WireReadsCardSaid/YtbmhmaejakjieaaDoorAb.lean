/- The walk of wire.number at an error of the package's own. -/
import Derived.Test.YtbmhmaejakjieaaDoorAa
import Derived.Test.YtbmhmaejakjieaaDoorCa
namespace Go.Proofs.YtbmhmaejakjieaaDoor
open Go.RowKit

/-- The variable's one cell. -/
def Hnd (w : World) : Prop := w.cell? ⟨0, 0, none⟩ = some (.iface 81 (.agg #[.pointer (some ⟨1, 56, none⟩)]))

theorem Hnd.lt {w : World} (h : Hnd w) : 0 < w.heap.size := World.block_lt_of_cell? w ⟨0, 0, none⟩ h

theorem Hnd.below {w w' : World} {n : Nat} (h : Hnd w) (hb : Below n w w') (hn : 0 < n) : Hnd w' := by
  unfold Hnd at *
  rw [hb.cell (p := ⟨0, 0, none⟩) hn]; exact h

theorem as_any (g : Nat) (t : Addr) (old : Value) (w : World) (hg : Hnd w) (ht0 : w.cell? t = some old) (hf0 : w.frozen? t = false) :
    Calls Tryd.prog 35 #[.iface 63 (.pointer (some ⟨g, 0, none⟩)), .iface 67 (.pointer (some t))] w fun ev w' => ev = .returned (.bool true) ∧ Below t.block w w' ∧ w'.cell? t = some (.pointer (some ⟨g, 0, none⟩)) ∧ (∀ b, b ≠ t.block → b < w.heap.size → w'.heap[b]? = w.heap[b]?) := by
  have htl : t.block < w.heap.size := World.block_lt_of_cell? w t ht0
  refine (as_hit ⟨g, 0, none⟩ t old w hg ht0 hf0).mono ?_
  rintro ev w' ⟨rfl, rfl⟩
  refine ⟨rfl, ?_, ?_, ?_⟩
  · exact (((((Below.refl t.block w).alloc (by omega) _).alloc (by simp; omega) _).alloc (by simp; omega) _).alloc (by simp; omega) _).setCell (Nat.le_refl _) _
  · have h4 : (((((w.alloc (.cells #[.pointer (some t)] 67)).alloc (.cells #[.pointer (some ⟨1, 67, none⟩), .pointer (some ⟨w.heap.size, 0, none⟩), .int .u64 150] 71)).alloc (.cells #[.pointer (some ⟨1, 67, none⟩), .pointer (some ⟨w.heap.size, 0, none⟩), .int .u64 150] 71)).alloc (.cells #[.pointer (some ⟨g, 0, none⟩)] 63)).cell? t) = some old := by
      rw [World.cell?_alloc_lt _ _ t (by simp; omega), World.cell?_alloc_lt _ _ t (by simp; omega), World.cell?_alloc_lt _ _ t (by simp; omega), World.cell?_alloc_lt _ _ t htl]; exact ht0
    exact World.cell?_setCell_same _ _ _ h4
  · intro b hb1 hb2
    rw [heap_setCell_other _ t b _ hb1, Below.heap_alloc _ _ b (by simp; omega), Below.heap_alloc _ _ b (by simp; omega), Below.heap_alloc _ _ b (by simp; omega), Below.heap_alloc _ _ b hb2]

set_option maxHeartbeats 1000000 in
set_option maxRecDepth 100000 in
theorem number_any (N : Nat) (u : Value) (e : Int) (w : World) (hh : Hnd w) (hf : FaultV w N u e) :
    Calls Tryd.prog 33 #[u] w fun r w' => r = .returned (.int .i64 e) ∧ Below w.heap.size w w' := by
  obtain ⟨g, at_, rfl, hN, hH⟩ := hf
  have HH := Lib.hid hH; have Hh := Lib.hid hh
  have ha := Lib.hid (as_any g ⟨w.heap.size, 0, none⟩ (.pointer none) (w.alloc (.cells #[.pointer none] 63)) (hh.below ((Below.refl _ w).alloc (Nat.le_refl _) _) hh.lt) (by simp) (by simp))
  clear hh hH
  go_enter Tryd.func33, Tryd.ntmps33
  go_wp2_with (go_at_call 35; refine ha.out.mono ?_; rintro ev w1 ⟨rfl, hb, hc, hk⟩
               have hH1 : Has w1 g 65 #[.int .i64 at_, .int .i64 e] := by
                 have hl := HH.out.lt
                 unfold Has
                 rw [hk g (by simp; omega) (by simp; omega)]
                 exact HH.out.alloc _
               have hc1 : w1.cell? ⟨g, 1, none⟩ = some (.int .i64 e) := by unfold Has at hH1; simp [World.cell?, hH1]
               have HB := Lib.hid (show Below w.heap.size w w1 from ((Below.refl _ w).alloc (Nat.le_refl _) _).trans hb)
               clear hb hk hH1)
  exact bodyPost_ret (results_tmp rfl _ _ _) rfl ⟨rfl, HB.out⟩
end Go.Proofs.YtbmhmaejakjieaaDoor
