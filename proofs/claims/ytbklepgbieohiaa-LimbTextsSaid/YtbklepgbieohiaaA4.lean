/- The walk of base.Bytes: a copy. -/
import Derived.Test.YtbklepgbieohiaaG3
namespace Go.Proofs.Ytbklepgbieohiaa
open Go.RowKit

theorem OwnB.empty (w : World) : OwnB (w.alloc (.cells #[] 5)) w.heap.size (.slice (some ⟨w.heap.size, 0, none⟩) 0 0) [] :=
  ⟨rfl, .inr ⟨w.heap.size, 0, #[], rfl, Nat.le_refl _, Has.new w #[] 5, by simp, by simp [maxLen], rfl, rfl⟩⟩

set_option maxRecDepth 100000 in
theorem copy_some (b off c : Nat) (L : List Nat) (hn : L.length ≤ 1000) (w : World) (hs : SegB w b off L) :
    Calls Try.prog 30 #[.slice (some ⟨b, off, none⟩) L.length c] w fun e w' => ∃ v, e = .returned v ∧ BV w' v L ∧ Below w.heap.size w w' := by
  have hO := Lib.hid (OwnB.empty w)
  have hS := Lib.hid (hs.alloc (.cells #[] 5))
  go_enter Try.func30, Try.ntmps30
  go_wp2_with (refine app28 rfl _ _ rfl w.heap.size _ [] rfl hO.out b off L.length c L rfl rfl hS.out (by simp; omega) (by simp) ?_; intro v2 w2 ho2 hg2)
  go_ret
  refine ⟨_, rfl, ho2.bv, ((Below.refl _ _).alloc (Nat.le_refl _) _).grown hg2 (by simp) (fun j hj => ?_)⟩
  have h1 : (some w.heap.size : Option Nat) = some j := hj
  simp at h1
  omega

set_option maxRecDepth 100000 in
theorem copy_nil (w : World) : Calls Try.prog 30 #[.slice none 0 0] w fun e w' => ∃ v, e = .returned v ∧ BV w' v [] ∧ Below w.heap.size w w' := by
  go_enter Try.func30, Try.ntmps30
  go_wp2
  go_ret
  exact ⟨_, rfl, Or.inr ⟨w.heap.size, 0, 0, rfl, fun j hj => by simp at hj⟩, (Below.refl _ _).alloc (Nat.le_refl _) _⟩

theorem copy_any (v : Value) (L : List Nat) (hn : L.length ≤ 1000) (w : World) (hv : BV w v L) :
    Calls Try.prog 30 #[v] w fun e w' => ∃ v, e = .returned v ∧ BV w' v L ∧ Below w.heap.size w w' := by
  rcases hv with ⟨rfl, rfl⟩ | ⟨b, off, c, rfl, hs⟩
  · exact copy_nil w
  · exact copy_some b off c L hn w hs
end Go.Proofs.Ytbklepgbieohiaa
