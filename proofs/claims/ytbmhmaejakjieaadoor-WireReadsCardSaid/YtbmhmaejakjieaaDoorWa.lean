/- Laws of memory: one block turned. -/
import Derived.Test.YtbmhmaejakjieaaDoorKa
import Derived.Test.YtbmhmaejakjieaaDoorProg
import Derived.Lib.Hide
import Derived.Deep.WholeRow
import Derived.Laws.StructEq
namespace Go.Proofs.YtbmhmaejakjieaaDoor
open Go.RowKit

/-- Of w1 the block g alone may be another one than in w. -/
structure Only (g : Nat) (w w1 : World) : Prop where
  os : w1.os = w.os
  tape : w1.tape = w.tape
  output : w1.output = w.output
  size : w1.heap.size = w.heap.size
  block : ∀ k, k ≠ g → w1.heap[k]? = w.heap[k]?

theorem Only.below {g N : Nat} {v w w1 : World} (h : Only g w w1) (hb : Below N v w) (hg : N ≤ g) : Below N v w1 :=
  hb.trans ⟨h.os, h.tape, h.output, Nat.le_of_eq h.size.symm, fun k hk => h.block k (by omega)⟩

theorem Has.only {w w1 : World} {b T g : Nat} {c : Array Value} (h : Has w b T c) (o : Only g w w1) (hne : b ≠ g) : Has w1 b T c := by
  unfold Has at *
  rw [o.block b hne]; exact h

theorem Only.setRow (w : World) (g : Nat) (cs : Array Value) : Only g w (w.setRow g cs) :=
  ⟨rfl, rfl, rfl, by simp, fun k hk => setRow_other w g k cs hk⟩

theorem Has.setRow {w : World} {g T : Nat} {c : Array Value} (h : Has w g T c) (cs : Array Value) : Has (w.setRow g cs) g T cs := by
  unfold Has at *
  exact setRow_heap w g c cs T (0, 0) h

theorem Has.newAt {w : World} (c : Array Value) (T : Nat) {n : Nat} (h : n = w.heap.size) : Has (w.alloc (.cells c T)) n T c := by
  subst h; exact Has.new w c T

end Go.Proofs.YtbmhmaejakjieaaDoor
