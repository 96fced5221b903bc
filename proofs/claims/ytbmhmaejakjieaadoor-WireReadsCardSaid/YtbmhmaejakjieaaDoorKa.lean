/- Helpers of this seat: blocks of unsigned 64-bit numbers in memory, numbers in base 2^64. -/
import Derived.WalkKit
import Derived.WalkSpells
import Derived.WalkLawsBesides
import Derived.Laws.AppendOwn
namespace Go.Proofs.YtbmhmaejakjieaaDoor
open Go.RowKit

/-- 2 to the 64. -/
def B : Nat := 18446744073709551616
theorem B_pos : 0 < B := by decide

/-- Block b holds the cells c, and none is frozen. -/
def Has (w : World) (b T : Nat) (c : Array Value) : Prop := w.heap[b]? = some (.cells c T (0, 0))

/-- The number at a place (0 beyond the end). -/
def nth (L : List Nat) (k : Nat) : Nat := L.getD k 0

/-- Numbers as cells. -/
def u64s (L : List Nat) : Array Value := (L.map (fun n => Value.int .u64 ((n : Nat) : Int))).toArray

theorem u64s_size (L : List Nat) : (u64s L).size = L.length := by simp [u64s]

theorem u64s_get {L : List Nat} {k : Nat} (h : k < L.length) : (u64s L)[k]? = some (.int .u64 ((nth L k : Nat) : Int)) := by
  simp [u64s, nth, List.getElem?_eq_getElem h]

theorem Has.lt {w : World} {b T : Nat} {c : Array Value} (h : Has w b T c) : b < w.heap.size := by
  unfold Has at h
  exact (Array.getElem?_eq_some_iff.1 h).1

theorem Has.cell {w : World} {b T : Nat} {L : List Nat} (h : Has w b T (u64s L)) {k : Nat} (hk : k < L.length) :
    w.cell? ⟨b, k, none⟩ = some (.int .u64 ((nth L k : Nat) : Int)) := by
  unfold Has at h
  simp [World.cell?, h, u64s_get hk]

theorem Has.free {w : World} {b T : Nat} {c : Array Value} (h : Has w b T c) (k : Nat) : w.frozen? ⟨b, k, none⟩ = false := by
  unfold Has at h
  simp [World.frozen?, h]

theorem u64s_set (L : List Nat) (k v : Nat) : (u64s L).setIfInBounds k (.int .u64 ((v : Nat) : Int)) = u64s (L.set k v) := by
  simp [u64s, List.map_set]

theorem Has.set {w : World} {b T : Nat} {L : List Nat} (h : Has w b T (u64s L)) (k v : Nat) :
    Has (w.setCell ⟨b, k, none⟩ (.int .u64 ((v : Nat) : Int))) b T (u64s (L.set k v)) := by
  unfold Has at *
  rw [← u64s_set]
  exact heap_setCell_same w b k _ T _ h

theorem Has.other {w : World} {b T : Nat} {c : Array Value} (h : Has w b T c) {a : Addr} (hne : b ≠ a.block) (v : Value) : Has (w.setCell a v) b T c := by
  unfold Has at *
  rw [heap_setCell_other w a b v hne]; exact h

theorem Has.drew {w : World} {b T : Nat} {c : Array Value} (h : Has w b T c) : Has w.drew b T c := h

theorem Has.alloc {w : World} {b T : Nat} {c : Array Value} (h : Has w b T c) (o : Obj) : Has (w.alloc o) b T c := by
  have hl := h.lt
  unfold Has at *
  rw [Below.heap_alloc w o b hl]; exact h

theorem Has.new (w : World) (c : Array Value) (T : Nat) : Has (w.alloc (.cells c T)) w.heap.size T c := by
  unfold Has
  exact heap_alloc_new w _

theorem Has.below {w w' : World} {b T n : Nat} {c : Array Value} (h : Has w b T c) (hb : Below n w w') (hn : b < n) : Has w' b T c := by
  unfold Has at *
  rw [hb.block b hn]; exact h

/-- Numbers of 64 bits at a place in memory. -/
def Seg (w : World) (b off : Nat) (L : List Nat) : Prop := ∀ j, j < L.length → w.cell? ⟨b, off + j, none⟩ = some (.int .u64 ((nth L j : Nat) : Int))

theorem Has.seg {w : World} {b T : Nat} {L : List Nat} (h : Has w b T (u64s L)) : Seg w b 0 L := fun j hj => by rw [Nat.zero_add]; exact h.cell hj

theorem Seg.at {w : World} {b : Nat} {L : List Nat} (h : Seg w b 0 L) {j : Nat} (hj : j < L.length) : w.cell? ⟨b, j, none⟩ = some (.int .u64 ((nth L j : Nat) : Int)) := by
  have := h j hj
  rwa [Nat.zero_add] at this

theorem Seg.below {w w' : World} {b off n : Nat} {L : List Nat} (h : Seg w b off L) (hb : Below n w w') (hn : b < n) : Seg w' b off L := fun j hj => by
  rw [hb.cell (p := ⟨b, off + j, none⟩) hn]; exact h j hj

theorem Seg.lt {w : World} {b off : Nat} {L : List Nat} (h : Seg w b off L) (hl : 0 < L.length) : b < w.heap.size :=
  World.block_lt_of_cell? w ⟨b, off + 0, none⟩ (h 0 hl)

theorem Seg.drew {w : World} {b off : Nat} {L : List Nat} (h : Seg w b off L) : Seg w.drew b off L := h

theorem Seg.alloc {w : World} {b off : Nat} {L : List Nat} (h : Seg w b off L) (o : Obj) : Seg (w.alloc o) b off L := fun j hj => by
  have hl : b < w.heap.size := h.lt (by omega)
  have := h j hj
  rw [World.cell?_of_block (w := w) (a := ⟨b, off + j, none⟩) (Below.heap_alloc w o b hl)]; exact this

theorem Seg.other {w : World} {b off : Nat} {L : List Nat} (h : Seg w b off L) {a : Addr} (hne : b ≠ a.block) (v : Value) : Seg (w.setCell a v) b off L := fun j hj => by
  rw [World.cell?_of_block (w := w) (a := ⟨b, off + j, none⟩) (Below.heap_setCell w a v b hne)]; exact h j hj

theorem Seg.grown {w w' : World} {b off : Nat} {L : List Nat} {row : Option Nat} (h : Seg w b off L) (hg : w.grownBy w' row) (hne : some b ≠ row) : Seg w' b off L := fun j hj =>
  hg.cell (h j hj) hne

theorem Has.grown {w w' : World} {b T : Nat} {c : Array Value} {row : Option Nat} (h : Has w b T c) (hg : w.grownBy w' row) (hne : some b ≠ row) : Has w' b T c := by
  have hl := h.lt
  unfold Has at *
  rw [hg.block b hl hne]; exact h

/-- Behind a call. -/
theorem bcall {N : Nat} {w u v : World} (h : Below N w u) (hb : Below u.heap.size u v) (hN : N ≤ u.heap.size) : Below N w v := h.trans (hb.mono hN)

end Go.Proofs.YtbmhmaejakjieaaDoor
