/- Bytes in memory: the laws of K and W at bytes. -/
import Derived.Test.YtbmhmaejakjieaaDoorWa
namespace Go.Proofs.YtbmhmaejakjieaaDoor
open Go.RowKit

/-- Numbers as cells. -/
def u8s (L : List Nat) : Array Value := (L.map (fun n => Value.int .u8 ((n : Nat) : Int))).toArray

theorem u8s_size (L : List Nat) : (u8s L).size = L.length := by simp [u8s]

theorem u8s_get {L : List Nat} {k : Nat} (h : k < L.length) : (u8s L)[k]? = some (.int .u8 ((nth L k : Nat) : Int)) := by
  simp [u8s, nth, List.getElem?_eq_getElem h]

theorem Has.cellB {w : World} {b T : Nat} {L : List Nat} (h : Has w b T (u8s L)) {k : Nat} (hk : k < L.length) :
    w.cell? ⟨b, k, none⟩ = some (.int .u8 ((nth L k : Nat) : Int)) := by
  unfold Has at h
  simp [World.cell?, h, u8s_get hk]

theorem u8s_set (L : List Nat) (k v : Nat) : (u8s L).setIfInBounds k (.int .u8 ((v : Nat) : Int)) = u8s (L.set k v) := by
  simp [u8s, List.map_set]

theorem Has.setB {w : World} {b T : Nat} {L : List Nat} (h : Has w b T (u8s L)) (k v : Nat) :
    Has (w.setCell ⟨b, k, none⟩ (.int .u8 ((v : Nat) : Int))) b T (u8s (L.set k v)) := by
  unfold Has at *
  rw [← u8s_set]
  exact heap_setCell_same w b k _ T _ h


/-- Bytes at a place in memory. -/
def SegB (w : World) (b off : Nat) (L : List Nat) : Prop := ∀ j, j < L.length → w.cell? ⟨b, off + j, none⟩ = some (.int .u8 ((nth L j : Nat) : Int))

theorem Has.segB {w : World} {b T : Nat} {L : List Nat} (h : Has w b T (u8s L)) : SegB w b 0 L := fun j hj => by rw [Nat.zero_add]; exact h.cellB hj

theorem SegB.at {w : World} {b : Nat} {L : List Nat} (h : SegB w b 0 L) {j : Nat} (hj : j < L.length) : w.cell? ⟨b, j, none⟩ = some (.int .u8 ((nth L j : Nat) : Int)) := by
  have := h j hj
  rwa [Nat.zero_add] at this

theorem SegB.below {w w' : World} {b off n : Nat} {L : List Nat} (h : SegB w b off L) (hb : Below n w w') (hn : b < n) : SegB w' b off L := fun j hj => by
  rw [hb.cell (p := ⟨b, off + j, none⟩) hn]; exact h j hj

theorem SegB.lt {w : World} {b off : Nat} {L : List Nat} (h : SegB w b off L) (hl : 0 < L.length) : b < w.heap.size :=
  World.block_lt_of_cell? w ⟨b, off + 0, none⟩ (h 0 hl)

theorem SegB.drew {w : World} {b off : Nat} {L : List Nat} (h : SegB w b off L) : SegB w.drew b off L := h

theorem SegB.alloc {w : World} {b off : Nat} {L : List Nat} (h : SegB w b off L) (o : Obj) : SegB (w.alloc o) b off L := fun j hj => by
  have hl : b < w.heap.size := h.lt (by omega)
  have := h j hj
  rw [World.cell?_of_block (w := w) (a := ⟨b, off + j, none⟩) (Below.heap_alloc w o b hl)]; exact this

theorem SegB.other {w : World} {b off : Nat} {L : List Nat} (h : SegB w b off L) {a : Addr} (hne : b ≠ a.block) (v : Value) : SegB (w.setCell a v) b off L := fun j hj => by
  rw [World.cell?_of_block (w := w) (a := ⟨b, off + j, none⟩) (Below.heap_setCell w a v b hne)]; exact h j hj

theorem SegB.grown {w w' : World} {b off : Nat} {L : List Nat} {row : Option Nat} (h : SegB w b off L) (hg : w.grownBy w' row) (hne : some b ≠ row) : SegB w' b off L := fun j hj =>
  hg.cell (h j hj) hne


/-- A slice of bytes that lies in a block of its own, from block N on. -/
def OwnB (w : World) (N : Nat) (v : Value) (L : List Nat) : Prop := w.ownsRow N 5 1 v L.length (L.map fun n => Value.int .u8 ((n : Nat) : Int))

theorem OwnB.nil (w : World) (N : Nat) : OwnB w N (.slice none 0 0) [] := World.ownsRow_nil w N 5 1

/-- The slice as a value, and what lies there. -/
theorem OwnB.form {w : World} {N : Nat} {v : Value} {L : List Nat} (h : OwnB w N v L) :
    (v = .slice none 0 0 ∧ L = []) ∨ ∃ g c, v = .slice (some ⟨g, 0, none⟩) L.length c ∧ N ≤ g ∧ g < w.heap.size ∧ L.length ≤ c ∧ c ≤ maxLen ∧ SegB w g 0 L ∧ (∀ j, w.frozen? ⟨g, j, none⟩ = false) := by
  rcases h.2 with ⟨h1, h2⟩ | ⟨g, cap, cur, h1, h2, h3, h4, h5, h6, h7⟩
  · exact Or.inl ⟨h1, List.eq_nil_of_length_eq_zero h2⟩
  · refine Or.inr ⟨g, cap, h1, h2, (Array.getElem?_eq_some_iff.1 h3).1, h4, h5, ?_, fun j => frozen_of_row w g j cur 5 h3⟩
    intro j hj
    have := World.ownsRow.cells h (g := g) (by rw [h1]; rfl) j (.int .u8 ((nth L j : Nat) : Int)) (by simp [nth, List.getElem?_eq_getElem hj])
    have hadd : (⟨g, 0, none⟩ : Addr).add j = ⟨g, 0 + j, none⟩ := by unfold Addr.add; split <;> simp_all
    rwa [hadd] at this

theorem info5 : (Tryd.prog.info? 5).map (fun i => (i.zero, i.size, i.bytes)) = some (some (.int .u8 0), 1, 1) := by kernel_rfl
theorem und23 : Tryd.prog.underlying 23 = some (.slice 5) := by kernel_rfl

section
variable {ops : Array Oper} {rest : List Oper} {o : Oper} {a : Act} {w : World} {K : Act → World → Prop} {Q : Exit → Act → World → Prop}

theorem wp_app23 (s x : Operand) (ho : o.op = .call { callee := .builtin .append, args := #[s, x], argTypes := #[23, 23] })
    (N : Nat) (v : Value) (L : List Nat) (hs : a.eval s = v) (hown : OwnB w N v L) (g off m c : Nat) (M : List Nat) (hx : a.eval x = .slice (some ⟨g, off, none⟩) m c)
    (hm : M.length = m) (hseg : SegB w g off M) (hlen : L.length + M.length ≤ 1099511627776) (hbase : N ≤ w.heap.size)
    (h : ∀ v' w', OwnB w' N v' (L ++ M) → w.grownBy w' v.ownBlock → K (a.put o.dst v') w') : o.wp Tryd.prog a w K Q := by
  obtain ⟨i0, hi, hz0, hz1, hz2⟩ := info_parts info5
  refine wp_append_own w s x 23 ho N 5 i0 (.int .u8 0) 1 1 und23 hi hz0 hz1 hz2 rfl (by decide) v L.length _ hs hown ⟨g, off, none⟩ m c (M.map fun n => Value.int .u8 ((n : Nat) : Int)) hx (by simp [hm]) ?_ ?_ ?_ ?_ hbase ?_
  · intro j u hu
    have hj : j < M.length := by
      rcases Nat.lt_or_ge j M.length with h1 | h1
      · exact h1
      · simp [List.getElem?_eq_none (show (M.map fun n => Value.int .u8 ((n : Nat) : Int)).length ≤ j by simpa using h1)] at hu
    have hadd : (⟨g, off, none⟩ : Addr).add j = ⟨g, off + j, none⟩ := by unfold Addr.add; split <;> simp_all
    rw [hadd, hseg j hj]
    simp [nth, List.getElem?_eq_getElem hj] at hu ⊢
    exact hu
  · intro u hu
    obtain ⟨n, _, rfl⟩ := List.mem_map.1 hu
    rfl
  · unfold maxLen; omega
  · omega
  · intro v' w' h1 h2 _
    refine h v' w' ?_ h2
    unfold OwnB
    rw [List.length_append, List.map_append, hm]; exact h1

theorem app23 (hgd : o.guard = none) (s x : Operand) (ho : o.op = .call { callee := .builtin .append, args := #[s, x], argTypes := #[23, 23] })
    (N : Nat) (v : Value) (L : List Nat) (hs : a.eval s = v) (hown : OwnB w N v L) (g off m c : Nat) (M : List Nat) (hx : a.eval x = .slice (some ⟨g, off, none⟩) m c)
    (hm : M.length = m) (hseg : SegB w g off M) (hlen : L.length + M.length ≤ 1099511627776) (hbase : N ≤ w.heap.size)
    (h : ∀ v' w', OwnB w' N v' (L ++ M) → w.grownBy w' v.ownBlock → wpList Tryd.prog ops Q rest (a.put o.dst v') w') : wpList Tryd.prog ops Q (o :: rest) a w :=
  wpList_plain hgd fun _ hK => wp_app23 s x ho N v L hs hown g off m c M hx hm hseg hlen hbase fun v' w' h1 h2 => hK _ _ (h v' w' h1 h2)

/-- The same as a step of a region that draws its order. -/
theorem step23 {E : Prop} (hgd : o.guard = none) (s x : Operand) (ho : o.op = .call { callee := .builtin .append, args := #[s, x], argTypes := #[23, 23] })
    (N : Nat) (v : Value) (L : List Nat) (hs : a.eval s = v) (hown : OwnB w N v L) (g off m c : Nat) (M : List Nat) (hx : a.eval x = .slice (some ⟨g, off, none⟩) m c)
    (hm : M.length = m) (hseg : SegB w g off M) (hlen : L.length + M.length ≤ 1099511627776) (hbase : N ≤ w.heap.size)
    (h : ∀ v' w', OwnB w' N v' (L ++ M) → w.grownBy w' v.ownBlock → K (a.put o.dst v') w') : if Region.wanted o (yielded ops a.tmps) = true then o.wp Tryd.prog a w K Q else E := by
  rw [if_pos (by simp [Region.wanted, hgd])]
  exact wp_app23 s x ho N v L hs hown g off m c M hx hm hseg hlen hbase h
end

theorem OwnB.grown {w w' : World} {N : Nat} {v : Value} {L : List Nat} (h : OwnB w N v L) {row : Option Nat} (hg : w.grownBy w' row) (hne : v.ownBlock = none ∨ v.ownBlock ≠ row) : OwnB w' N v L :=
  World.ownsRow.kept h hg hne
theorem OwnB.drew {w : World} {N : Nat} {v : Value} {L : List Nat} (h : OwnB w N v L) : OwnB w.drew N v L := h
theorem OwnB.alloc {w : World} {N : Nat} {v : Value} {L : List Nat} (h : OwnB w N v L) (o : Obj) : OwnB (w.alloc o) N v L := World.ownsRow.alloc h o
theorem OwnB.lt {w : World} {N : Nat} {v : Value} {L : List Nat} (h : OwnB w N v L) : ∀ k, v.ownBlock = some k → N ≤ k ∧ k < w.heap.size := World.ownsRow.lt h
/-- What such a slice does not touch. -/
theorem OwnB.ne {w : World} {N : Nat} {v : Value} {L : List Nat} (h : OwnB w N v L) {b : Nat} (hb : b < N) : some b ≠ v.ownBlock := fun e => by
  have := (h.lt b e.symm).1
  omega


theorem seg_newB (w : World) (M : List Nat) (T : Nat) {n : Nat} (h : n = w.heap.size) : SegB (w.alloc (.cells (u8s M) T)) n 0 M := (Has.newAt (u8s M) T h).segB

end Go.Proofs.YtbmhmaejakjieaaDoor
