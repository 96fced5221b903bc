/- The walk of few. -/
import Derived.Test.YtbmhmaejakjieaaDoorQa
import Derived.Test.YtbmhmaejakjieaaDoorLb
namespace Go.Proofs.YtbmhmaejakjieaaDoor
open Go.RowKit

/-- Fields that came in. -/
def FIn (w : World) (v : Value) (l : List Fld) : Prop :=
  ∃ a c, v = .slice a l.length c ∧ (l = [] ∨ ∃ b off, a = some ⟨b, off, none⟩ ∧ b < w.heap.size ∧
    ∀ j, j < l.length → w.cell? ⟨b, off + j * 2, none⟩ = some (.int .i64 (nthF l j).1) ∧ ∃ u, w.cell? ⟨b, off + j * 2 + 1, none⟩ = some u ∧ In w u (nthF l j).2)

theorem OwnF.fin {w : World} {N : Nat} {v : Value} {l : List Fld} (h : OwnF w N v l) : FIn w v l := by
  obtain ⟨R, rfl, h2, h3⟩ := h
  rcases h2.2 with ⟨h, h0⟩ | ⟨g, cap, cur, h, _, hg, _⟩
  · exact ⟨none, 0, by rw [h, List.length_map, h0], Or.inl (by rw [List.eq_nil_of_length_eq_zero h0]; rfl)⟩
  · refine ⟨_, cap, by rw [h, List.length_map], Or.inr ⟨g, 0, rfl, (Array.getElem?_eq_some_iff.1 hg).1, fun j hj => ?_⟩⟩
    rw [List.length_map] at hj
    rw [h] at h2
    obtain ⟨e1, e2⟩ := cellsF_get R j hj
    rw [nthF_map hj, Nat.zero_add]
    refine ⟨?_, (R[j]).2, ?_, (h3 _ (List.getElem_mem hj)).in⟩
    · rw [World.ownsRow.cellAt h2 (j * 2) (by omega)]; exact e1
    · rw [World.ownsRow.cellAt h2 (j * 2 + 1) (by omega)]; exact e2

theorem OwnF.lit0 (w : World) (N : Nat) (h : N ≤ w.heap.size) : OwnF (w.alloc (.cells #[] 54)) N (.slice (some ⟨w.heap.size, 0, none⟩) 0 0) [] :=
  ⟨[], rfl, World.ownsRow_lit (e := 54) (size := 2) (base := N) w #[] 0 h (by decide) rfl, fun r hr => by simp at hr⟩

/-- What few keeps of fields. -/
def fewF : Nat → Nat → List Fld → List Fld
  | _, _, [] => []
  | _, 0, _ => []
  | left, k + 1, p :: l => (p.1, (p.2.take 4097).take left) :: fewF (left - ((p.2.take 4097).take left).length) k l

def sumS (l : List Fld) : Nat := (l.map fun p => p.2.length).foldr (· + ·) 0

theorem sumS_cons (p : Fld) (l : List Fld) : sumS (p :: l) = p.2.length + sumS l := rfl

theorem fewF_small : ∀ (l : List Fld) (left k : Nat), l.length ≤ k → (∀ p ∈ l, p.2.length ≤ 4097) → sumS l ≤ left → fewF left k l = l
  | [], left, k, _, _, _ => by cases k <;> rfl
  | p :: l, left, 0, h, _, _ => by simp at h
  | p :: l, left, k + 1, h, h2, h3 => by
    rw [sumS_cons] at h3
    have e1 : p.2.take 4097 = p.2 := List.take_of_length_le (h2 p (by simp))
    have e2 : p.2.take left = p.2 := List.take_of_length_le (by omega)
    simp only [fewF, e1, e2]
    rw [fewF_small l _ k (by simpa using h) (fun y hy => h2 y (by simp [hy])) (by omega)]

theorem fewF_len : ∀ (l : List Fld) (left k : Nat), (fewF left k l).length ≤ k ∧ (∀ p ∈ fewF left k l, p.2.length ≤ 4097) ∧ sumS (fewF left k l) ≤ left
  | [], left, k => by cases k <;> simp [fewF, sumS]
  | p :: l, left, 0 => by simp [fewF, sumS]
  | p :: l, left, k + 1 => by
    have ih := fewF_len l (left - ((p.2.take 4097).take left).length) k
    have hl : ((p.2.take 4097).take left).length ≤ left := by rw [List.length_take]; omega
    have hl2 : ((p.2.take 4097).take left).length ≤ 4097 := by rw [List.length_take, List.length_take]; omega
    simp only [fewF]
    refine ⟨by simp only [List.length_cons]; omega, ?_, by rw [sumS_cons]; dsimp only; omega⟩
    intro y hy
    rcases List.mem_cons.1 hy with rfl | hy
    · exact hl2
    · exact ih.2.1 y hy

theorem fewF_twice (l : List Fld) : fewF 12288 257 (fewF 12288 257 l) = fewF 12288 257 l := by
  obtain ⟨h1, h2, h3⟩ := fewF_len l 12288 257
  exact fewF_small _ _ _ h1 h2 h3

theorem fewF_byt : ∀ (l : List Fld) (left k : Nat), (∀ p ∈ l, Byt p.2) → ∀ p ∈ fewF left k l, Byt p.2
  | [], left, k, _ => by cases k <;> simp [fewF]
  | p :: l, left, 0, _ => by simp [fewF]
  | p :: l, left, k + 1, h => by
    intro y hy
    simp only [fewF] at hy
    rcases List.mem_cons.1 hy with rfl | hy
    · intro z hz
      exact h p (by simp) z (List.mem_of_mem_take (List.mem_of_mem_take hz))
    · exact fewF_byt l _ k (fun z hz => h z (by simp [hz])) y hy

theorem nthF_lt {l : List Fld} {k : Nat} (h : k < l.length) : l.drop k = nthF l k :: l.drop (k + 1) := by
  rw [List.drop_eq_getElem_cons h]
  simp [nthF, List.getD_eq_getElem?_getD, List.getElem?_eq_getElem h]

section
variable {ops : Array Oper} {o : Oper} {a : Act} {w : World} {K' : Act → World → Prop}

/-- One field made. -/
theorem R_oneF (hw : Region.wanted o (yielded ops a.tmps) = true) (s : Operand) (ho : o.op = .buildSlice 22 1 #[(0, s)]) (t : Int) (a1 : Option Addr) (n c : Nat) (hs : a.eval s = .agg #[.int .i64 t, .slice a1 n c])
    (h : K' (a.put o.dst (.slice (some ⟨w.heap.size, 0, none⟩) 1 1)) (w.alloc (.cells #[.int .i64 t, .slice a1 n c] 54))) : opS Tryd.prog ops o K' a w := by
  have hr : (Instr.buildSlice 22 1 #[(0, .agg #[.int .i64 t, .slice a1 n c])]).run Tryd.prog w = .ok (.slice (some ⟨w.heap.size, 0, none⟩) 1 1) (w.alloc (.cells #[.int .i64 t, .slice a1 n c] 54)) := by go_simp
  refine .inl ⟨hw, ?_⟩
  unfold execOp
  simp only [ho, Sem.run_bind, Sem.run_pure, Result.andThen_ok, List.map_toArray, List.map_cons, List.map_nil, hs, hr, RunsTo]
  exact h

theorem R_appF (hw : Region.wanted o (yielded ops a.tmps) = true) (s x : Operand) (ho : o.op = .call { callee := .builtin .append, args := #[s, x], argTypes := #[22, 22] })
    (N : Nat) (v u : Value) (l : List Fld) (t : Int) (M : List Nat) (g c : Nat) (hs : a.eval s = v) (hx : a.eval x = .slice (some ⟨g, 0, none⟩) 1 c) (hown : OwnF w N v l) (hg : Has w g 54 #[.int .i64 t, u]) (hu : OwnB w N u M) (hlen : l.length ≤ 1000000) (hbase : N ≤ w.heap.size)
    (h : ∀ v' w', OwnF w' N v' (l ++ [(t, M)]) → w.grownBy w' v.ownBlock → K' (a.put o.dst v') w') : opS Tryd.prog ops o K' a w := by
  obtain ⟨v', w', hr, h2, h3⟩ := run_appF w o.type N v u l t M g c hown hg hu hlen hbase
  refine .inl ⟨hw, ?_⟩
  unfold execOp
  simp only [ho, resolve, invoke, builtin, Sem.run_bind, Sem.run_pure, Result.andThen_ok, List.map_toArray, List.map_cons, List.map_nil, hs, hx, hr, RunsTo]
  exact h v' w' h2 h3
end
end Go.Proofs.YtbmhmaejakjieaaDoor
