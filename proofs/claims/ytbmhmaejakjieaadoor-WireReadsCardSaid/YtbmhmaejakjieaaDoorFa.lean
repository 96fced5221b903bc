/- A slice of fields of one's own: its laws, and append of one field. -/
import Derived.Test.YtbmhmaejakjieaaDoorPb
namespace Go.Proofs.YtbmhmaejakjieaaDoor
open Go.RowKit

theorem info54 : (Tryd.prog.info? 54).map (fun i => (i.zero, i.size, i.bytes)) = some (some (.agg #[.int .i64 0, .slice none 0 0]), 2, 32) := by kernel_rfl
theorem und22 : Tryd.prog.underlying 22 = some (.slice 54) := by kernel_rfl

def cellsF (R : List (Fld × Value)) : List Value := R.flatMap fun r => [.int .i64 r.1.1, r.2]

theorem cellsF_len (R : List (Fld × Value)) : (cellsF R).length = R.length * 2 := by
  induction R with
  | nil => rfl
  | cons r R ih => simp only [cellsF, List.flatMap_cons, List.length_append, List.length_cons] at *; simp [ih]; omega

theorem cellsF_get : ∀ (R : List (Fld × Value)) (j : Nat) (h : j < R.length), (cellsF R)[j * 2]? = some (.int .i64 (R[j]).1.1) ∧ (cellsF R)[j * 2 + 1]? = some (R[j]).2
  | [], j, h => by simp at h
  | r :: R, 0, _ => by simp [cellsF]
  | r :: R, j + 1, h => by
    have ih := cellsF_get R j (by simpa using h)
    have e1 : cellsF (r :: R) = .int .i64 r.1.1 :: r.2 :: cellsF R := by simp [cellsF]
    rw [e1, show (j + 1) * 2 = j * 2 + 1 + 1 by omega, List.getElem?_cons_succ, List.getElem?_cons_succ, List.getElem?_cons_succ, List.getElem?_cons_succ]
    simpa using ih

/-- Fields in a slice of one's own, each with bytes of its own. -/
def OwnF (w : World) (N : Nat) (v : Value) (l : List Fld) : Prop :=
  ∃ R : List (Fld × Value), R.map (·.1) = l ∧ w.ownsRow N 54 2 v R.length (cellsF R) ∧ ∀ r ∈ R, OwnB w N r.2 r.1.2

theorem OwnF.nil (w : World) (N : Nat) : OwnF w N (.slice none 0 0) [] := ⟨[], rfl, World.ownsRow_nil w N 54 2, fun r hr => by simp at hr⟩

theorem Below.grown_none {w w' : World} (h : Below w.heap.size w w') : w.grownBy w' none := ⟨h.os, h.tape, h.output, h.size, fun k hk _ => h.block k hk⟩

theorem OwnB.below {w w' : World} {N : Nat} {v : Value} {L : List Nat} (h : OwnB w N v L) (hb : Below w.heap.size w w') : OwnB w' N v L :=
  h.grown (Below.grown_none hb) (by cases hv : v.ownBlock <;> simp)

theorem OwnF.below {w w' : World} {N : Nat} {v : Value} {l : List Fld} (h : OwnF w N v l) (hb : Below w.heap.size w w') : OwnF w' N v l := by
  obtain ⟨R, h1, h2, h3⟩ := h
  exact ⟨R, h1, World.ownsRow.kept h2 (Below.grown_none hb) (by cases hv : v.ownBlock <;> simp), fun r hr => (h3 r hr).below hb⟩

theorem OwnF.lt {w : World} {N : Nat} {v : Value} {l : List Fld} (h : OwnF w N v l) : ∀ k, v.ownBlock = some k → N ≤ k ∧ k < w.heap.size := by
  obtain ⟨R, h1, h2, h3⟩ := h
  exact World.ownsRow.lt h2

theorem OwnF.form {w : World} {N : Nat} {v : Value} {l : List Fld} (h : OwnF w N v l) : ∃ a c, v = .slice a l.length c := by
  obtain ⟨R, rfl, h2, _⟩ := h
  rw [List.length_map]
  rcases h2.2 with ⟨h, h0⟩ | ⟨g, cap, cur, h, _⟩
  · exact ⟨none, 0, by rw [h, h0]⟩
  · exact ⟨_, _, h⟩

/-- A block of fields is no block of bytes. -/
theorem own_ne {w : World} {N M : Nat} {v u : Value} {n : Nat} {xs : List Value} {L : List Nat} (h : w.ownsRow N 54 2 v n xs) (h2 : OwnB w M u L) : u.ownBlock = none ∨ u.ownBlock ≠ v.ownBlock := by
  rcases h.2 with ⟨rfl, _⟩ | ⟨g, cap, cur, rfl, _, hg, _⟩
  · cases hu : u.ownBlock <;> simp [Value.ownBlock]
  · rcases h2.2 with ⟨rfl, _⟩ | ⟨g2, cap2, cur2, rfl, _, hg2, _⟩
    · exact Or.inl rfl
    · right
      simp only [Value.ownBlock, ne_eq, Option.some.injEq]
      intro e
      subst e
      rw [hg] at hg2
      simp at hg2

theorem nthF_map {R : List (Fld × Value)} {j : Nat} (h : j < R.length) : nthF (R.map (·.1)) j = (R[j]).1 := by
  simp [nthF, List.getD_eq_getElem?_getD, List.getElem?_eq_getElem h]

theorem OwnF.fv {w : World} {N : Nat} {v : Value} {l : List Fld} (h : OwnF w N v l) : FV w v l := by
  obtain ⟨R, rfl, h2, h3⟩ := h
  rcases h2.2 with ⟨h, h0⟩ | ⟨g, cap, cur, h, _, hg, _⟩
  · exact Or.inl ⟨h, by rw [List.eq_nil_of_length_eq_zero h0]; rfl⟩
  · refine Or.inr ⟨g, 0, cap, by rw [h, List.length_map], (Array.getElem?_eq_some_iff.1 hg).1, fun j hj => ?_⟩
    rw [List.length_map] at hj
    rw [h] at h2
    obtain ⟨e1, e2⟩ := cellsF_get R j hj
    rw [nthF_map hj, Nat.zero_add]
    refine ⟨?_, (R[j]).2, ?_, (h3 _ (List.getElem_mem hj)).bv⟩
    · rw [World.ownsRow.cellAt h2 (j * 2) (by omega)]; exact e1
    · rw [World.ownsRow.cellAt h2 (j * 2 + 1) (by omega)]; exact e2

theorem OwnB.one {w : World} {N : Nat} {v : Value} {L : List Nat} (h : OwnB w N v L) : v.oneCell' = true := by
  rcases h.2 with ⟨rfl, _⟩ | ⟨g, cap, cur, rfl, _⟩ <;> rfl

theorem run_appF (w : World) (ty : TypeId) (N : Nat) (v u : Value) (l : List Fld) (t : Int) (M : List Nat) (g c : Nat) (hown : OwnF w N v l) (hg : Has w g 54 #[.int .i64 t, u]) (hu : OwnB w N u M) (hlen : l.length ≤ 1000000) (hbase : N ≤ w.heap.size) :
    ∃ v' w', (Builtin.append_ #[22, 22] ty #[v, .slice (some ⟨g, 0, none⟩) 1 c]).run Tryd.prog w = .ok v' w' ∧ OwnF w' N v' (l ++ [(t, M)]) ∧ w.grownBy w' v.ownBlock := by
  obtain ⟨i0, hi, hz0, hz1, hz2⟩ := info_parts info54
  obtain ⟨R, rfl, h2, h3⟩ := hown
  rw [List.length_map] at hlen
  have hnews : ∀ j x, ([.int .i64 t, u] : List Value)[j]? = some x → w.cell? ((⟨g, 0, none⟩ : Addr).add j) = some x := by
    intro j x hx
    have hadd : (⟨g, 0, none⟩ : Addr).add j = ⟨g, j, none⟩ := by unfold Addr.add; split <;> simp_all
    unfold Has at hg
    rw [hadd]
    simp only [World.cell?, hg]
    rw [← hx]
    match j with
    | 0 => rfl
    | 1 => rfl
    | j + 2 => rfl
  have hone : ∀ x ∈ ([.int .i64 t, u] : List Value), x.oneCell' = true := by
    intro x hx
    simp only [List.mem_cons, List.not_mem_nil, or_false] at hx
    rcases hx with rfl | rfl
    · rfl
    · exact hu.one
  obtain ⟨v', w', hr, h4, h5, _⟩ := run_append_own (P := Tryd.prog) w N 22 ty 54 i0 _ 2 32 und22 hi hz0 hz1 hz2 rfl (by decide) v R.length _ h2 ⟨g, 0, none⟩ 1 c
    [.int .i64 t, u] rfl hnews hone (by unfold maxLen; omega) (by omega) hbase
  refine ⟨v', w', hr, ⟨R ++ [((t, M), u)], by simp, ?_, ?_⟩, h5⟩
  · rw [List.length_append]
    have e : cellsF (R ++ [((t, M), u)]) = cellsF R ++ [.int .i64 t, u] := by simp [cellsF]
    rw [e]
    exact h4
  · intro r hr
    simp only [List.mem_append, List.mem_cons, List.not_mem_nil, or_false] at hr
    rcases hr with hr | rfl
    · exact (h3 r hr).grown h5 (own_ne h2 (h3 r hr))
    · exact hu.grown h5 (own_ne h2 hu)

section
variable {ops : Array Oper} {rest : List Oper} {o : Oper} {a : Act} {w : World} {Q : Exit → Act → World → Prop} {K' : Act → World → Prop}

theorem appF (hgd : o.guard = none) (s x : Operand) (ho : o.op = .call { callee := .builtin .append, args := #[s, x], argTypes := #[22, 22] })
    (N : Nat) (v u : Value) (l : List Fld) (t : Int) (M : List Nat) (g c : Nat) (hs : a.eval s = v) (hx : a.eval x = .slice (some ⟨g, 0, none⟩) 1 c) (hown : OwnF w N v l) (hg : Has w g 54 #[.int .i64 t, u]) (hu : OwnB w N u M) (hlen : l.length ≤ 1000000) (hbase : N ≤ w.heap.size)
    (h : ∀ v' w', OwnF w' N v' (l ++ [(t, M)]) → w.grownBy w' v.ownBlock → wpList Tryd.prog ops Q rest (a.put o.dst v') w') : wpList Tryd.prog ops Q (o :: rest) a w := by
  obtain ⟨v', w', hr, h2, h3⟩ := run_appF w o.type N v u l t M g c hown hg hu hlen hbase
  refine wpList_plain hgd fun K hK => ?_
  unfold Oper.wp execOp
  simp only [ho, resolve, invoke, builtin, Sem.run_bind, Sem.run_pure, Result.andThen_ok, List.map_toArray, List.map_cons, List.map_nil, hs, hx, hr]
  exact hK _ _ (h v' w' h2 h3)
end
end Go.Proofs.YtbmhmaejakjieaaDoor
