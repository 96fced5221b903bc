/- How fields that came in are opened. -/
import Derived.Test.YtbmhmaejakjieaaDoorOb
import Derived.Test.YtbmhmaejakjieaaDoorCb
namespace Go.Proofs.YtbmhmaejakjieaaDoor
open Go.ChangeShapes Go.WideShapes Go.ChangeAt Go.RowKit Go.Deep

section
variable {H : Type} {enc : TypeId × Value → H} {W : World} {base b0 : Nat} {held : Bool}

set_option maxRecDepth 100000 in
theorem open_fields {v : Value} {d : DataW H} {p : List MemPlace} (hv : Value.okWide Tryd.prog W .any b0 22 v) (h : DataW.Trod enc Tryd.prog W base (fun _ => true) held 22 v d p) :
    ∃ l : List Fld, (∀ x ∈ l, Byt x.2) ∧ FIn W v l := by
  obtain ⟨a0, n0, c0, rfl⟩ := okWide_slice und22 hv
  obtain ⟨fuel, hf⟩ := h
  rcases open_slice_pairs und22 Tryd.underlying54 cells54 rfl rfl cells3 cells23 hf with ⟨hcs, _⟩ | ⟨x, len, cap, m, n, V0, V1, D0, D1, P0, P1, hcs, hb, hl, hm, hmm, _, hx⟩
  · simp [Value.cells] at hcs
    obtain ⟨rfl, rfl, rfl⟩ := hcs
    exact ⟨[], (fun x hx => by cases hx), none, 0, rfl, Or.inl rfl⟩
  · simp [Value.cells] at hcs
    obtain ⟨rfl, rfl, rfl⟩ := hcs
    simp only [if_true] at hmm
    subst hmm
    obtain ⟨l, h1, h2⟩ := pick_list (p := fun r (L : Fld) => Byt L.2 ∧ W.cell? (x.add (r * 2)) = some (.int .i64 L.1) ∧ W.cell? (x.add (r * 2 + 1)) = some (V1 r) ∧ In W (V1 r) L.2) n0 fun r hr => by
      obtain ⟨h3, h4, h5, h6⟩ := hx r (by omega)
      obtain ⟨L, h7, h8⟩ := in_of_trod h6
      obtain ⟨N, h9, _, _⟩ := DataW.trod_int und3 h5
      simp only [List.cons.injEq, and_true] at h9
      exact ⟨(N, L), h7, by rw [h3, h9], h4, h8⟩
    refine ⟨l, ?_, some x, m, by rw [h1], ?_⟩
    · intro y hy
      obtain ⟨j, hj, rfl⟩ := List.mem_iff_getElem.1 hy
      exact (h2 j hj).1
    · obtain ⟨b, off, spot⟩ := x
      by_cases h0 : n0 = 0
      · exact Or.inl (List.eq_nil_of_length_eq_zero (by omega))
      · have hc := (h2 0 (by omega)).2.1
        have hspot : spot = none := by simpa [Addr.add] using World.cell?_spot hc
        subst hspot
        have hadd : ∀ j, (⟨b, off, none⟩ : Addr).add j = ⟨b, off + j, none⟩ := fun j => by unfold Addr.add; split <;> simp_all
        refine Or.inr ⟨b, off, rfl, World.block_lt_of_cell? W _ (by rw [hadd] at hc; exact hc), fun j hj => ?_⟩
        obtain ⟨_, h4, h5, h6⟩ := h2 j hj
        rw [hadd] at h4 h5
        have hn : nthF l j = l[j] := by simp [nthF, List.getD_eq_getElem?_getD, List.getElem?_eq_getElem hj]
        rw [hn, Nat.add_assoc]
        exact ⟨h4, V1 j, h5, h6⟩
end
end Go.Proofs.YtbmhmaejakjieaaDoor
