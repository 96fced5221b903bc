/- How bytes, a list of bytes and fields that came in are opened. -/
import Derived.Test.YtbmhmaejakjieaaDoorOa
import Derived.Test.YtbmhmaejakjieaaDoorLg
import Derived.Deep.Matrix
import Derived.Deep.SlicePairs
namespace Go.Proofs.YtbmhmaejakjieaaDoor
open Go.ChangeShapes Go.WideShapes Go.ChangeAt Go.RowKit Go.Deep

theorem cells23 : Tryd.prog.cellsOf 23 = 1 := by kernel_rfl
theorem cells3 : Tryd.prog.cellsOf 3 = 1 := by kernel_rfl
theorem cells54 : Tryd.prog.cellsOf 54 = 2 := by kernel_rfl

section
variable {H : Type} {enc : TypeId × Value → H} {W : World} {base b0 : Nat} {held : Bool}

theorem in_of_trod {fuel : Nat} {V : Value} {x : DataW H × List MemPlace} (h : DataW.trod enc Tryd.prog W base (fun _ => true) held fuel 23 [V] = some x) : ∃ L, Byt L ∧ In W V L := by
  rcases open_ints und23 und5 cells5 h with ⟨hcs, _⟩ | ⟨x, n0, c0, zs, hcs, _, hl, _, hz, _, hcell, hwz⟩
  · simp at hcs
    subst hcs
    exact ⟨[], (fun x hx => by cases hx), none, 0, rfl, ⟨Nat.le_refl _, fun _ => rfl⟩, Or.inl rfl⟩
  · simp at hcs
    subst hcs
    simp only [if_true] at hz
    have hget : ∀ j, j < n0 → ∃ n : Nat, n < 256 ∧ zs.getD j 0 = (n : Int) := fun j hj => by
      have hm : zs.getD j 0 ∈ zs := by
        rw [List.getD_eq_getElem?_getD, List.getElem?_eq_getElem (by omega)]
        exact List.getElem_mem (by omega)
      have hb := bounds_u8 (hwz _ hm)
      exact ⟨(zs.getD j 0).toNat, by omega, by omega⟩
    have hlen : ((zs.take n0).map Int.toNat).length = n0 := by simp; omega
    have hnth : ∀ j, j < n0 → ((nth ((zs.take n0).map Int.toNat) j : Nat) : Int) = zs.getD j 0 ∧ nth ((zs.take n0).map Int.toNat) j < 256 := fun j hj => by
      obtain ⟨n, hn, he⟩ := hget j hj
      have h1 : nth ((zs.take n0).map Int.toNat) j = (zs.getD j 0).toNat := by
        rw [nth_lt (by omega)]
        simp only [List.getElem_map, List.getElem_take]
        rw [List.getD_eq_getElem?_getD, List.getElem?_eq_getElem (by omega)]
        rfl
      rw [h1, he]; simp; exact hn
    refine ⟨(zs.take n0).map Int.toNat, ?_, some x, c0, by rw [hlen], ⟨by omega, fun h => by cases h⟩, ?_⟩
    · intro y hy
      obtain ⟨j, hj, rfl⟩ := List.mem_iff_getElem.1 hy
      have := (hnth j (by omega)).2
      rwa [nth_lt hj] at this
    · obtain ⟨b, off, spot⟩ := x
      by_cases h0 : n0 = 0
      · subst h0
        exact Or.inl (by simp)
      · have hc := hcell 0 (by omega)
        have hspot : spot = none := by simpa [Addr.add] using World.cell?_spot hc
        subst hspot
        refine Or.inr ⟨b, off, rfl, fun j hj => ?_⟩
        have := hcell j (by omega)
        rw [(hnth j (by omega)).1]
        have hadd : (⟨b, off, none⟩ : Addr).add j = ⟨b, off + j, none⟩ := by unfold Addr.add; split <;> simp_all
        rw [hadd] at this
        exact this

set_option maxRecDepth 100000 in
theorem open_bytes {v : Value} {d : DataW H} {p : List MemPlace} (hv : Value.okWide Tryd.prog W .any b0 23 v) (h : DataW.Trod enc Tryd.prog W base (fun _ => true) held 23 v d p) : ∃ L, Byt L ∧ In W v L := by
  obtain ⟨a0, n0, c0, rfl⟩ := okWide_slice und23 hv
  obtain ⟨fuel, hf⟩ := h
  exact in_of_trod hf

/-- A list out of what each place holds. -/
theorem pick_list {α : Type} {p : Nat → α → Prop} : ∀ n, (∀ r, r < n → ∃ x, p r x) → ∃ l : List α, l.length = n ∧ ∀ r (h : r < l.length), p r l[r]
  | 0, _ => ⟨[], rfl, fun r h => by simp at h⟩
  | n + 1, h => by
    obtain ⟨l, h1, h2⟩ := pick_list n fun r hr => h r (by omega)
    obtain ⟨x, hx⟩ := h n (by omega)
    refine ⟨l ++ [x], by simp [h1], fun r hr => ?_⟩
    by_cases e : r < l.length
    · rw [List.getElem_append_left e]; exact h2 r e
    · have : r = n := by simp [h1] at hr; omega
      subst this
      rw [List.getElem_append_right (by omega)]
      simpa [h1] using hx

set_option maxRecDepth 100000 in
theorem open_lists {v : Value} {d : DataW H} {p : List MemPlace} (hv : Value.okWide Tryd.prog W .any b0 44 v) (h : DataW.Trod enc Tryd.prog W base (fun _ => true) held 44 v d p) :
    ∃ l : List (List Nat), (∀ x ∈ l, Byt x) ∧ LV W v l := by
  obtain ⟨a0, n0, c0, rfl⟩ := okWide_slice und44 hv
  obtain ⟨fuel, hf⟩ := h
  rcases open_slice1 und44 cells23 hf with ⟨hcs, _⟩ | ⟨x, len, cap, m, n, V, D, Pl, hcs, hb, hl, hm, hmm, _, hx⟩
  · simp [Value.cells] at hcs
    obtain ⟨rfl, rfl, rfl⟩ := hcs
    exact ⟨[], (fun x hx => by cases hx), none, 0, rfl, Or.inl rfl⟩
  · simp [Value.cells] at hcs
    obtain ⟨rfl, rfl, rfl⟩ := hcs
    simp only [if_true] at hmm
    subst hmm
    obtain ⟨l, h1, h2⟩ := pick_list (p := fun r (L : List Nat) => Byt L ∧ W.cell? (x.add r) = some (V r) ∧ In W (V r) L) n0 fun r hr => by
      obtain ⟨h3, h4⟩ := hx r (by omega)
      obtain ⟨L, h5, h6⟩ := in_of_trod h4
      exact ⟨L, h5, h3, h6⟩
    refine ⟨l, ?_, some x, m, by rw [h1], ?_⟩
    · intro y hy
      obtain ⟨j, hj, rfl⟩ := List.mem_iff_getElem.1 hy
      exact (h2 j hj).1
    · obtain ⟨b, off, spot⟩ := x
      by_cases h0 : n0 = 0
      · exact Or.inl (List.eq_nil_of_length_eq_zero (by omega))
      · have hc := (h2 0 (by omega)).2.1
        have hspot : spot = none := by simpa [Addr.add] using World.cell?_spot hc
        subst hspot
        have hadd : ∀ j, (⟨b, off, none⟩ : Addr).add j = ⟨b, off + j, none⟩ := fun j => by unfold Addr.add; split <;> simp_all
        refine Or.inr ⟨b, off, rfl, World.block_lt_of_cell? W _ (by rw [hadd] at hc; exact hc), fun j hj => ?_⟩
        obtain ⟨_, h4, h5⟩ := h2 j hj
        rw [hadd] at h4
        refine ⟨V j, h4, ?_⟩
        have : nthL l j = l[j] := by simp [nthL, List.getD_eq_getElem?_getD, List.getElem?_eq_getElem hj]
        rw [this]; exact h5
end
end Go.Proofs.YtbmhmaejakjieaaDoor
