/- How bytes and a text that came in are opened. -/
import Derived.Test.YtbklepgbieohiaaF
import Derived.Test.YtbklepgbieohiaaG5
namespace Go.Proofs.Ytbklepgbieohiaa
open Go.ChangeShapes Go.WideShapes Go.ChangeAt Go.RowKit

theorem cells5 : Try.prog.cellsOf 5 = 1 := by kernel_rfl

section
variable {H : Type} {enc : TypeId × Value → H} {W : World} {base b0 : Nat} {held : Bool}

theorem open_byts {v : Value} {d : DataW H} {p : List MemPlace} (hv : Value.okWide Try.prog W .any b0 28 v) (h : DataW.Trod enc Try.prog W base (fun _ => true) held 28 v d p) :
    ∃ a n c L, v = .slice a n c ∧ Byt L ∧ L.length = n ∧ n ≤ c ∧ BX W (.slice a n c) L := by
  obtain ⟨a0, n0, c0, rfl⟩ := okWide_slice und28 hv
  obtain ⟨fuel, hf⟩ := h
  rcases open_ints und28 und5 cells5 hf with ⟨hcs, _⟩ | ⟨x, l, c, zs, hcs, _, hl, _, hz, _, hcell, hwz⟩
  · simp [Value.cells] at hcs
    obtain ⟨rfl, rfl, rfl⟩ := hcs
    exact ⟨none, 0, 0, [], rfl, (fun x hx => by cases hx), rfl, Nat.le_refl _, Or.inr ⟨rfl, none, 0, rfl⟩⟩
  · simp [Value.cells] at hcs
    obtain ⟨rfl, rfl, rfl⟩ := hcs
    simp only [if_true] at hz
    have hget : ∀ j, j < n0 → ∃ n : Nat, n < 256 ∧ zs.getD j 0 = (n : Int) := fun j hj => by
      have hm : zs.getD j 0 ∈ zs := by
        rw [List.getD_eq_getElem?_getD, List.getElem?_eq_getElem (by omega)]
        exact List.getElem_mem (by omega)
      have hb := bounds_u8 (hwz _ hm)
      exact ⟨(zs.getD j 0).toNat, by omega, by omega⟩
    have hlen : ((zs.take n0).map Int.toNat).length = n0 := by simp; omega
    have hnth : ∀ j, j < n0 → ((nth ((zs.take n0).map Int.toNat) j : Nat) : Int) = zs.getD j 0 ∧ nth ((zs.take n0).map Int.toNat) j < 256 := fun j hj => by
      obtain ⟨n, hn, he⟩ := hget j hj
      have h1 : nth ((zs.take n0).map Int.toNat) j = (zs.getD j 0).toNat := by
        rw [nth_lt (by omega)]
        simp only [List.getElem_map, List.getElem_take]
        rw [List.getD_eq_getElem?_getD, List.getElem?_eq_getElem (by omega)]
        rfl
      rw [h1, he]; simp; exact hn
    refine ⟨some x, n0, c0, (zs.take n0).map Int.toNat, rfl, ?_, hlen, hl, ?_⟩
    · intro y hy
      obtain ⟨j, hj, rfl⟩ := List.mem_iff_getElem.1 hy
      have := (hnth j (by omega)).2
      rwa [nth_lt hj] at this
    · obtain ⟨b, off, spot⟩ := x
      by_cases h0 : n0 = 0
      · subst h0
        have hn : (zs.take 0).map Int.toNat = [] := by simp
        rw [hn]
        exact Or.inr ⟨rfl, _, c0, rfl⟩
      · have hc := hcell 0 (by omega)
        have hspot : spot = none := by simpa [Addr.add] using World.cell?_spot hc
        subst hspot
        refine Or.inl (Or.inr ⟨b, off, c0, by rw [hlen], fun j hj => ?_⟩)
        have := hcell j (by omega)
        rw [(hnth j (by omega)).1]
        have hadd : (⟨b, off, none⟩ : Addr).add j = ⟨b, off + j, none⟩ := by unfold Addr.add; split <;> simp_all
        rw [hadd] at this
        exact this

theorem open_str {v : Value} {d : DataW H} {p : List MemPlace} {spare : Nat → Bool} (hv : Value.okWide Try.prog W .any b0 9 v) (h : DataW.Trod enc Try.prog W base spare held 9 v d p) :
    ∃ M, v = .string (str M) ∧ Byt M := by
  obtain ⟨s, rfl, _, _, _⟩ := Go.ChangeMaps.open_string und9 hv h
  refine ⟨s.data.toList.map UInt8.toNat, ?_, ?_⟩
  · congr 1
    apply str_ext
    rw [List.map_map]
    conv => lhs; rw [← List.map_id s.data.toList]
    apply List.map_congr_left
    intro x _
    simp
  · intro y hy
    obtain ⟨x, _, rfl⟩ := List.mem_map.1 hy
    exact x.toNat_lt
end
end Go.Proofs.Ytbklepgbieohiaa
