/- LimbTells, the given statement: whatever the number and the index are, the function returns true, and both read as before. No condition. -/
import Derived.Test.YtbklepgbieohiaaF
import Derived.Test.YtbklepgbieohiaaG3
import Derived.Test.YtbklepgbieohiaaM
import Derived.Test.YtbklepgbieohiaaN
import Derived.Test.YtbklepgbieohiaaQ
import Derived.Test.YtbklepgbieohiaaX2
namespace Go.Proofs.Ytbklepgbieohiaa
open Go.ChangeShapes Go.WideShapes Go.ChangeAt Go.RowKit

theorem limbTells_any (x : Nat) (hx : x < B ^ 4) (i : Int) (_hi : (Lit.int .i64 i).wf = true) (w : World) :
    Calls Try.prog 3 #[A4 x, .int .i64 i] w fun e w' => e = .returned (.bool true) ∧ Below w.heap.size w w' := by
  have h0 : nth (digs 4 x) 0 < B := (digs_dig 4 x).get 0
  have h19 := of_any _ h0
  rw [show A4 (nth (digs 4 x) 0) = .agg (u64s [nth (digs 4 x) 0, 0, 0, 0]) by unfold A4; rw [digs_of_lt h0]] at h19
  exact tells_core (digs 4 x) _ i _ _ _ (digs_length 4 _) (length_any x hx) (rLength_any x hx) (bit_any x i) (rBit_any x i) (bytes_core _ (digs_length 4 x) (digs_dig 4 x)) (rbytes_core _ (digs_length 4 x) (digs_dig 4 x))
    (bytes_byt _ _) (text_any x hx) (rtext_any x hx) h19 w

set_option maxRecDepth 100000 in
theorem limbTells_lifted (os : Os) (started : os.Started) (H : Type) (enc : TypeId × Value → H) :
    ReturnsInHanded {} Try.checked os 3 .any (Rows.limbTellsSpec.pre6 enc Try.prog Try.f3 Rows.limbTellsRow.domain false) (Rows.limbTellsSpec.post enc Try.prog Try.f3 false true false false) := by
  refine returnsInHanded_of_change (C := Try.checked) Try.own started (by kernel_rfl) Try.func3
    (ChangeSpec.witness6 (enc := enc) (C := Try.checked) false ⟨#[], #[.agg #[.int .u64 0, .int .u64 0, .int .u64 0, .int .u64 0], .int .i64 0], []⟩ 8 (by kernel_rfl) (by kernel_rfl) (by kernel_rfl) (by kernel_rfl)) ?_
  intro W base args ds gs before hval0 hW hcnd _
  have hval : ∀ (j : Nat) t v, Try.f3.params[j]? = some t → args[j]? = some v → Value.okWide Try.prog W .any base t v := hval0
  have hW' := hW
  obtain ⟨p, q, hA0, hV, rfl, hfz, hnd⟩ := hW
  have hA : DataW.TrodAll enc Try.prog W 0 (fun _ => true) true Try.f3.params.toList args.toList ds p := hA0
  rw [Try.params3] at hA hval
  obtain ⟨v0, v1, d0, d1, p0, p1, rfl, rfl, rfl, h0, h1⟩ := trodAll_two hA
  obtain ⟨rfl, rfl⟩ := trodVars_none hV
  have l0 : ∀ x ∈ p0, x.block < W.heap.size := by obtain ⟨m, hm⟩ := h0; exact DataW.trod_lt m _ _ _ hm
  have l1 : ∀ x ∈ p1, x.block < W.heap.size := by obtain ⟨m, hm⟩ := h1; exact DataW.trod_lt m _ _ _ hm
  obtain ⟨x0, hx0, rfl⟩ := open_digits und24 cells24 (hval 0 24 v0 rfl rfl) h0
  obtain ⟨i1, rfl, _, _, wf1⟩ := open_int Try.underlying3 (hval 1 3 v1 rfl rfl) h1
  clear hA0 hval0
  refine (limbTells_any x0 hx0 i1 wf1 W).mono fun e W' ⟨he, bel⟩ => ?_
  subst he
  exact ⟨_, rfl, _, _, _, [], _, [], hW', trodAll_mk1 (shut_bool Try.underlying4 _), (trodAll_cons_mk (Below.trod Try.laidOut (by kernel_rfl) (of_decide_eq_true (by kernel_rfl)) h0 bel l0) (trodAll_cons_mk (Below.trod Try.laidOut (by kernel_rfl) (of_decide_eq_true (by kernel_rfl)) h1 bel l1) trodAll_mk0)), rfl, bel.frame _, fun h => by cases h⟩

theorem limbTells_holds : Rows.LimbTellsSaid :=
  OpenClaim.holds_of_wide 3 Try.f3 rfl rfl rfl rfl rfl rfl rfl ⟨rfl, rfl, rfl, rfl, rfl⟩ rfl rfl rfl rfl rfl (by kernel_rfl) Try.func3 (by kernel_rfl)
    (of_decide_eq_true (by kernel_rfl)) (by unfold Func.isWrapper; first | (rw [if_pos (by decide +kernel)]; kernel_rfl) | (rw [if_neg (by decide +kernel)]; exact ⟨rfl, rfl⟩))
    (fun os started H enc _ => limbTells_lifted os started H enc)

#print axioms limbTells_holds
end Go.Proofs.Ytbklepgbieohiaa
