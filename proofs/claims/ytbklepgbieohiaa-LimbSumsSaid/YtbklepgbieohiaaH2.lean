/- LimbSums, the given statement: whatever the two numbers are, the function returns true, and both read as before. No condition. -/
import Derived.Test.YtbklepgbieohiaaF
import Derived.Test.YtbklepgbieohiaaG2
import Derived.Test.YtbklepgbieohiaaZ
import Derived.Test.YtbklepgbieohiaaR
import Derived.Test.YtbklepgbieohiaaC
namespace Go.Proofs.Ytbklepgbieohiaa
open Go.ChangeShapes Go.WideShapes Go.ChangeAt Go.RowKit

theorem sums_any (x y : Nat) (hx : x < B ^ 4) (hy : y < B ^ 4) (w : World) :
    Calls Try.prog 4 #[A4 x, A4 y] w fun e w' => e = .returned (.bool true) ∧ Below w.heap.size w w' :=
  sums_core (digs 4 x) (digs 4 y) (digs 4 ((x + y) % B ^ 4)) (digs 4 ((x + B ^ 4 - y) % B ^ 4)) (digs 8 x) _ _ _ (digs_length 4 _) (digs_length 4 _) (digs_length 4 _) (digs_length 4 _) (digs_length 8 _)
    (add_any x y hx hy) (radd_any x y hx hy) (sub_any x y hx hy) (rsub_any x y hx hy) (cmp_any x y hx hy) (rcmp_any x y hx hy) (widen_any x hx) (rwiden_any x hx) w

set_option maxRecDepth 100000 in
theorem limbSums_lifted (os : Os) (started : os.Started) (H : Type) (enc : TypeId × Value → H) :
    ReturnsInHanded {} Try.checked os 4 .any (Rows.limbSumsSpec.pre6 enc Try.prog Try.f4 Rows.limbSumsRow.domain false) (Rows.limbSumsSpec.post enc Try.prog Try.f4 false true false false) := by
  refine returnsInHanded_of_change (C := Try.checked) Try.own started (by kernel_rfl) Try.func4
    (ChangeSpec.witness6 (enc := enc) (C := Try.checked) false ⟨#[], #[.agg #[.int .u64 0, .int .u64 0, .int .u64 0, .int .u64 0], .agg #[.int .u64 0, .int .u64 0, .int .u64 0, .int .u64 0]], []⟩ 8 (by kernel_rfl) (by kernel_rfl) (by kernel_rfl) (by kernel_rfl)) ?_
  intro W base args ds gs before hval0 hW hcnd _
  have hval : ∀ (j : Nat) t v, Try.f4.params[j]? = some t → args[j]? = some v → Value.okWide Try.prog W .any base t v := hval0
  have hW' := hW
  obtain ⟨p, q, hA0, hV, rfl, hfz, hnd⟩ := hW
  have hA : DataW.TrodAll enc Try.prog W 0 (fun _ => true) true Try.f4.params.toList args.toList ds p := hA0
  rw [Try.params4] at hA hval
  obtain ⟨v0, v1, d0, d1, p0, p1, rfl, rfl, rfl, h0, h1⟩ := trodAll_two hA
  obtain ⟨rfl, rfl⟩ := trodVars_none hV
  have l0 : ∀ x ∈ p0, x.block < W.heap.size := by obtain ⟨m, hm⟩ := h0; exact DataW.trod_lt m _ _ _ hm
  have l1 : ∀ x ∈ p1, x.block < W.heap.size := by obtain ⟨m, hm⟩ := h1; exact DataW.trod_lt m _ _ _ hm
  obtain ⟨x, hx, rfl⟩ := open_digits und24 cells24 (hval 0 24 v0 rfl rfl) h0
  obtain ⟨y, hy, rfl⟩ := open_digits und24 cells24 (hval 1 24 v1 rfl rfl) h1
  clear hA0 hval0
  refine (sums_any x y hx hy W).mono fun e W' ⟨he, bel⟩ => ?_
  subst he
  exact ⟨_, rfl, _, _, _, [], _, [], hW', trodAll_mk1 (shut_bool Try.underlying4 _), (trodAll_cons_mk (Below.trod Try.laidOut (by kernel_rfl) (of_decide_eq_true (by kernel_rfl)) h0 bel l0) (trodAll_cons_mk (Below.trod Try.laidOut (by kernel_rfl) (of_decide_eq_true (by kernel_rfl)) h1 bel l1) trodAll_mk0)), rfl, bel.frame _, fun h => by cases h⟩

theorem limbSums_holds : Rows.LimbSumsSaid :=
  OpenClaim.holds_of_wide 4 Try.f4 rfl rfl rfl rfl rfl rfl rfl ⟨rfl, rfl, rfl, rfl, rfl⟩ rfl rfl rfl rfl rfl (by kernel_rfl) Try.func4 (by kernel_rfl)
    (of_decide_eq_true (by kernel_rfl)) (by unfold Func.isWrapper; first | (rw [if_pos (by decide +kernel)]; kernel_rfl) | (rw [if_neg (by decide +kernel)]; exact ⟨rfl, rfl⟩))
    (fun os started H enc _ => limbSums_lifted os started H enc)

#print axioms limbSums_holds
end Go.Proofs.Ytbklepgbieohiaa
