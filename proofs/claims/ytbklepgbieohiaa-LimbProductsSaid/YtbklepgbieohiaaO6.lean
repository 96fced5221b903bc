/- LimbProducts, the given statement: whatever the three numbers are, the function returns true, and they read as before. No condition. -/
import Derived.Test.YtbklepgbieohiaaF
import Derived.Test.YtbklepgbieohiaaO5
import Derived.Test.YtbklepgbieohiaaO4
namespace Go.Proofs.Ytbklepgbieohiaa
open Go.ChangeShapes Go.WideShapes Go.ChangeAt Go.RowKit

theorem limbProducts_any (x : Nat) (hx : x < B ^ 4) (y : Nat) (hy : y < B ^ 4) (v : Nat) (hv : v < B ^ 8) (w : World) :
    Calls Try.prog 7 #[A4 x, A4 y, A8 v] w fun e w' => e = .returned (.bool true) ∧ Below w.heap.size w w' := by
  have h1 := div_any v x hv hx
  have h2 := rdiv_any v x hv hx
  by_cases h0 : x = 0
  · have e : divV v x = .tuple #[A8 0, A4 0, .int .i64 10] := if_pos h0
    rw [e] at h1 h2
    exact products_core (digs 4 x) (digs 4 y) (digs 8 v) (digs 8 0) (digs 4 0) (digs 8 (x * y)) 10 (digs_length 4 _) (digs_length 4 _) (digs_length 8 _) (digs_length 8 _) (digs_length 4 _) (digs_length 8 _)
      h1 h2 (mul_any x y hx hy) (rmul_any x y hx hy) w
  · have e : divV v x = .tuple #[A8 (v / x), A4 (v % x), .int .i64 0] := if_neg h0
    rw [e] at h1 h2
    exact products_core (digs 4 x) (digs 4 y) (digs 8 v) (digs 8 (v / x)) (digs 4 (v % x)) (digs 8 (x * y)) 0 (digs_length 4 _) (digs_length 4 _) (digs_length 8 _) (digs_length 8 _) (digs_length 4 _) (digs_length 8 _)
      h1 h2 (mul_any x y hx hy) (rmul_any x y hx hy) w

set_option maxRecDepth 100000 in
theorem limbProducts_lifted (os : Os) (started : os.Started) (H : Type) (enc : TypeId × Value → H) :
    ReturnsInHanded {} Try.checked os 7 .any (Rows.limbProductsSpec.pre6 enc Try.prog Try.f7 Rows.limbProductsRow.domain false) (Rows.limbProductsSpec.post enc Try.prog Try.f7 false true false false) := by
  refine returnsInHanded_of_change (C := Try.checked) Try.own started (by kernel_rfl) Try.func7
    (ChangeSpec.witness6 (enc := enc) (C := Try.checked) false ⟨#[], #[.agg #[.int .u64 0, .int .u64 0, .int .u64 0, .int .u64 0], .agg #[.int .u64 0, .int .u64 0, .int .u64 0, .int .u64 0], .agg #[.int .u64 0, .int .u64 0, .int .u64 0, .int .u64 0, .int .u64 0, .int .u64 0, .int .u64 0, .int .u64 0]], []⟩ 8 (by kernel_rfl) (by kernel_rfl) (by kernel_rfl) (by kernel_rfl)) ?_
  intro W base args ds gs before hval0 hW hcnd _
  have hval : ∀ (j : Nat) t v, Try.f7.params[j]? = some t → args[j]? = some v → Value.okWide Try.prog W .any base t v := hval0
  have hW' := hW
  obtain ⟨p, q, hA0, hV, rfl, hfz, hnd⟩ := hW
  have hA : DataW.TrodAll enc Try.prog W 0 (fun _ => true) true Try.f7.params.toList args.toList ds p := hA0
  rw [Try.params7] at hA hval
  obtain ⟨v0, v1, v2, d0, d1, d2, p0, p1, p2, rfl, rfl, rfl, h0, h1, h2⟩ := trodAll_three hA
  obtain ⟨rfl, rfl⟩ := trodVars_none hV
  have l0 : ∀ x ∈ p0, x.block < W.heap.size := by obtain ⟨m, hm⟩ := h0; exact DataW.trod_lt m _ _ _ hm
  have l1 : ∀ x ∈ p1, x.block < W.heap.size := by obtain ⟨m, hm⟩ := h1; exact DataW.trod_lt m _ _ _ hm
  have l2 : ∀ x ∈ p2, x.block < W.heap.size := by obtain ⟨m, hm⟩ := h2; exact DataW.trod_lt m _ _ _ hm
  obtain ⟨x0, hx0, rfl⟩ := open_digits und24 cells24 (hval 0 24 v0 rfl rfl) h0
  obtain ⟨x1, hx1, rfl⟩ := open_digits und24 cells24 (hval 1 24 v1 rfl rfl) h1
  obtain ⟨x2, hx2, rfl⟩ := open_digits und37 cells37 (hval 2 37 v2 rfl rfl) h2
  clear hA0 hval0
  refine (limbProducts_any x0 hx0 x1 hx1 x2 hx2 W).mono fun e W' ⟨he, bel⟩ => ?_
  subst he
  exact ⟨_, rfl, _, _, _, [], _, [], hW', trodAll_mk1 (shut_bool Try.underlying4 _), (trodAll_cons_mk (Below.trod Try.laidOut (by kernel_rfl) (of_decide_eq_true (by kernel_rfl)) h0 bel l0) (trodAll_cons_mk (Below.trod Try.laidOut (by kernel_rfl) (of_decide_eq_true (by kernel_rfl)) h1 bel l1) (trodAll_cons_mk (Below.trod Try.laidOut (by kernel_rfl) (of_decide_eq_true (by kernel_rfl)) h2 bel l2) trodAll_mk0))), rfl, bel.frame _, fun h => by cases h⟩

theorem limbProducts_holds : Rows.LimbProductsSaid :=
  OpenClaim.holds_of_wide 7 Try.f7 rfl rfl rfl rfl rfl rfl rfl ⟨rfl, rfl, rfl, rfl, rfl⟩ rfl rfl rfl rfl rfl (by kernel_rfl) Try.func7 (by kernel_rfl)
    (of_decide_eq_true (by kernel_rfl)) (by unfold Func.isWrapper; first | (rw [if_pos (by decide +kernel)]; kernel_rfl) | (rw [if_neg (by decide +kernel)]; exact ⟨rfl, rfl⟩))
    (fun os started H enc _ => limbProducts_lifted os started H enc)

#print axioms limbProducts_holds
end Go.Proofs.Ytbklepgbieohiaa
