/- LimbBack, the given statement: whatever the two numbers are, the function returns true, and they read as before. No condition. -/
import Derived.Test.YtbklepgbieohiaaF
import Derived.Test.YtbklepgbieohiaaO8
import Derived.Test.YtbklepgbieohiaaQ6
import Derived.Test.YtbklepgbieohiaaC
namespace Go.Proofs.Ytbklepgbieohiaa
open Go.ChangeShapes Go.WideShapes Go.ChangeAt Go.RowKit

theorem back_mod {x y P : Nat} (hx : x < P) (hy : y < P) : ((x + y) % P + P - y) % P = x := by
  by_cases h : x + y < P
  · rw [Nat.mod_eq_of_lt h, show x + y + P - y = x + P by omega, Nat.add_mod_right, Nat.mod_eq_of_lt hx]
  · have e : (x + y) % P = x + y - P := by rw [Nat.mod_eq_sub_mod (by omega)]; exact Nat.mod_eq_of_lt (by omega)
    rw [e, show x + y - P + P - y = x by omega, Nat.mod_eq_of_lt hx]

theorem limbBack_any (x : Nat) (hx : x < B ^ 4) (y : Nat) (hy : y < B ^ 4) (w : World) :
    Calls Try.prog 8 #[A4 x, A4 y] w fun e w' => e = .returned (.bool true) ∧ Below w.heap.size w w' := by
  have hs := sub_any ((x + y) % B ^ 4) y (Nat.mod_lt _ (Bpow_pos 4)) hy
  rw [back_mod hx hy] at hs
  have hxy : x * y < B ^ 8 := by
    have h1 : x * y ≤ x * B ^ 4 := Nat.mul_le_mul_left _ (Nat.le_of_lt hy)
    have h2 : (x + 1) * B ^ 4 ≤ B ^ 4 * B ^ 4 := Nat.mul_le_mul_right _ hx
    rw [Nat.add_mul, ← Nat.pow_add, show 4 + 4 = 8 from rfl] at h2
    have := Bpow_pos 4
    omega
  by_cases h0 : y = 0
  · subst h0
    exact back_zero (digs 4 x) (digs 4 0) (digs 4 ((x + 0) % B ^ 4)) (digs 8 (x * 0)) (digs 8 x) _ _ (digs_length 4 _) (digs_length 4 _) (digs_length 4 _) (digs_length 8 _) (digs_length 8 _)
      (add_any x 0 hx hy) hs (mul_any x 0 hx hy) rfl (by rw [Nat.mul_zero]; rfl) w
  · have hne : (digs 4 y == [0, 0, 0, 0]) = false := by
      have h := digs_beq (k := 4) hy (show 0 < B ^ 4 from Bpow_pos 4)
      rw [show digs 4 0 = [0, 0, 0, 0] from rfl] at h
      rw [h]
      exact decide_eq_false h0
    have hd := div_any (x * y) y hxy hy
    have e : divV (x * y) y = .tuple #[A8 (x * y / y), A4 (x * y % y), .int .i64 0] := if_neg h0
    rw [e, Nat.mul_div_cancel _ (Nat.pos_of_ne_zero h0), Nat.mul_mod_left] at hd
    exact back_some (digs 4 x) (digs 4 y) (digs 4 ((x + y) % B ^ 4)) (digs 8 (x * y)) (digs 8 x) _ _ (digs_length 4 _) (digs_length 4 _) (digs_length 4 _) (digs_length 8 _) (digs_length 8 _)
      (add_any x y hx hy) hs (mul_any x y hx hy) hne hd (widen_any x hx) w

set_option maxRecDepth 100000 in
theorem limbBack_lifted (os : Os) (started : os.Started) (H : Type) (enc : TypeId × Value → H) :
    ReturnsInHanded {} Try.checked os 8 .any (Rows.limbBackSpec.pre6 enc Try.prog Try.f8 Rows.limbBackRow.domain false) (Rows.limbBackSpec.post enc Try.prog Try.f8 false true false false) := by
  refine returnsInHanded_of_change (C := Try.checked) Try.own started (by kernel_rfl) Try.func8
    (ChangeSpec.witness6 (enc := enc) (C := Try.checked) false ⟨#[], #[.agg #[.int .u64 0, .int .u64 0, .int .u64 0, .int .u64 0], .agg #[.int .u64 0, .int .u64 0, .int .u64 0, .int .u64 0]], []⟩ 8 (by kernel_rfl) (by kernel_rfl) (by kernel_rfl) (by kernel_rfl)) ?_
  intro W base args ds gs before hval0 hW hcnd _
  have hval : ∀ (j : Nat) t v, Try.f8.params[j]? = some t → args[j]? = some v → Value.okWide Try.prog W .any base t v := hval0
  have hW' := hW
  obtain ⟨p, q, hA0, hV, rfl, hfz, hnd⟩ := hW
  have hA : DataW.TrodAll enc Try.prog W 0 (fun _ => true) true Try.f8.params.toList args.toList ds p := hA0
  rw [Try.params8] at hA hval
  obtain ⟨v0, v1, d0, d1, p0, p1, rfl, rfl, rfl, h0, h1⟩ := trodAll_two hA
  obtain ⟨rfl, rfl⟩ := trodVars_none hV
  have l0 : ∀ x ∈ p0, x.block < W.heap.size := by obtain ⟨m, hm⟩ := h0; exact DataW.trod_lt m _ _ _ hm
  have l1 : ∀ x ∈ p1, x.block < W.heap.size := by obtain ⟨m, hm⟩ := h1; exact DataW.trod_lt m _ _ _ hm
  obtain ⟨x0, hx0, rfl⟩ := open_digits und24 cells24 (hval 0 24 v0 rfl rfl) h0
  obtain ⟨x1, hx1, rfl⟩ := open_digits und24 cells24 (hval 1 24 v1 rfl rfl) h1
  clear hA0 hval0
  refine (limbBack_any x0 hx0 x1 hx1 W).mono fun e W' ⟨he, bel⟩ => ?_
  subst he
  exact ⟨_, rfl, _, _, _, [], _, [], hW', trodAll_mk1 (shut_bool Try.underlying4 _), (trodAll_cons_mk (Below.trod Try.laidOut (by kernel_rfl) (of_decide_eq_true (by kernel_rfl)) h0 bel l0) (trodAll_cons_mk (Below.trod Try.laidOut (by kernel_rfl) (of_decide_eq_true (by kernel_rfl)) h1 bel l1) trodAll_mk0)), rfl, bel.frame _, fun h => by cases h⟩

theorem limbBack_holds : Rows.LimbBackSaid :=
  OpenClaim.holds_of_wide 8 Try.f8 rfl rfl rfl rfl rfl rfl rfl ⟨rfl, rfl, rfl, rfl, rfl⟩ rfl rfl rfl rfl rfl (by kernel_rfl) Try.func8 (by kernel_rfl)
    (of_decide_eq_true (by kernel_rfl)) (by unfold Func.isWrapper; first | (rw [if_pos (by decide +kernel)]; kernel_rfl) | (rw [if_neg (by decide +kernel)]; exact ⟨rfl, rfl⟩))
    (fun os started H enc _ => limbBack_lifted os started H enc)

#print axioms limbBack_holds
end Go.Proofs.Ytbklepgbieohiaa
