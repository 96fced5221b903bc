/- LimbDivides, the given statement: whatever the three numbers are, the function returns true, and they read as before. No condition. -/
import Derived.Test.YtbklepgbieohiaaF
import Derived.Test.YtbklepgbieohiaaO10
import Derived.Test.YtbklepgbieohiaaQ6
import Derived.Test.YtbklepgbieohiaaC
namespace Go.Proofs.Ytbklepgbieohiaa
open Go.ChangeShapes Go.WideShapes Go.ChangeAt Go.RowKit

theorem low4 (q : Nat) : [nth (digs 8 q) 0, nth (digs 8 q) 1, nth (digs 8 q) 2, nth (digs 8 q) 3] = digs 4 q := rfl

theorem high8 {q : Nat} (h : q < B ^ 4) : nth (digs 8 q) 4 = 0 :=
  nth_top (digs_dig 8 q) (k := 4) (by rw [val_digs_lt (Nat.lt_of_lt_of_le h (Nat.pow_le_pow_right B_pos (by omega)))]; exact h) (Nat.le_refl _)

theorem lt8 {x : Nat} (h : x < B ^ 4) : x < B ^ 8 := Nat.lt_of_lt_of_le h (Nat.pow_le_pow_right B_pos (by omega))

theorem prod_lt8 {x y : Nat} (hx : x < B ^ 4) (hy : y < B ^ 4) : x * y < B ^ 8 := by
  have h1 : x * y ≤ x * B ^ 4 := Nat.mul_le_mul_left _ (Nat.le_of_lt hy)
  have h2 : (x + 1) * B ^ 4 ≤ B ^ 4 * B ^ 4 := Nat.mul_le_mul_right _ hx
  rw [Nat.add_mul, ← Nat.pow_add, show 4 + 4 = 8 from rfl] at h2
  have := Bpow_pos 4
  omega

theorem limbDivides_any (x : Nat) (hx : x < B ^ 4) (y : Nat) (hy : y < B ^ 4) (z : Nat) (hz : z < B ^ 4) (w : World) :
    Calls Try.prog 9 #[A4 x, A4 y, A4 z] w fun e w' => e = .returned (.bool true) ∧ Below w.heap.size w w' := by
  by_cases h0 : z = 0
  · subst h0
    exact divides_zero (digs 4 x) (digs 4 y) (digs 4 0) (digs 8 x) (digs_length 4 _) (digs_length 4 _) (digs_length 4 _) rfl (widen_any x hx) (div_any x 0 (lt8 hx) hz) w
  · have hne : (digs 4 z == [0, 0, 0, 0]) = false := by
      have h := digs_beq (k := 4) hz (show 0 < B ^ 4 from Bpow_pos 4)
      rw [show digs 4 0 = [0, 0, 0, 0] from rfl] at h
      rw [h]
      exact decide_eq_false h0
    have hz0 : 0 < z := Nat.pos_of_ne_zero h0
    have hq : x / z < B ^ 4 := Nat.lt_of_le_of_lt (Nat.div_le_self _ _) hx
    have hr : x % z < B ^ 4 := Nat.lt_trans (Nat.mod_lt _ hz0) hz
    have hpq : x / z * z + x % z = x := by rw [Nat.mul_comm]; exact Nat.div_add_mod x z
    have hp : x / z * z < B ^ 4 := by omega
    have d1 := div_any x z (lt8 hx) hz
    have e1 : divV x z = .tuple #[A8 (x / z), A4 (x % z), .int .i64 0] := if_neg h0
    rw [e1] at d1
    have d2 := div_any (y * z) z (prod_lt8 hy hz) hz
    have e2 : divV (y * z) z = .tuple #[A8 (y * z / z), A4 (y * z % z), .int .i64 0] := if_neg h0
    rw [e2, Nat.mul_div_cancel _ hz0, Nat.mul_mod_left] at d2
    have m1 := mul_any (x / z) z hq hz
    have a1 := add_any (x / z * z) (x % z) hp hr
    rw [hpq, Nat.mod_eq_of_lt hx, decide_eq_false (show ¬ B ^ 4 ≤ x by omega)] at a1
    have hc : decide (cmpN (x % z) z < 0) = true := by
      have h1 : x % z < z := Nat.mod_lt _ hz0
      have h2 : x % z ≠ z := by omega
      simp [cmpN, h1, h2]
    exact divides_some (digs 4 x) (digs 4 y) (digs 4 z) (digs 8 (x / z)) (digs 4 (x % z)) (digs 8 (x / z * z)) (digs 8 (y * z)) (digs 8 x) (digs 8 y) (digs_length 4 _) (digs_length 4 _) (digs_length 4 _) hne
      (digs_length 8 _) (digs_length 4 _) (digs_length 8 _) (digs_length 8 _) (digs_length 8 _) (digs_length 8 _) (high8 hq) (high8 hp) (cmpN (x % z) z) hc
      (widen_any x hx) d1 m1 a1 (mul_any y z hy hz) d2 (cmp_any (x % z) z hr hz) (widen_any y hy) w

set_option maxRecDepth 100000 in
theorem limbDivides_lifted (os : Os) (started : os.Started) (H : Type) (enc : TypeId × Value → H) :
    ReturnsInHanded {} Try.checked os 9 .any (Rows.limbDividesSpec.pre6 enc Try.prog Try.f9 Rows.limbDividesRow.domain false) (Rows.limbDividesSpec.post enc Try.prog Try.f9 false true false false) := by
  refine returnsInHanded_of_change (C := Try.checked) Try.own started (by kernel_rfl) Try.func9
    (ChangeSpec.witness6 (enc := enc) (C := Try.checked) false ⟨#[], #[.agg #[.int .u64 0, .int .u64 0, .int .u64 0, .int .u64 0], .agg #[.int .u64 0, .int .u64 0, .int .u64 0, .int .u64 0], .agg #[.int .u64 0, .int .u64 0, .int .u64 0, .int .u64 0]], []⟩ 8 (by kernel_rfl) (by kernel_rfl) (by kernel_rfl) (by kernel_rfl)) ?_
  intro W base args ds gs before hval0 hW hcnd _
  have hval : ∀ (j : Nat) t v, Try.f9.params[j]? = some t → args[j]? = some v → Value.okWide Try.prog W .any base t v := hval0
  have hW' := hW
  obtain ⟨p, q, hA0, hV, rfl, hfz, hnd⟩ := hW
  have hA : DataW.TrodAll enc Try.prog W 0 (fun _ => true) true Try.f9.params.toList args.toList ds p := hA0
  rw [Try.params9] at hA hval
  obtain ⟨v0, v1, v2, d0, d1, d2, p0, p1, p2, rfl, rfl, rfl, h0, h1, h2⟩ := trodAll_three hA
  obtain ⟨rfl, rfl⟩ := trodVars_none hV
  have l0 : ∀ x ∈ p0, x.block < W.heap.size := by obtain ⟨m, hm⟩ := h0; exact DataW.trod_lt m _ _ _ hm
  have l1 : ∀ x ∈ p1, x.block < W.heap.size := by obtain ⟨m, hm⟩ := h1; exact DataW.trod_lt m _ _ _ hm
  have l2 : ∀ x ∈ p2, x.block < W.heap.size := by obtain ⟨m, hm⟩ := h2; exact DataW.trod_lt m _ _ _ hm
  obtain ⟨x0, hx0, rfl⟩ := open_digits und24 cells24 (hval 0 24 v0 rfl rfl) h0
  obtain ⟨x1, hx1, rfl⟩ := open_digits und24 cells24 (hval 1 24 v1 rfl rfl) h1
  obtain ⟨x2, hx2, rfl⟩ := open_digits und24 cells24 (hval 2 24 v2 rfl rfl) h2
  clear hA0 hval0
  refine (limbDivides_any x0 hx0 x1 hx1 x2 hx2 W).mono fun e W' ⟨he, bel⟩ => ?_
  subst he
  exact ⟨_, rfl, _, _, _, [], _, [], hW', trodAll_mk1 (shut_bool Try.underlying4 _), (trodAll_cons_mk (Below.trod Try.laidOut (by kernel_rfl) (of_decide_eq_true (by kernel_rfl)) h0 bel l0) (trodAll_cons_mk (Below.trod Try.laidOut (by kernel_rfl) (of_decide_eq_true (by kernel_rfl)) h1 bel l1) (trodAll_cons_mk (Below.trod Try.laidOut (by kernel_rfl) (of_decide_eq_true (by kernel_rfl)) h2 bel l2) trodAll_mk0))), rfl, bel.frame _, fun h => by cases h⟩

theorem limbDivides_holds : Rows.LimbDividesSaid :=
  OpenClaim.holds_of_wide 9 Try.f9 rfl rfl rfl rfl rfl rfl rfl ⟨rfl, rfl, rfl, rfl, rfl⟩ rfl rfl rfl rfl rfl (by kernel_rfl) Try.func9 (by kernel_rfl)
    (of_decide_eq_true (by kernel_rfl)) (by unfold Func.isWrapper; first | (rw [if_pos (by decide +kernel)]; kernel_rfl) | (rw [if_neg (by decide +kernel)]; exact ⟨rfl, rfl⟩))
    (fun os started H enc _ => limbDivides_lifted os started H enc)

#print axioms limbDivides_holds
end Go.Proofs.Ytbklepgbieohiaa
