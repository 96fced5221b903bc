/- ref.Divide, whole. -/
import Derived.Test.YtbklepgbieohiaaO3
namespace Go.Proofs.Ytbklepgbieohiaa
open Go.RowKit

theorem rdiv_any (x y : Nat) (hx : x < B ^ 8) (hy : y < B ^ 4) (w : World) :
    Calls Try.prog 35 #[A8 x, A4 y] w fun e w' => e = .returned (divV x y) ∧ Below w.heap.size w w' := by
  by_cases h0 : y = 0
  · subst h0
    have e : divV x 0 = .tuple #[A8 0, A4 0, .int .i64 10] := if_pos rfl
    rw [e]
    exact rdiv_zero (digs 8 x) w
  · have hl := digs_length 4 y
    have hd := digs_dig 4 y
    have hv : val (digs 4 y) = y := val_digs_lt hy
    have hvx : val (digs 8 x) = x := val_digs_lt hx
    have hne : (digs 4 y == [0, 0, 0, 0]) = false := by
      have h := digs_beq (k := 4) hy (show 0 < B ^ 4 from Bpow_pos 4)
      rw [show digs 4 0 = [0, 0, 0, 0] from rfl] at h
      rw [h]
      exact decide_eq_false h0
    have h := rdiv_some (digs 8 x) (digs 4 y) (digs_length 8 x) hl (digs_dig 8 x) hd hne (by rw [hv]; omega) w
    rw [hv, hvx] at h
    have e : divV x y = .tuple #[A8 (x / y), A4 (x % y), .int .i64 0] := if_neg h0
    rw [e]
    exact h
end Go.Proofs.Ytbklepgbieohiaa
