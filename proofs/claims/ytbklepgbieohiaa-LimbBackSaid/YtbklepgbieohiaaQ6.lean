/- limb.Divide, whole. -/
import Derived.Test.YtbklepgbieohiaaQ5
namespace Go.Proofs.Ytbklepgbieohiaa
open Go.RowKit

/-- What both Divides answer. -/
def divV (x y : Nat) : Value := if y = 0 then .tuple #[A8 0, A4 0, .int .i64 10] else .tuple #[A8 (x / y), A4 (x % y), .int .i64 0]

theorem div_any (x y : Nat) (hx : x < B ^ 8) (hy : y < B ^ 4) (w : World) :
    Calls Try.prog 34 #[A8 x, A4 y] w fun e w' => e = .returned (divV x y) ∧ Below w.heap.size w w' := by
  have hl := digs_length 4 y
  have hd := digs_dig 4 y
  have hv : val (digs 4 y) = y := val_digs_lt hy
  have hvx : val (digs 8 x) = x := val_digs_lt hx
  have hz : val ((digs 4 y).take (sz (digs 4 y) 4)) = y := by
    have := val_take_sz (Y := digs 4 y) (n := sz (digs 4 y) 4) (by rw [hl])
    rw [this, hv]
  rcases hn : sz (digs 4 y) 4 with _ | m
  · have h := div_zero (digs 8 x) (digs 4 y) hl hn w
    rw [hn, List.take_zero] at hz
    have e : divV x y = .tuple #[A8 0, A4 0, .int .i64 10] := if_pos hz.symm
    rw [e]
    exact h
  · have h := div_some (digs 8 x) (digs 4 y) (digs_length 8 x) hl (digs_dig 8 x) hd m hn w
    rw [hv, hvx] at h
    have hy0 : y ≠ 0 := by
      intro h0
      have h1 := sz_top (digs 4 y) 4 (by omega)
      have h2 := val_ge hd (k := sz (digs 4 y) 4 - 1) (by rw [hl]; have := sz_le (digs 4 y) 4; omega)
      rw [hv] at h2
      have h3 := Nat.mul_pos (Nat.pos_of_ne_zero h1) (Bpow_pos (sz (digs 4 y) 4 - 1))
      omega
    have e : divV x y = .tuple #[A8 (x / y), A4 (x % y), .int .i64 0] := if_neg hy0
    rw [e]
    exact h
end Go.Proofs.Ytbklepgbieohiaa
