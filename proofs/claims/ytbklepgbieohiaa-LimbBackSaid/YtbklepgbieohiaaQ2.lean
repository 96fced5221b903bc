/- The walk of guess. -/
import Derived.Test.YtbklepgbieohiaaD9
import Derived.Test.YtbklepgbieohiaaQ1
namespace Go.Proofs.Ytbklepgbieohiaa
open Go.RowKit

theorem guess_any (high low top : Nat) (hl : low < B) (ht : top < B) (w : World) :
    Calls Try.prog 50 #[.int .u64 high, .int .u64 low, .int .u64 top] w fun e w' => e = .returned (.int .u64 ((guessN high low top : Nat) : Int)) ∧ Below w.heap.size w w' := by
  by_cases hc : top ≤ high
  · have e : guessN high low top = 18446744073709551615 := if_pos hc
    have h1 : decide (top ≤ high) = true := by simp [hc]
    rw [e]
    clear e
    go_enter Try.func50, Try.ntmps50
    go_wp2
    exact bodyPost_ret (results_tmp rfl _ _ _) rfl ⟨rfl, Below.refl _ _⟩
  · have e : guessN high low top = (high * B + low) / top := if_neg hc
    have h1 : decide (top ≤ high) = false := by simp [hc]
    have hd := Lib.hid (div64_any high low top (by omega) hl ht)
    rw [e]
    clear e
    go_enter Try.func50, Try.ntmps50
    go_wp2_with (go_at_call 54; refine (hd.out _).mono ?_; rintro e w1 ⟨⟨r, rfl⟩, hb⟩)
    exact bodyPost_ret (results_tmp rfl _ _ _) rfl ⟨rfl, hb⟩
end Go.Proofs.Ytbklepgbieohiaa
