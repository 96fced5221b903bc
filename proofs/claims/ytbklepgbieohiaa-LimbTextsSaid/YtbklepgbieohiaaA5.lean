/- The walk of digit. -/
import Derived.Test.YtbklepgbieohiaaA4
namespace Go.Proofs.Ytbklepgbieohiaa
open Go.RowKit

def isHex (c : Nat) : Bool := decide (48 ≤ c ∧ c ≤ 57 ∨ 97 ≤ c ∧ c ≤ 102)
def hexv (c : Nat) : Nat := if 97 ≤ c then c - 87 else c - 48
theorem hexv_lt {c : Nat} (h : isHex c = true) : hexv c < 16 := by
  simp [isHex] at h; unfold hexv; split <;> omega

set_option maxRecDepth 100000 in
theorem digit_core (c : Nat) (a b d e : Bool) (x y r : Nat) (R : Bool) (ha : decide ((97 : Int) ≤ (c : Int)) = a) (hb : decide ((c : Int) ≤ 102) = b) (hd : decide ((48 : Int) ≤ (c : Int)) = d) (he : decide ((c : Int) ≤ 57) = e)
    (h1 : ((c : Int) - 48) % 256 = (x : Int)) (h2 : ((c : Int) - 97) % 256 = (y : Int))
    (hr : (if (a && b) = true then y + 10 else if (d && e) = true then x else 0) = r) (hR : (a && b || d && e) = R) (w : World) :
    Calls Try.prog 47 #[.int .u8 c] w fun e w' => e = .returned (.tuple #[.int .u64 r, .bool R]) ∧ Below w.heap.size w w' := by
  cases a <;> cases b <;> cases d <;> cases e <;> simp at hr hR <;> subst hr <;> subst hR <;>
    (go_enter Try.func47, Try.ntmps47
     go_wp2
     refine bodyPost_ret (results_tmp2 rfl _ _ _) rfl ⟨rfl, Below.refl _ _⟩)

theorem digit_any (c : Nat) (hc : c < 256) (w : World) :
    Calls Try.prog 47 #[.int .u8 c] w fun e w' => e = .returned (.tuple #[.int .u64 ((if isHex c then hexv c else 0 : Nat) : Int), .bool (isHex c)]) ∧ Below w.heap.size w w' := by
  refine digit_core c _ _ _ _ ((c + 256 - 48) % 256) ((c + 256 - 97) % 256) _ _ rfl rfl rfl rfl (by omega) (by omega) ?_ ?_ w
  · simp only [Bool.and_eq_true, decide_eq_true_eq, isHex, hexv]
    by_cases g1 : 97 ≤ c
    · by_cases g2 : c ≤ 102
      · rw [if_pos (by omega), if_pos (by omega), if_pos g1]; omega
      · rw [if_neg (by omega), if_neg (by omega), if_neg (by omega)]
    · rw [if_neg (by omega), if_neg g1]
      by_cases g2 : 48 ≤ c ∧ c ≤ 57
      · rw [if_pos (by omega), if_pos (by omega)]; omega
      · rw [if_neg (by omega), if_neg (by omega)]
  · simp only [isHex, ← Bool.decide_and, ← Bool.decide_or]
    congr 1
    simp only [eq_iff_iff]
    omega
end Go.Proofs.Ytbklepgbieohiaa
