/- The walk of works. -/
import Derived.Test.YtbklepgbieohiaaX2
import Derived.Test.YtbklepgbieohiaaI
namespace Go.Proofs.Ytbklepgbieohiaa
open Go.RowKit

theorem ff_text : str (textN 255 (hexn (nlen 255))) = ⟨#[102, 102]⟩ := by
  have e : hexn (nlen 255) = 2 := by decide
  rw [e]; rfl

theorem max_digs : digs 4 ((0 + B ^ 4 - 1) % B ^ 4) = [18446744073709551615, 18446744073709551615, 18446744073709551615, 18446744073709551615] := by decide

set_option maxHeartbeats 400000 in
theorem works_any (w : World) : Calls Try.prog 20 #[] w fun e w' => e = .returned (.bool true) ∧ Below w.heap.size w w' := by
  have h0 := Lib.hid (of_any 0 (by decide))
  have h1 := Lib.hid (of_any 1 (by decide))
  have h255 := Lib.hid (of_any 255 (by decide))
  have h8 := Lib.hid (of_any 8 (by decide))
  have hs : Hid (∀ w, Calls Try.prog 23 #[A4 0, A4 1] w fun e w' => e = .returned (.tuple #[.agg (u64s [18446744073709551615, 18446744073709551615, 18446744073709551615, 18446744073709551615]), .bool true]) ∧ Below w.heap.size w w') :=
    Lib.hid fun w => by
      have h := sub_any 0 1 (by decide) (by decide) w
      have e : A4 ((0 + B ^ 4 - 1) % B ^ 4) = .agg (u64s [18446744073709551615, 18446744073709551615, 18446744073709551615, 18446744073709551615]) := congrArg (fun L => Value.agg (u64s L)) max_digs
      rw [e] at h
      exact h
  have ht : Hid (∀ w, Calls Try.prog 17 #[A4 255] w fun e w' => e = .returned (.string ⟨#[102, 102]⟩) ∧ Below w.heap.size w w') :=
    Lib.hid fun w => by have h := text_any 255 (by decide) w; rw [ff_text] at h; exact h
  have hl := Lib.hid (length_any 8 (by decide))
  have hq : ∀ w, (Op.equalIn 10000 24 (.agg (u64s [18446744073709551615, 18446744073709551615, 18446744073709551615, 18446744073709551615])) (.agg #[.int .u64 18446744073709551615, .int .u64 18446744073709551615, .int .u64 18446744073709551615, .int .u64 18446744073709551615])).run Try.prog w = .ok true w :=
    fun w => equalIn_u64s w 9998 24 4 und24 [18446744073709551615, 18446744073709551615, 18446744073709551615, 18446744073709551615] [18446744073709551615, 18446744073709551615, 18446744073709551615, 18446744073709551615] rfl rfl
  have HQ := Lib.hid hq
  clear hq
  go_enter Try.func20, Try.ntmps20
  go_wp2_with fail
  refine (h0.out _).mono ?_
  rintro e w1 ⟨rfl, hb1⟩
  go_wp2_with fail
  refine (h1.out _).mono ?_
  rintro e w2 ⟨rfl, hb2⟩
  go_wp2_with fail
  refine (hs.out _).mono ?_
  rintro e w3 ⟨rfl, hb3⟩
  have c1 := Lib.hid (bcall (bcall hb1 hb2 hb1.size) hb3 (Nat.le_trans hb1.size hb2.size))
  go_wp2_with (refine store4new rfl _ _ rfl rfl _ rfl rfl _ rfl ?_)
  refine (h255.out _).mono ?_
  rintro e w4 ⟨rfl, hb4⟩
  go_wp2_with fail
  refine (ht.out _).mono ?_
  rintro e w5 ⟨rfl, hb5⟩
  have hX := Lib.hid (((Has.new w3 (u64s [18446744073709551615, 18446744073709551615, 18446744073709551615, 18446744073709551615]) 24).below hb4 (by simp)).below hb5 (Nat.lt_of_lt_of_le (by simp) hb4.size))
  have c2 := Lib.hid (bcall (bcall (c1.out.alloc (Nat.le_trans hb1.size (Nat.le_trans hb2.size hb3.size)) _) hb4 (Nat.le_trans hb1.size (Nat.le_trans hb2.size (Nat.le_trans hb3.size (by simp))))) hb5 (Nat.le_trans hb1.size (Nat.le_trans hb2.size (Nat.le_trans hb3.size (Nat.le_trans (by simp) hb4.size)))))
  have c3 := Lib.hid (Nat.le_trans hb1.size (Nat.le_trans hb2.size (Nat.le_trans hb3.size (Nat.le_trans (show w3.heap.size ≤ _ by simp) (Nat.le_trans hb4.size hb5.size)))))
  clear hb1 hb2 hb3 hb4 hb5
  have hq := HQ.out
  go_wp2_with (refine load4w rfl _ rfl w3.heap.size rfl 24 _ hX.out rfl ?_)
  refine (h8.out _).mono ?_
  rintro e w6 ⟨rfl, hb6⟩
  have c4 := Lib.hid (bcall c2.out hb6 c3.out)
  have c5 := Lib.hid (Nat.le_trans c3.out hb6.size)
  clear hb6
  go_wp2_with fail
  refine (hl.out _).mono ?_
  rintro e w7 ⟨rfl, hb7⟩
  have c6 := Lib.hid (bcall c4.out hb7 c5.out)
  have e4 : nlen 8 = 4 := by decide
  rw [e4]
  go_wp2
  go_ret
  exact ⟨rfl, c6.out⟩
end Go.Proofs.Ytbklepgbieohiaa
