/- The walk of LimbTexts. -/
import Derived.Test.YtbklepgbieohiaaG5
namespace Go.Proofs.Ytbklepgbieohiaa
open Go.RowKit

set_option maxHeartbeats 1000000 in
set_option maxRecDepth 100000 in
theorem texts_bad (X Z Bs : List Nat) (s t s' : ByteArray) (e : Int) (k : Nat) (hlx : X.length = 4) (hlz : Z.length = 4) (hkx : min (s.size : Int) 200 = (k : Int))
    (hs2 : ∀ w, (Instr.slice 9 (.string s) none (some (.int .i64 (k : Int))) none).run Try.prog w = .ok (.string s') w)
    (h15 : ∀ w', Calls Try.prog 15 #[.agg (u64s X)] w' (NewBytes w' Bs))
    (h29 : ∀ w' v, BV w' v Bs → Calls Try.prog 29 #[v] w' fun e w'' => e = .returned (.tuple #[.agg (u64s X), .int .i64 0]) ∧ Below w'.heap.size w' w'')
    (h17 : ∀ w', Calls Try.prog 17 #[.agg (u64s X)] w' fun e w'' => e = .returned (.string t) ∧ Below w'.heap.size w' w'')
    (h32 : ∀ w', Calls Try.prog 32 #[.string t] w' fun e w'' => e = .returned (.tuple #[.agg (u64s X), .int .i64 0]) ∧ Below w'.heap.size w' w'')
    (h32' : ∀ w', Calls Try.prog 32 #[.string s'] w' fun e' w'' => e' = .returned (.tuple #[.agg (u64s Z), .int .i64 e]) ∧ Below w'.heap.size w' w'')
    (he : e ≠ 0) (w : World) :
    Calls Try.prog 6 #[.agg (u64s X), .string s] w fun e w' => e = .returned (.bool true) ∧ Below w.heap.size w w' := by
  have H15 := Lib.hid h15; have H29 := Lib.hid h29; have H17 := Lib.hid h17; have H32 := Lib.hid h32; have H32' := Lib.hid h32'
  clear h15 h29 h17 h32 h32'
  have he1 : (e == 0) = false := by simpa using he
  have he2 : (e != 0) = true := by simpa using he
  clear he
  have hX0 := Lib.hid (Has.new w (u64s X) 24)
  have b0 := Lib.hid ((Below.refl w.heap.size w).alloc (Nat.le_refl _) (.cells (u64s X) 24))
  have hqx := eql4 X X hlx hlx
  go_enter Try.func6, Try.ntmps6
  go_wp2_with (first | (go_at_call 20; refine (works_any _).mono ?_; rintro e1 w1 ⟨rfl, hb1⟩; have bl1 := Lib.hid (bcall b0.out hb1 b0.out.size); have hX1 := Lib.hid (hX0.out.below hb1 hX0.out.lt); clear hb1) | (refine load4 rfl _ rfl _ rfl 24 X hX1.out hlx ?_))
  refine (H15.out _).mono ?_
  rintro e1 w2 ⟨v1, rfl, ho2, hb2⟩
  have bv2 := Lib.hid ho2.bv
  have bl2 := Lib.hid (bcall bl1.out hb2 bl1.out.size)
  have hX2 := Lib.hid (hX1.out.below hb2 hX1.out.lt)
  clear hb2 ho2
  go_wp2_with (first | (go_at_call 29; refine (H29.out _ _ bv2.out).mono ?_; rintro e1 w3 ⟨rfl, hb3⟩; have bl3 := Lib.hid ((bcall bl2.out hb3 bl2.out.size).alloc (Nat.le_trans bl2.out.size hb3.size) (.cells (u64s X) 24)); have hX3 := Lib.hid ((hX2.out.below hb3 hX2.out.lt).alloc (.cells (u64s X) 24)); have hA3 := Lib.hid (Has.new w3 (u64s X) 24); clear hb3) | (refine store4new rfl _ _ rfl rfl X rfl hlx _ rfl ?_) | (refine load4 rfl _ rfl _ rfl 24 X hX3.out hlx ?_) | (go_at_call 17; fail))
  refine (H17.out _).mono ?_
  rintro e1 w4 ⟨rfl, hb4⟩
  have bl4 := Lib.hid (bcall bl3.out hb4 bl3.out.size)
  have hX4 := Lib.hid (hX3.out.below hb4 hX3.out.lt)
  have hA4 := Lib.hid (hA3.out.below hb4 hA3.out.lt)
  clear hb4
  go_wp2_with (go_at_call 32; fail)
  refine (H32.out _).mono ?_
  rintro e1 w5 ⟨rfl, hb5⟩
  have bl5 := Lib.hid ((bcall bl4.out hb5 bl4.out.size).alloc (Nat.le_trans bl4.out.size hb5.size) (.cells (u64s X) 24))
  have hX5 := Lib.hid ((hX4.out.below hb5 hX4.out.lt).alloc (.cells (u64s X) 24))
  have hA5 := Lib.hid ((hA4.out.below hb5 hA4.out.lt).alloc (.cells (u64s X) 24))
  have hB5 := Lib.hid (Has.new w5 (u64s X) 24)
  clear hb5
  go_wp2_with (first | (go_at_call 32; fail) | (refine store4new rfl _ _ rfl rfl X rfl hlx _ rfl ?_))
  refine (H32'.out _).mono ?_
  rintro e1 w6 ⟨rfl, hb6⟩
  have bl6 := Lib.hid ((bcall bl5.out hb6 bl5.out.size).alloc (Nat.le_trans bl5.out.size hb6.size) (.cells (u64s Z) 24))
  have hX6 := Lib.hid ((hX5.out.below hb6 hX5.out.lt).alloc (.cells (u64s Z) 24))
  have hA6 := Lib.hid ((hA5.out.below hb6 hA5.out.lt).alloc (.cells (u64s Z) 24))
  have hB6 := Lib.hid ((hB5.out.below hb6 hB5.out.lt).alloc (.cells (u64s Z) 24))
  have hZ6 := Lib.hid (Has.new w6 (u64s Z) 24)
  clear hb6
  go_wp2_with (first | (refine store4new rfl _ _ rfl rfl Z rfl hlz _ rfl ?_) | (refine load4w rfl _ rfl _ rfl 24 X hX6.out hlx ?_) | (refine load4w rfl _ rfl _ rfl 24 X hA6.out hlx ?_) | (refine load4w rfl _ rfl _ rfl 24 X hB6.out hlx ?_))
  go_ret
  refine ⟨?_, bl6.out⟩
  first | rfl | (go_simp; done) | kernel_rfl

set_option maxHeartbeats 1000000 in
set_option maxRecDepth 100000 in
theorem texts_good (X Z Bs : List Nat) (s t s' : ByteArray) (e : Int) (k : Nat) (hlx : X.length = 4) (hlz : Z.length = 4) (hkx : min (s.size : Int) 200 = (k : Int))
    (hs2 : ∀ w, (Instr.slice 9 (.string s) none (some (.int .i64 (k : Int))) none).run Try.prog w = .ok (.string s') w)
    (h15 : ∀ w', Calls Try.prog 15 #[.agg (u64s X)] w' (NewBytes w' Bs))
    (h29 : ∀ w' v, BV w' v Bs → Calls Try.prog 29 #[v] w' fun e w'' => e = .returned (.tuple #[.agg (u64s X), .int .i64 0]) ∧ Below w'.heap.size w' w'')
    (h17 : ∀ w', Calls Try.prog 17 #[.agg (u64s X)] w' fun e w'' => e = .returned (.string t) ∧ Below w'.heap.size w' w'')
    (h32 : ∀ w', Calls Try.prog 32 #[.string t] w' fun e w'' => e = .returned (.tuple #[.agg (u64s X), .int .i64 0]) ∧ Below w'.heap.size w' w'')
    (h32' : ∀ w', Calls Try.prog 32 #[.string s'] w' fun e' w'' => e' = .returned (.tuple #[.agg (u64s Z), .int .i64 e]) ∧ Below w'.heap.size w' w'')
    (he : e = 0) (hz : ∀ w', Calls Try.prog 17 #[.agg (u64s Z)] w' fun e w'' => e = .returned (.string s') ∧ Below w'.heap.size w' w'') (w : World) :
    Calls Try.prog 6 #[.agg (u64s X), .string s] w fun e w' => e = .returned (.bool true) ∧ Below w.heap.size w w' := by
  have H15 := Lib.hid h15; have H29 := Lib.hid h29; have H17 := Lib.hid h17; have H32 := Lib.hid h32; have H32' := Lib.hid h32'
  clear h15 h29 h17 h32 h32'
  subst he
  have HZ := Lib.hid hz
  clear hz
  have hX0 := Lib.hid (Has.new w (u64s X) 24)
  have b0 := Lib.hid ((Below.refl w.heap.size w).alloc (Nat.le_refl _) (.cells (u64s X) 24))
  have hqx := eql4 X X hlx hlx
  go_enter Try.func6, Try.ntmps6
  go_wp2_with (first | (go_at_call 20; refine (works_any _).mono ?_; rintro e1 w1 ⟨rfl, hb1⟩; have bl1 := Lib.hid (bcall b0.out hb1 b0.out.size); have hX1 := Lib.hid (hX0.out.below hb1 hX0.out.lt); clear hb1) | (refine load4 rfl _ rfl _ rfl 24 X hX1.out hlx ?_))
  refine (H15.out _).mono ?_
  rintro e1 w2 ⟨v1, rfl, ho2, hb2⟩
  have bv2 := Lib.hid ho2.bv
  have bl2 := Lib.hid (bcall bl1.out hb2 bl1.out.size)
  have hX2 := Lib.hid (hX1.out.below hb2 hX1.out.lt)
  clear hb2 ho2
  go_wp2_with (first | (go_at_call 29; refine (H29.out _ _ bv2.out).mono ?_; rintro e1 w3 ⟨rfl, hb3⟩; have bl3 := Lib.hid ((bcall bl2.out hb3 bl2.out.size).alloc (Nat.le_trans bl2.out.size hb3.size) (.cells (u64s X) 24)); have hX3 := Lib.hid ((hX2.out.below hb3 hX2.out.lt).alloc (.cells (u64s X) 24)); have hA3 := Lib.hid (Has.new w3 (u64s X) 24); clear hb3) | (refine store4new rfl _ _ rfl rfl X rfl hlx _ rfl ?_) | (refine load4 rfl _ rfl _ rfl 24 X hX3.out hlx ?_) | (go_at_call 17; fail))
  refine (H17.out _).mono ?_
  rintro e1 w4 ⟨rfl, hb4⟩
  have bl4 := Lib.hid (bcall bl3.out hb4 bl3.out.size)
  have hX4 := Lib.hid (hX3.out.below hb4 hX3.out.lt)
  have hA4 := Lib.hid (hA3.out.below hb4 hA3.out.lt)
  clear hb4
  go_wp2_with (go_at_call 32; fail)
  refine (H32.out _).mono ?_
  rintro e1 w5 ⟨rfl, hb5⟩
  have bl5 := Lib.hid ((bcall bl4.out hb5 bl4.out.size).alloc (Nat.le_trans bl4.out.size hb5.size) (.cells (u64s X) 24))
  have hX5 := Lib.hid ((hX4.out.below hb5 hX4.out.lt).alloc (.cells (u64s X) 24))
  have hA5 := Lib.hid ((hA4.out.below hb5 hA4.out.lt).alloc (.cells (u64s X) 24))
  have hB5 := Lib.hid (Has.new w5 (u64s X) 24)
  clear hb5
  go_wp2_with (first | (go_at_call 32; fail) | (refine store4new rfl _ _ rfl rfl X rfl hlx _ rfl ?_))
  refine (H32'.out _).mono ?_
  rintro e1 w6 ⟨rfl, hb6⟩
  have bl6 := Lib.hid ((bcall bl5.out hb6 bl5.out.size).alloc (Nat.le_trans bl5.out.size hb6.size) (.cells (u64s Z) 24))
  have hX6 := Lib.hid ((hX5.out.below hb6 hX5.out.lt).alloc (.cells (u64s Z) 24))
  have hA6 := Lib.hid ((hA5.out.below hb6 hA5.out.lt).alloc (.cells (u64s Z) 24))
  have hB6 := Lib.hid ((hB5.out.below hb6 hB5.out.lt).alloc (.cells (u64s Z) 24))
  have hZ6 := Lib.hid (Has.new w6 (u64s Z) 24)
  clear hb6
  go_wp2_with (first | (refine store4new rfl _ _ rfl rfl Z rfl hlz _ rfl ?_) | (refine load4w rfl _ rfl _ rfl 24 X hX6.out hlx ?_) | (refine load4w rfl _ rfl _ rfl 24 X hA6.out hlx ?_) | (refine load4w rfl _ rfl _ rfl 24 X hB6.out hlx ?_) | (refine load4w rfl _ rfl _ rfl 24 Z hZ6.out hlz ?_) | (go_at_call 17; refine (HZ.out _).mono ?_; rintro e1 w7 ⟨rfl, hb7⟩; have bl7 := Lib.hid (bcall bl6.out hb7 bl6.out.size); clear hb7))
  go_ret
  refine ⟨?_, bl7.out⟩
  first | rfl | (go_simp; done) | kernel_rfl

end Go.Proofs.Ytbklepgbieohiaa
