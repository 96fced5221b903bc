/- The walks of the reference's Add, Sub, Compare. -/
import Derived.Test.YtbklepgbieohiaaS
import Derived.BigQuiet
import Derived.Deep.QuietTactic
namespace Go.Proofs.Ytbklepgbieohiaa
open Go.RowKit

/-- A test on naturals as the walk spells it. -/
theorem dec_t {p : Prop} [Decidable p] (h : p) : decide p = true := by simp [h]
theorem dec_f {p : Prop} [Decidable p] (h : ¬ p) : decide p = false := by simp [h]

theorem radd_step {x y b : Nat} (hx : x < B) (hy : y < B) (hb : b ≤ 1) :
    uadd (uadd x y) b + (if uadd x y < x ∨ uadd (uadd x y) b < uadd x y then 1 else 0) * B = x + y + b := by
  have h1 : uadd x y = if x + y < B then x + y else x + y - B := by
    unfold uadd; split
    · exact Nat.mod_eq_of_lt (by omega)
    · rw [Nat.mod_eq_sub_mod (by omega), Nat.mod_eq_of_lt (by omega)]
  have h2 : uadd (uadd x y) b = if uadd x y + b < B then uadd x y + b else uadd x y + b - B := by
    have := uadd_lt x y
    show (uadd x y + b) % B = _
    split
    · exact Nat.mod_eq_of_lt (by omega)
    · rw [Nat.mod_eq_sub_mod (by omega), Nat.mod_eq_of_lt (by omega)]
  have h3 := uadd_lt x y
  have hB : 1 < B := by decide
  generalize uadd (uadd x y) b = t at *
  generalize uadd x y = s at *
  split at h1 <;> split at h2 <;> split <;> omega

set_option maxHeartbeats 400000 in
theorem radd_core (X Y R : List Nat) (D : Bool) (hlx : X.length = 4) (hly : Y.length = 4) (hdx : Dig X) (hdy : Dig Y)
    (HF : Hid (∀ b A, AddOut X Y 4 b A → A = R ∧ decide (0 < b) = D)) (w : World) :
    Calls Try.prog 22 #[.agg (u64s X), .agg (u64s Y)] w fun e w' => e = .returned (.tuple #[.agg (u64s R), .bool D]) ∧ Below w.heap.size w w' := by
  go_enter Try.func22, Try.ntmps22
  go_wp2
  go_loopw [7, 8] (fun c i wr => ∃ (k b : Nat) (A : List Nat), k ≤ 4 ∧ AddOut X Y k b A ∧ i = .int .i64 k ∧ c = .int .u64 b ∧ Below w.heap.size w wr
      ∧ Has wr w.heap.size 24 (u64s X) ∧ Has wr (w.heap.size + 1) 24 (u64s Y) ∧ Has wr (w.heap.size + 1 + 1) 24 (u64s [0, 0, 0, 0]) ∧ Has wr (w.heap.size + 1 + 1 + 1) 24 (u64s A)) (fun _ i _ => 4 - (intOf i).toNat)
  case atStart =>
    refine ⟨0, 0, [0, 0, 0, 0], by omega, AddOut.start Y _ (by simp [Dig, B]) (by simp [hlx]), rfl, rfl, ?_, ?_, ?_, ?_, ?_⟩
    · exact ((((Below.refl _ _).alloc (Nat.le_refl _) _).alloc (by simp) _).alloc (by simp; omega) _).alloc (by simp; omega) _
    · exact (((Has.new w _ _).alloc _).alloc _).alloc _
    · have := (((Has.new (w.alloc (.cells (u64s X) 24)) (u64s Y) 24).alloc (.cells (u64s [0, 0, 0, 0]) 24)).alloc (.cells (u64s [0, 0, 0, 0]) 24))
      simpa [u64s] using this
    · have := (Has.new ((w.alloc (.cells (u64s X) 24)).alloc (.cells (u64s Y) 24)) (u64s [0, 0, 0, 0]) 24).alloc (.cells (u64s [0, 0, 0, 0]) 24)
      simpa [u64s] using this
    · have := (Has.new (((w.alloc (.cells (u64s X) 24)).alloc (.cells (u64s Y) 24)).alloc (.cells (u64s [0, 0, 0, 0]) 24)) (u64s [0, 0, 0, 0]) 24)
      simpa [u64s] using this
  case round =>
    obtain ⟨k, b, A, hk, hR, rfl, rfl, hbel, hA, hY, hZ, hO⟩ := hrel
    by_cases hlt : k < 4
    · have h1 := hA.cell (k := k) (by rw [hlx]; exact hlt)
      have h2 := hY.cell (k := k) (by rw [hly]; exact hlt)
      have h3 := hO.cell (k := k) (by rw [hR.len, hlx]; exact hlt)
      have h4 := hO.free k
      have hw1 := wrap_add (nth X k) (nth Y k)
      have hw2 := wrap_add (uadd (nth X k) (nth Y k)) b
      have hst := Lib.hid (radd_step (hdx.get k) (hdy.get k) hR.bor)
      have HA := Lib.hid hA; have HY := Lib.hid hY; have HZ := Lib.hid hZ; have HR := Lib.hid hR; have HO := Lib.hid hO
      clear hA hY hZ hR hO
      by_cases c1 : uadd (nth X k) (nth Y k) < nth X k
      · have c1' := dec_t c1
        have hst2 := Lib.hid (by have := hst.out; rw [if_pos (Or.inl c1)] at this; exact this)
        clear c1
        go_wp2
        go_region
        go_wp2
        go_roundw
        case rel =>
          refine ⟨k + 1, 1, _, by omega, HR.out.step (by rw [hlx]; exact hlt) (by rw [hlx, hly]) hst2.out (by omega) (uadd_lt _ _), by go_num, rfl, ?_, ?_, ?_, ?_, ?_⟩
          · exact (hbel.setCell (by simp <;> omega) _).drew
          · exact HA.out.other (by simp <;> omega) _
          · exact HY.out.other (by simp <;> omega) _
          · exact HZ.out.other (by simp <;> omega) _
          · exact HO.out.set k _
        case measure => simp [intOf]; omega
      · have c1' := dec_f c1
        by_cases c2 : uadd (uadd (nth X k) (nth Y k)) b < uadd (nth X k) (nth Y k)
        · have c2' := dec_t c2
          have hst2 := Lib.hid (by have := hst.out; rw [if_pos (Or.inr c2)] at this; exact this)
          clear c1 c2
          go_wp2
          go_region
          go_wp2
          go_roundw
          case rel =>
            refine ⟨k + 1, 1, _, by omega, HR.out.step (by rw [hlx]; exact hlt) (by rw [hlx, hly]) hst2.out (by omega) (uadd_lt _ _), by go_num, rfl, ?_, ?_, ?_, ?_, ?_⟩
            · exact (hbel.setCell (by simp <;> omega) _).drew
            · exact HA.out.other (by simp <;> omega) _
            · exact HY.out.other (by simp <;> omega) _
            · exact HZ.out.other (by simp <;> omega) _
            · exact HO.out.set k _
          case measure => simp [intOf]; omega
        · have c2' := dec_f c2
          have hst2 := Lib.hid (by have := hst.out; rw [if_neg (by rintro (h | h); exact c1 h; exact c2 h)] at this; exact this)
          clear c1 c2
          go_wp2
          go_region
          go_wp2
          go_roundw
          case rel =>
            refine ⟨k + 1, 0, _, by omega, HR.out.step (by rw [hlx]; exact hlt) (by rw [hlx, hly]) hst2.out (by omega) (uadd_lt _ _), by go_num, rfl, ?_, ?_, ?_, ?_, ?_⟩
            · exact (hbel.setCell (by simp <;> omega) _).drew
            · exact HA.out.other (by simp <;> omega) _
            · exact HY.out.other (by simp <;> omega) _
            · exact HZ.out.other (by simp <;> omega) _
            · exact HO.out.set k _
          case measure => simp [intOf]; omega
    · obtain rfl : k = 4 := by omega
      have HO := Lib.hid hO; have HZ := Lib.hid hZ
      have hAl : A.length = 4 := by rw [hR.len, hlx]
      have hfin := Lib.hid (HF.out b A hR)
      clear hA hY hZ hR hO
      go_wp2_with (first | (refine load4 rfl _ rfl (w.heap.size + 1 + 1 + 1) rfl 24 A HO.out hAl ?_) | (refine store4 rfl _ _ rfl (w.heap.size + 1 + 1) rfl A rfl 24 _ HZ.out hAl rfl ?_; intro w1 hw1 ho1))
      refine bodyPost_ret (res4t rfl rfl hw1 hAl) rfl ⟨?_, ho1.below hbel (by omega)⟩
      show Ending.returned (.tuple #[.agg (u64s A), .bool (decide (0 < b))]) = _
      rw [hfin.out.1, hfin.out.2]
theorem radd_any (x y : Nat) (hx : x < B ^ 4) (hy : y < B ^ 4) (w : World) :
    Calls Try.prog 22 #[A4 x, A4 y] w fun e w' => e = .returned (.tuple #[A4 ((x + y) % B ^ 4), .bool (decide (B ^ 4 ≤ x + y))]) ∧ Below w.heap.size w w' :=
  radd_core _ _ _ _ (digs_length 4 x) (digs_length 4 y) (digs_dig 4 x) (digs_dig 4 y) (fun _ _ h => by
    obtain ⟨h1, h2⟩ := h.result hx hy
    refine ⟨h1, ?_⟩
    rw [h2]; by_cases h : B ^ 4 ≤ x + y <;> simp [h]) w

theorem rsub_step {x y b : Nat} (hx : x < B) (hy : y < B) (hb : b ≤ 1) :
    usub (usub x y) b + y + b = x + (if x < y ∨ usub x y < b then 1 else 0) * B := by
  have hB : 1 < B := by decide
  have h1 : usub x y = if x < y then x + B - y else x - y := by
    unfold usub; split
    · exact Nat.mod_eq_of_lt (by omega)
    · rw [Nat.mod_eq_sub_mod (by omega), Nat.mod_eq_of_lt (by omega)]; omega
  have h2 : usub (usub x y) b = if usub x y < b then usub x y + B - b else usub x y - b := by
    have := usub_lt x y
    show (usub x y + B - b) % B = _
    split
    · exact Nat.mod_eq_of_lt (by omega)
    · rw [Nat.mod_eq_sub_mod (by omega), Nat.mod_eq_of_lt (by omega)]; omega
  have h3 := usub_lt x y
  generalize usub (usub x y) b = t at *
  generalize usub x y = s at *
  split at h1 <;> split at h2 <;> split <;> omega

set_option maxHeartbeats 400000 in
theorem rsub_core (X Y R : List Nat) (D : Bool) (hlx : X.length = 4) (hly : Y.length = 4) (hdx : Dig X) (hdy : Dig Y)
    (HF : Hid (∀ b A, SubOut X Y 4 b A → A = R ∧ decide (0 < b) = D)) (w : World) :
    Calls Try.prog 24 #[.agg (u64s X), .agg (u64s Y)] w fun e w' => e = .returned (.tuple #[.agg (u64s R), .bool D]) ∧ Below w.heap.size w w' := by
  go_enter Try.func24, Try.ntmps24
  go_wp2
  go_loopw [7, 8] (fun c i wr => ∃ (k b : Nat) (A : List Nat), k ≤ 4 ∧ SubOut X Y k b A ∧ i = .int .i64 k ∧ c = .int .u64 b ∧ Below w.heap.size w wr
      ∧ Has wr w.heap.size 24 (u64s X) ∧ Has wr (w.heap.size + 1) 24 (u64s Y) ∧ Has wr (w.heap.size + 1 + 1) 24 (u64s [0, 0, 0, 0]) ∧ Has wr (w.heap.size + 1 + 1 + 1) 24 (u64s A)) (fun _ i _ => 4 - (intOf i).toNat)
  case atStart =>
    refine ⟨0, 0, [0, 0, 0, 0], by omega, SubOut.start Y _ (by simp [Dig, B]) (by simp [hlx]), rfl, rfl, ?_, ?_, ?_, ?_, ?_⟩
    · exact ((((Below.refl _ _).alloc (Nat.le_refl _) _).alloc (by simp) _).alloc (by simp; omega) _).alloc (by simp; omega) _
    · exact (((Has.new w _ _).alloc _).alloc _).alloc _
    · have := (((Has.new (w.alloc (.cells (u64s X) 24)) (u64s Y) 24).alloc (.cells (u64s [0, 0, 0, 0]) 24)).alloc (.cells (u64s [0, 0, 0, 0]) 24))
      simpa [u64s] using this
    · have := (Has.new ((w.alloc (.cells (u64s X) 24)).alloc (.cells (u64s Y) 24)) (u64s [0, 0, 0, 0]) 24).alloc (.cells (u64s [0, 0, 0, 0]) 24)
      simpa [u64s] using this
    · have := (Has.new (((w.alloc (.cells (u64s X) 24)).alloc (.cells (u64s Y) 24)).alloc (.cells (u64s [0, 0, 0, 0]) 24)) (u64s [0, 0, 0, 0]) 24)
      simpa [u64s] using this
  case round =>
    obtain ⟨k, b, A, hk, hR, rfl, rfl, hbel, hA, hY, hZ, hO⟩ := hrel
    by_cases hlt : k < 4
    · have h1 := hA.cell (k := k) (by rw [hlx]; exact hlt)
      have h2 := hY.cell (k := k) (by rw [hly]; exact hlt)
      have h3 := hO.cell (k := k) (by rw [hR.len, hlx]; exact hlt)
      have h4 := hO.free k
      have hw1 := wrap_sub (nth X k) (nth Y k) (hdy.get k)
      have hw2 := wrap_sub (usub (nth X k) (nth Y k)) b (by have h1 := hR.bor; have h2 : 1 < B := (by decide); omega)
      have hst := Lib.hid (rsub_step (hdx.get k) (hdy.get k) hR.bor)
      have HA := Lib.hid hA; have HY := Lib.hid hY; have HZ := Lib.hid hZ; have HR := Lib.hid hR; have HO := Lib.hid hO
      clear hA hY hZ hR hO
      by_cases c1 : nth X k < nth Y k
      · have c1' := dec_t c1
        have hst2 := Lib.hid (by have := hst.out; rw [if_pos (Or.inl c1)] at this; exact this)
        clear c1
        go_wp2
        go_region
        go_wp2
        go_region
        go_wp2
        go_roundw
        case rel =>
          refine ⟨k + 1, 1, _, by omega, HR.out.step (by rw [hlx]; exact hlt) (by rw [hlx, hly]) hst2.out (by omega) (usub_lt _ _), by go_num, rfl, ?_, ?_, ?_, ?_, ?_⟩
          · exact (hbel.setCell (by simp <;> omega) _).drew.drew
          · exact HA.out.other (by simp <;> omega) _
          · exact HY.out.other (by simp <;> omega) _
          · exact HZ.out.other (by simp <;> omega) _
          · exact HO.out.set k _
        case measure => simp [intOf]; omega
      · have c1' := dec_f c1
        by_cases c2 : usub (nth X k) (nth Y k) < b
        · have c2' := dec_t c2
          have hst2 := Lib.hid (by have := hst.out; rw [if_pos (Or.inr c2)] at this; exact this)
          clear c1 c2
          go_wp2
          go_region
          go_wp2
          go_region
          go_wp2
          go_roundw
          case rel =>
            refine ⟨k + 1, 1, _, by omega, HR.out.step (by rw [hlx]; exact hlt) (by rw [hlx, hly]) hst2.out (by omega) (usub_lt _ _), by go_num, rfl, ?_, ?_, ?_, ?_, ?_⟩
            · exact (hbel.setCell (by simp <;> omega) _).drew.drew
            · exact HA.out.other (by simp <;> omega) _
            · exact HY.out.other (by simp <;> omega) _
            · exact HZ.out.other (by simp <;> omega) _
            · exact HO.out.set k _
          case measure => simp [intOf]; omega
        · have c2' := dec_f c2
          have hst2 := Lib.hid (by have := hst.out; rw [if_neg (by rintro (h | h); exact c1 h; exact c2 h)] at this; exact this)
          clear c1 c2
          go_wp2
          go_region
          go_wp2
          go_region
          go_wp2
          go_roundw
          case rel =>
            refine ⟨k + 1, 0, _, by omega, HR.out.step (by rw [hlx]; exact hlt) (by rw [hlx, hly]) hst2.out (by omega) (usub_lt _ _), by go_num, rfl, ?_, ?_, ?_, ?_, ?_⟩
            · exact (hbel.setCell (by simp <;> omega) _).drew.drew
            · exact HA.out.other (by simp <;> omega) _
            · exact HY.out.other (by simp <;> omega) _
            · exact HZ.out.other (by simp <;> omega) _
            · exact HO.out.set k _
          case measure => simp [intOf]; omega
    · obtain rfl : k = 4 := by omega
      have HO := Lib.hid hO; have HZ := Lib.hid hZ
      have hAl : A.length = 4 := by rw [hR.len, hlx]
      have hfin := Lib.hid (HF.out b A hR)
      clear hA hY hZ hR hO
      go_wp2_with (first | (refine load4 rfl _ rfl (w.heap.size + 1 + 1 + 1) rfl 24 A HO.out hAl ?_) | (refine store4 rfl _ _ rfl (w.heap.size + 1 + 1) rfl A rfl 24 _ HZ.out hAl rfl ?_; intro w1 hw1 ho1))
      refine bodyPost_ret (res4t rfl rfl hw1 hAl) rfl ⟨?_, ho1.below hbel (by omega)⟩
      show Ending.returned (.tuple #[.agg (u64s A), .bool (decide (0 < b))]) = _
      rw [hfin.out.1, hfin.out.2]
theorem rsub_any (x y : Nat) (hx : x < B ^ 4) (hy : y < B ^ 4) (w : World) :
    Calls Try.prog 24 #[A4 x, A4 y] w fun e w' => e = .returned (.tuple #[A4 ((x + B ^ 4 - y) % B ^ 4), .bool (decide (x < y))]) ∧ Below w.heap.size w w' :=
  rsub_core _ _ _ _ (digs_length 4 x) (digs_length 4 y) (digs_dig 4 x) (digs_dig 4 y) (fun _ _ h => by
    obtain ⟨h1, h2⟩ := h.result hx hy
    refine ⟨h1, ?_⟩
    rw [h2]; by_cases h : x < y <;> simp [h]) w

end Go.Proofs.Ytbklepgbieohiaa
