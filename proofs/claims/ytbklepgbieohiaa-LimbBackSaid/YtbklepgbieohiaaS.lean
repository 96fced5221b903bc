/- The walks of limb.Add and limb.Sub. -/
import Derived.Test.YtbklepgbieohiaaW
import Derived.RegionTactic
import Derived.BigRegion
import Derived.Shelf.Spec.BitsCarry
namespace Go.Proofs.Ytbklepgbieohiaa
open Go.RowKit

def sD (x y b : Nat) : Nat := (x + B - y - b) % B
def sB (x y b : Nat) : Nat := if x < y + b then 1 else 0
def aD (x y b : Nat) : Nat := (x + y + b) % B
def aB (x y b : Nat) : Nat := (x + y + b) / B

theorem sub64 (x y b : Nat) (hb : b ≤ 1) (w : World) :
    (callFunc 44 #[.int .u64 x, .int .u64 y, .int .u64 b]).run Try.prog w =
      .ok (.value (.tuple #[.int .u64 (sD x y b), .int .u64 (sB x y b)])) w := by
  rw [run_callFunc_extern Try.func44 (by kernel_rfl) (by kernel_rfl) (by kernel_rfl) (e := sub64Entry) (by kernel_rfl), run_sub64 x y b hb]
  rfl

theorem sub_step {x y b : Nat} (hx : x < B) (hy : y < B) (hb : b ≤ 1) : sD x y b + y + b = x + sB x y b * B ∧ sB x y b ≤ 1 ∧ sD x y b < B := by
  refine ⟨?_, ?_, Nat.mod_lt _ B_pos⟩
  · unfold sD sB
    split
    · rw [Nat.mod_eq_of_lt (by omega)]; omega
    · have h : x + B - y - b = x - y - b + B := by omega
      rw [h, Nat.add_mod_right, Nat.mod_eq_of_lt (by omega)]; omega
  · unfold sB; split <;> omega

/-- k digits of a difference. -/
structure SubOut (X Y : List Nat) (k b : Nat) (A : List Nat) : Prop where
  len : A.length = X.length
  dig : Dig A
  bor : b ≤ 1
  eq : val (A.take k) + val (Y.take k) = val (X.take k) + b * B ^ k

/-- The state of the loop of Sub. -/
structure SubRel (X Y : List Nat) (k b : Nat) (A : List Nat) : Prop extends SubOut X Y k b A where
  rest : A.drop k = X.drop k

theorem SubOut.step {X Y A : List Nat} {k b d c : Nat} (h : SubOut X Y k b A) (hk : k < X.length) (hl : Y.length = X.length)
    (hs : d + nth Y k + b = nth X k + c * B) (hc : c ≤ 1) (hd : d < B) : SubOut X Y (k + 1) c (A.set k d) := by
  refine ⟨by simp [h.len], h.dig.set k hd, hc, ?_⟩
  rw [val_take_set (by rw [h.len]; exact hk), val_take_succ hk, val_take_succ (by rw [hl]; exact hk)]
  have h1 := h.eq
  generalize nth X k = x at *
  generalize nth Y k = y at *
  rw [Nat.pow_succ]
  generalize B ^ k = p at *
  have h3 : p * d + p * y + p * b = p * x + c * (p * B) := by
    have := congrArg (p * ·) hs
    simp only [Nat.mul_add] at this
    rw [this, Nat.mul_left_comm c p B]
  rw [Nat.mul_comm b p] at h1
  omega

theorem SubRel.start {X : List Nat} (Y : List Nat) (hX : Dig X) : SubRel X Y 0 0 X := ⟨⟨rfl, hX, by omega, by simp [val]⟩, rfl⟩
theorem SubOut.start {X : List Nat} (Y : List Nat) (A : List Nat) (hA : Dig A) (hl : A.length = X.length) : SubOut X Y 0 0 A := ⟨hl, hA, by omega, by simp [val]⟩

theorem SubRel.step {X Y A : List Nat} {k b : Nat} (h : SubRel X Y k b A) (hX : Dig X) (hY : Dig Y) (hk : k < X.length) (hl : Y.length = X.length) :
    SubRel X Y (k + 1) (sB (nth A k) (nth Y k) b) (A.set k (sD (nth A k) (nth Y k) b)) := by
  have ha : nth A k = nth X k := nth_of_drop h.rest
  have hs := sub_step (hX.get k) (hY.get k) h.bor
  rw [ha]
  exact ⟨h.toSubOut.step hk hl hs.1 hs.2.1 hs.2.2, by rw [drop_set_succ]; exact drop_succ_of_drop h.rest⟩

/-- What a loop of a difference has come to. -/
theorem SubOut.result {x y b : Nat} {A : List Nat} (h : SubOut (digs 4 x) (digs 4 y) 4 b A) (hx : x < B ^ 4) (hy : y < B ^ 4) :
    A = digs 4 ((x + B ^ 4 - y) % B ^ 4) ∧ b = if x < y then 1 else 0 := by
  have hl : A.length = 4 := by rw [h.len, digs_length]
  have h1 := h.eq
  rw [List.take_of_length_le (by omega), List.take_of_length_le (by rw [digs_length]; omega), List.take_of_length_le (by rw [digs_length]; omega), val_digs_lt hx, val_digs_lt hy] at h1
  have h2 := val_lt h.dig
  rw [hl] at h2
  have h3 := h.bor
  generalize B ^ 4 = p at *
  have hb : b = 0 ∨ b = 1 := by omega
  constructor
  · rw [eq_digs hl h.dig]
    congr 1
    rcases hb with rfl | rfl
    · have : x + p - y = val A + p := by omega
      rw [this, Nat.add_mod_right, Nat.mod_eq_of_lt h2]
    · rw [Nat.mod_eq_of_lt (by omega)]; omega
  · rcases hb with rfl | rfl
    · rw [if_neg (by omega)]
    · rw [if_pos (by omega)]

theorem SubRel.result {x y b : Nat} {A : List Nat} (h : SubRel (digs 4 x) (digs 4 y) 4 b A) (hx : x < B ^ 4) (hy : y < B ^ 4) :
    A = digs 4 ((x + B ^ 4 - y) % B ^ 4) ∧ (((b : Nat) : Int) == 1) = decide (x < y) := by
  obtain ⟨h1, h2⟩ := h.toSubOut.result hx hy
  refine ⟨h1, ?_⟩
  rw [h2]
  by_cases h : x < y <;> simp [h]

set_option maxHeartbeats 400000 in
theorem sub_core (X Y R : List Nat) (D : Bool) (hlx : X.length = 4) (hly : Y.length = 4) (hdx : Dig X) (hdy : Dig Y)
    (HF : Hid (∀ b A, SubRel X Y 4 b A → A = R ∧ (((b : Nat) : Int) == 1) = D)) (w : World) :
    Calls Try.prog 23 #[.agg (u64s X), .agg (u64s Y)] w fun e w' => e = .returned (.tuple #[.agg (u64s R), .bool D]) ∧ Below w.heap.size w w' := by
  go_enter Try.func23, Try.ntmps23
  go_wp2
  go_loopw [6, 8] (fun c i wr => ∃ (k b : Nat) (A : List Nat), k ≤ 4 ∧ SubRel X Y k b A ∧ i = .int .i64 k ∧ c = .int .u64 b ∧ Below w.heap.size w wr
      ∧ Has wr w.heap.size 24 (u64s A) ∧ Has wr (w.heap.size + 1) 24 (u64s Y) ∧ Has wr (w.heap.size + 1 + 1) 24 (u64s [0, 0, 0, 0])) (fun _ i _ => 4 - (intOf i).toNat)
  case atStart =>
    refine ⟨0, 0, X, by omega, SubRel.start Y hdx, rfl, rfl, ?_, ?_, ?_, ?_⟩
    · exact (((Below.refl _ _).alloc (Nat.le_refl _) _).alloc (by simp) _).alloc (by simp; omega) _
    · exact ((Has.new w _ _).alloc _).alloc _
    · have := (Has.new (w.alloc (.cells (u64s X) 24)) (u64s Y) 24).alloc (Obj.cells #[Value.int IntKind.u64 0, Value.int IntKind.u64 0, Value.int IntKind.u64 0, Value.int IntKind.u64 0] 24)
      simpa using this
    · have := (Has.new ((w.alloc (.cells (u64s X) 24)).alloc (.cells (u64s Y) 24)) (u64s [0, 0, 0, 0]) 24)
      simpa [u64s] using this
  case round =>
    obtain ⟨k, b, A, hk, hR, rfl, rfl, hbel, hA, hY, hZ⟩ := hrel
    by_cases hlt : k < 4
    · have h1 := hA.cell (k := k) (by rw [hR.len, hlx]; exact hlt)
      have h2 := hY.cell (k := k) (by rw [hly]; exact hlt)
      have h3 := hA.free k
      have hs := sub64 (nth A k) (nth Y k) b hR.bor
      have HA := Lib.hid hA; have HY := Lib.hid hY; have HZ := Lib.hid hZ; have HR := Lib.hid hR
      clear hA hY hZ hR
      go_wp2
      go_region
      go_wp2
      go_roundw
      case rel =>
        refine ⟨k + 1, _, _, by omega, HR.out.step hdx hdy (by rw [hlx]; exact hlt) (by rw [hlx, hly]), by go_num, rfl, ?_, ?_, ?_, ?_⟩
        · exact (hbel.setCell (Nat.le_refl _) _).drew
        · exact HA.out.set k _
        · exact HY.out.other (by simp) _
        · exact HZ.out.other (by simp; omega) _
      case measure => simp [intOf]; omega
    · obtain rfl : k = 4 := by omega
      have HA := Lib.hid hA; have HZ := Lib.hid hZ
      have hAl : A.length = 4 := by rw [hR.len, hlx]
      have hfin := Lib.hid (HF.out b A hR)
      clear hA hY hZ hR
      go_wp2_with (first | (refine load4 rfl _ rfl w.heap.size rfl 24 A HA.out hAl ?_) | (refine store4 rfl _ _ rfl (w.heap.size + 1 + 1) rfl A rfl 24 _ HZ.out hAl rfl ?_; intro w1 hw1 ho1))
      refine bodyPost_ret (res4t rfl rfl hw1 hAl) rfl ⟨?_, ho1.below hbel (by omega)⟩
      show Ending.returned (.tuple #[.agg (u64s A), .bool (((b : Nat) : Int) == 1)]) = _
      rw [hfin.out.1, hfin.out.2]
theorem sub_any (x y : Nat) (hx : x < B ^ 4) (hy : y < B ^ 4) (w : World) :
    Calls Try.prog 23 #[A4 x, A4 y] w fun e w' => e = .returned (.tuple #[A4 ((x + B ^ 4 - y) % B ^ 4), .bool (decide (x < y))]) ∧ Below w.heap.size w w' :=
  sub_core _ _ _ _ (digs_length 4 x) (digs_length 4 y) (digs_dig 4 x) (digs_dig 4 y) (fun _ _ h => h.result hx hy) w

theorem add64 (x y b : Nat) (hx : x < B) (hy : y < B) (hb : b ≤ 1) (w : World) :
    (callFunc 43 #[.int .u64 x, .int .u64 y, .int .u64 b]).run Try.prog w =
      .ok (.value (.tuple #[.int .u64 (aD x y b), .int .u64 (aB x y b)])) w := by
  rw [run_callFunc_extern Try.func43 (by kernel_rfl) (by kernel_rfl) (by kernel_rfl) (e := add64Entry) (by kernel_rfl), run_add64 x y b (by omega) (by unfold B at hx; omega) (by unfold B at hy; omega) (by omega)]
  simp only [Result.andThen]
  unfold aD aB B
  congr 5 <;> omega

theorem add_step {x y b : Nat} (hx : x < B) (hy : y < B) (hb : b ≤ 1) : aD x y b + aB x y b * B = x + y + b ∧ aB x y b ≤ 1 ∧ aD x y b < B := by
  have hB := B_pos
  refine ⟨?_, ?_, Nat.mod_lt _ B_pos⟩
  · unfold aD aB
    have := Nat.mod_add_div (x + y + b) B
    rw [Nat.mul_comm ((x + y + b) / B) B]; exact this
  · unfold aB
    have : (x + y + b) / B < 2 := Nat.div_lt_of_lt_mul (by omega)
    omega

/-- k digits of a sum. -/
structure AddOut (X Y : List Nat) (k b : Nat) (A : List Nat) : Prop where
  len : A.length = X.length
  dig : Dig A
  bor : b ≤ 1
  eq : val (A.take k) + b * B ^ k = val (X.take k) + val (Y.take k)

/-- The state of the loop of Add. -/
structure AddRel (X Y : List Nat) (k b : Nat) (A : List Nat) : Prop extends AddOut X Y k b A where
  rest : A.drop k = X.drop k

theorem AddOut.step {X Y A : List Nat} {k b d c : Nat} (h : AddOut X Y k b A) (hk : k < X.length) (hl : Y.length = X.length)
    (hs : d + c * B = nth X k + nth Y k + b) (hc : c ≤ 1) (hd : d < B) : AddOut X Y (k + 1) c (A.set k d) := by
  refine ⟨by simp [h.len], h.dig.set k hd, hc, ?_⟩
  rw [val_take_set (by rw [h.len]; exact hk), val_take_succ hk, val_take_succ (by rw [hl]; exact hk)]
  have h1 := h.eq
  generalize nth X k = x at *
  generalize nth Y k = y at *
  rw [Nat.pow_succ]
  generalize B ^ k = p at *
  have h3 : p * d + c * (p * B) = p * x + p * y + p * b := by
    have := congrArg (p * ·) hs
    simp only [Nat.mul_add] at this
    rw [← this, Nat.mul_left_comm c p B]
  rw [Nat.mul_comm b p] at h1
  omega

theorem AddRel.start {X : List Nat} (Y : List Nat) (hX : Dig X) : AddRel X Y 0 0 X := ⟨⟨rfl, hX, by omega, by simp [val]⟩, rfl⟩
theorem AddOut.start {X : List Nat} (Y : List Nat) (A : List Nat) (hA : Dig A) (hl : A.length = X.length) : AddOut X Y 0 0 A := ⟨hl, hA, by omega, by simp [val]⟩

theorem AddRel.step {X Y A : List Nat} {k b : Nat} (h : AddRel X Y k b A) (hX : Dig X) (hY : Dig Y) (hk : k < X.length) (hl : Y.length = X.length) :
    AddRel X Y (k + 1) (aB (nth A k) (nth Y k) b) (A.set k (aD (nth A k) (nth Y k) b)) := by
  have ha : nth A k = nth X k := nth_of_drop h.rest
  have hs := add_step (hX.get k) (hY.get k) h.bor
  rw [ha]
  exact ⟨h.toAddOut.step hk hl hs.1 hs.2.1 hs.2.2, by rw [drop_set_succ]; exact drop_succ_of_drop h.rest⟩

/-- What a loop of a sum has come to. -/
theorem AddOut.result {x y b : Nat} {A : List Nat} (h : AddOut (digs 4 x) (digs 4 y) 4 b A) (hx : x < B ^ 4) (hy : y < B ^ 4) :
    A = digs 4 ((x + y) % B ^ 4) ∧ b = if B ^ 4 ≤ x + y then 1 else 0 := by
  have hl : A.length = 4 := by rw [h.len, digs_length]
  have h1 := h.eq
  rw [List.take_of_length_le (by omega), List.take_of_length_le (by rw [digs_length]; omega), List.take_of_length_le (by rw [digs_length]; omega), val_digs_lt hx, val_digs_lt hy] at h1
  have h2 := val_lt h.dig
  rw [hl] at h2
  have h3 := h.bor
  generalize B ^ 4 = p at *
  have hb : b = 0 ∨ b = 1 := by omega
  constructor
  · rw [eq_digs hl h.dig]
    congr 1
    rcases hb with rfl | rfl
    · rw [Nat.mod_eq_of_lt (by omega)]; omega
    · have : x + y = val A + p := by omega
      rw [this, Nat.add_mod_right, Nat.mod_eq_of_lt h2]
  · rcases hb with rfl | rfl
    · rw [if_neg (by omega)]
    · rw [if_pos (by omega)]

theorem AddRel.result {x y b : Nat} {A : List Nat} (h : AddRel (digs 4 x) (digs 4 y) 4 b A) (hx : x < B ^ 4) (hy : y < B ^ 4) :
    A = digs 4 ((x + y) % B ^ 4) ∧ (((b : Nat) : Int) == 1) = decide (B ^ 4 ≤ x + y) := by
  obtain ⟨h1, h2⟩ := h.toAddOut.result hx hy
  refine ⟨h1, ?_⟩
  rw [h2]
  by_cases h : B ^ 4 ≤ x + y <;> simp [h]

set_option maxHeartbeats 400000 in
theorem add_core (X Y R : List Nat) (D : Bool) (hlx : X.length = 4) (hly : Y.length = 4) (hdx : Dig X) (hdy : Dig Y)
    (HF : Hid (∀ b A, AddRel X Y 4 b A → A = R ∧ (((b : Nat) : Int) == 1) = D)) (w : World) :
    Calls Try.prog 21 #[.agg (u64s X), .agg (u64s Y)] w fun e w' => e = .returned (.tuple #[.agg (u64s R), .bool D]) ∧ Below w.heap.size w w' := by
  go_enter Try.func21, Try.ntmps21
  go_wp2
  go_loopw [6, 8] (fun c i wr => ∃ (k b : Nat) (A : List Nat), k ≤ 4 ∧ AddRel X Y k b A ∧ i = .int .i64 k ∧ c = .int .u64 b ∧ Below w.heap.size w wr
      ∧ Has wr w.heap.size 24 (u64s A) ∧ Has wr (w.heap.size + 1) 24 (u64s Y) ∧ Has wr (w.heap.size + 1 + 1) 24 (u64s [0, 0, 0, 0])) (fun _ i _ => 4 - (intOf i).toNat)
  case atStart =>
    refine ⟨0, 0, X, by omega, AddRel.start Y hdx, rfl, rfl, ?_, ?_, ?_, ?_⟩
    · exact (((Below.refl _ _).alloc (Nat.le_refl _) _).alloc (by simp) _).alloc (by simp; omega) _
    · exact ((Has.new w _ _).alloc _).alloc _
    · have := (Has.new (w.alloc (.cells (u64s X) 24)) (u64s Y) 24).alloc (Obj.cells #[Value.int IntKind.u64 0, Value.int IntKind.u64 0, Value.int IntKind.u64 0, Value.int IntKind.u64 0] 24)
      simpa using this
    · have := (Has.new ((w.alloc (.cells (u64s X) 24)).alloc (.cells (u64s Y) 24)) (u64s [0, 0, 0, 0]) 24)
      simpa [u64s] using this
  case round =>
    obtain ⟨k, b, A, hk, hR, rfl, rfl, hbel, hA, hY, hZ⟩ := hrel
    by_cases hlt : k < 4
    · have h1 := hA.cell (k := k) (by rw [hR.len, hlx]; exact hlt)
      have h2 := hY.cell (k := k) (by rw [hly]; exact hlt)
      have h3 := hA.free k
      have hs := add64 (nth A k) (nth Y k) b (hR.dig.get k) (hdy.get k) hR.bor
      have HA := Lib.hid hA; have HY := Lib.hid hY; have HZ := Lib.hid hZ; have HR := Lib.hid hR
      clear hA hY hZ hR
      go_wp2
      go_region
      go_wp2
      go_roundw
      case rel =>
        refine ⟨k + 1, _, _, by omega, HR.out.step hdx hdy (by rw [hlx]; exact hlt) (by rw [hlx, hly]), by go_num, rfl, ?_, ?_, ?_, ?_⟩
        · exact (hbel.setCell (Nat.le_refl _) _).drew
        · exact HA.out.set k _
        · exact HY.out.other (by simp) _
        · exact HZ.out.other (by simp; omega) _
      case measure => simp [intOf]; omega
    · obtain rfl : k = 4 := by omega
      have HA := Lib.hid hA; have HZ := Lib.hid hZ
      have hAl : A.length = 4 := by rw [hR.len, hlx]
      have hfin := Lib.hid (HF.out b A hR)
      clear hA hY hZ hR
      go_wp2_with (first | (refine load4 rfl _ rfl w.heap.size rfl 24 A HA.out hAl ?_) | (refine store4 rfl _ _ rfl (w.heap.size + 1 + 1) rfl A rfl 24 _ HZ.out hAl rfl ?_; intro w1 hw1 ho1))
      refine bodyPost_ret (res4t rfl rfl hw1 hAl) rfl ⟨?_, ho1.below hbel (by omega)⟩
      show Ending.returned (.tuple #[.agg (u64s A), .bool (((b : Nat) : Int) == 1)]) = _
      rw [hfin.out.1, hfin.out.2]
theorem add_any (x y : Nat) (hx : x < B ^ 4) (hy : y < B ^ 4) (w : World) :
    Calls Try.prog 21 #[A4 x, A4 y] w fun e w' => e = .returned (.tuple #[A4 ((x + y) % B ^ 4), .bool (decide (B ^ 4 ≤ x + y))]) ∧ Below w.heap.size w w' :=
  add_core _ _ _ _ (digs_length 4 x) (digs_length 4 y) (digs_dig 4 x) (digs_dig 4 y) (fun _ _ h => h.result hx hy) w

end Go.Proofs.Ytbklepgbieohiaa
