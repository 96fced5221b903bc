/- The walk of Div64. -/
import Derived.Test.YtbklepgbieohiaaD8
import Derived.BigRegion
import Derived.Deep.CutBlock
import Derived.Deep.LoopGhost
namespace Go.Proofs.Ytbklepgbieohiaa
open Go.RowKit

/-- No high half: a plain division. -/
theorem div64_low (lo y : Nat) (hlo : lo < B) (hy : 0 < y) (w : World) :
    Calls Try.prog 54 #[.int .u64 0, .int .u64 lo, .int .u64 y] w fun e w' => (∃ r : Nat, e = .returned (.tuple #[.int .u64 ((ud lo y : Nat) : Int), .int .u64 r])) ∧ Below w.heap.size w w' := by
  have h0 : (((y : Nat) : Int) == 0) = false := by simp; omega
  have h1 : decide (((y : Nat) : Int) ≤ 0) = false := by simp; omega
  have h2 : ((y : Nat) : Int) ≠ 0 := by omega
  have h3 : decide (y = 0) = false := by simp; omega
  have hq : IntKind.u64.wrap (((lo : Nat) : Int) / ((y : Nat) : Int)) = ((ud lo y : Nat) : Int) := wrap_ud lo y hlo
  have hr : (((lo : Nat) : Int)).tmod ((y : Nat) : Int) = ((um lo y : Nat) : Int) := tmod_um lo y
  go_enter Try.func54, Try.ntmps54
  go_wp2
  go_region
  go_wp2
  exact bodyPost_ret (results_tmp2 rfl _ _ _) rfl ⟨⟨_, rfl⟩, (Below.refl _ _).drew⟩

theorem shr_half (x : Nat) : ((x : Nat) : Int) / 4294967296 = ((ud x 4294967296 : Nat) : Int) := rfl

theorem and_half (x : Nat) (hx : x < B) : bits BinOp.and IntKind.u64 ((x : Nat) : Int) 4294967295 = ((um x 4294967296 : Nat) : Int) := by
  have h := bits_and_u64_nat x 4294967295 hx (by decide)
  have e : x &&& 4294967295 = x % 4294967296 := Nat.and_two_pow_sub_one_eq_mod x 32
  rw [e] at h
  exact h

theorem halves_of (x : Nat) : ud x 4294967296 * C32 + um x 4294967296 = x ∧ um x 4294967296 < C32 := ⟨by rw [Nat.mul_comm]; exact Nat.div_add_mod x C32, Nat.mod_lt _ (by decide)⟩

theorem ud_lt_half {x : Nat} (hx : x < B) : ud x 4294967296 < C32 := Nat.div_lt_of_lt_mul (show x < C32 * C32 from hx)

theorem wrap_pred {q : Nat} (h : 1 ≤ q) (hB : q < B) : IntKind.u64.wrap (((q : Nat) : Int) - 1) = ((q - 1 : Nat) : Int) := by
  rw [show ((q : Nat) : Int) - 1 = ((q - 1 : Nat) : Int) by omega, wrap_u64, Nat.mod_eq_of_lt (by omega)]

/-- What the loop's test reckons. -/
theorem test_words {q r y0 n1 : Nat} (hq : q < C32) (hy : y0 < C32) (hr : r < C32) (hn : n1 < C32) :
    umul q y0 = q * y0 ∧ uadd (umul 4294967296 r) n1 = r * C32 + n1 := by
  have e : C32 * C32 = B := by decide
  have h1 : (q + 1) * y0 ≤ C32 * C32 := Nat.mul_le_mul hq (Nat.le_of_lt hy)
  have h2 : (r + 1) * C32 ≤ C32 * C32 := Nat.mul_le_mul_right _ hr
  rw [Nat.add_mul] at h2
  refine ⟨Nat.mod_eq_of_lt ?_, ?_⟩
  · have h3 : q * C32 + C32 ≤ C32 * C32 := by have := Nat.mul_le_mul_right C32 (show q + 1 ≤ C32 from hq); rw [Nat.add_mul] at this; omega
    have h4 : q * y0 ≤ q * C32 := Nat.mul_le_mul_left _ (Nat.le_of_lt hy)
    simp only [C32] at *
    omega
  · have h5 : umul 4294967296 r = r * C32 := by
      unfold umul
      rw [show 4294967296 * r = r * C32 from Nat.mul_comm _ _]
      exact Nat.mod_eq_of_lt (by simp only [C32] at *; omega)
    rw [h5]
    exact uadd_eq (by omega)

theorem div64_high (hi lo y : Nat) (h0 : 0 < hi) (hh : hi < y) (hlo : lo < B) (hy : y < B) (w : World) :
    Calls Try.prog 54 #[.int .u64 hi, .int .u64 lo, .int .u64 y] w fun e w' => (∃ r : Nat, e = .returned (.tuple #[.int .u64 (((hi * B + lo) / y : Nat) : Int), .int .u64 r])) ∧ Below w.heap.size w w' := by
  have f0 : (((y : Nat) : Int) == 0) = false := by simp; omega
  have f1 : decide (((y : Nat) : Int) ≤ ((hi : Nat) : Int)) = false := by simp; omega
  have f2 : (((hi : Nat) : Int) == 0) = false := by simp; omega
  have hlz := Lib.hid (lz64_any y hy)
  have hsz : (64 : Int) - ((blen y : Nat) : Int) = ((64 - blen y : Nat) : Int) := by have := (blen_bounds hy).1; omega
  obtain ⟨hs, hm, hYc, hYB⟩ := norm_shift (by omega) hy
  rw [hsz] at hlz
  clear hsz
  generalize 64 - blen y = s at *
  obtain ⟨k1, k2, k3, k4, k5⟩ := norm_high (p := 2 ^ s) rfl hs hlo hh hYB
  have hshl : IntKind.u64.wrap (((y : Nat) : Int) * 2 ^ s) = ((mL y (2 ^ s) : Nat) : Int) := by
    rw [show (((y : Nat) : Int) * 2 ^ s) = ((y * 2 ^ s : Nat) : Int) by simp, wrap_u64]; rfl
  have hshl2 : IntKind.u64.wrap (((lo : Nat) : Int) * 2 ^ s) = ((mL lo (2 ^ s) : Nat) : Int) := by
    rw [show (((lo : Nat) : Int) * 2 ^ s) = ((lo * 2 ^ s : Nat) : Int) by simp, wrap_u64]; rfl
  have hor := bor_left' (x := hi) k1 hs
  have hsr := shr_left (x := lo) hs
  have hNB : mL lo (2 ^ s) < B := Nat.mod_lt _ B_pos
  have HN := Lib.hid (halves_of (mL lo (2 ^ s))); have HN1 := Lib.hid (ud_lt_half hNB)
  have hYB2 : mL y (2 ^ s) < B := Nat.mod_lt _ B_pos
  have HY := Lib.hid (halves_of (mL y (2 ^ s))); have HY1 := Lib.hid (ud_lt_half hYB2)
  have e1 := shr_half (mL y (2 ^ s)); have e2 := and_half _ hYB2
  have e3 := shr_half (mL lo (2 ^ s)); have e4 := and_half _ hNB
  have HUe := Lib.hid k3
  have HYe := Lib.hid hm
  have HYc := Lib.hid hYc; have HYB := Lib.hid hYB; have HUY := Lib.hid k4
  have hUB : uadd (mL hi (2 ^ s)) (mH lo (2 ^ s)) < B := uadd_lt _ _
  clear k1 k2 k3 k4 k5 hm hYc hYB hNB
  have hy1 : 0 < ud (mL y (2 ^ s)) 4294967296 := by rw [HYe.out]; exact Nat.div_pos HYc.out (by decide)
  generalize uadd (mL hi (2 ^ s)) (mH lo (2 ^ s)) = U at *
  generalize ud (mL y (2 ^ s)) 4294967296 = y1 at *
  generalize um (mL y (2 ^ s)) 4294967296 = y0 at *
  generalize hN0 : mL lo (2 ^ s) = N at *
  generalize ud N 4294967296 = n1 at *
  generalize um N 4294967296 = n0 at *
  generalize mL y (2 ^ s) = Y at *
  have HNe := Lib.hid hN0
  have HU : Hid (U < y1 * C32 + y0) := Lib.hid (by have a := HUe.out; have b := HUY.out; have c := HY.out.1; have d := HYe.out; omega)
  have hd0 : decide (y1 = 0) = false := by simp; omega
  have hd1 : ((y1 : Nat) : Int) ≠ 0 := by omega
  have hq := wrap_ud U y1 hUB
  have HS := Lib.hid (HalfIn.start (u := U) (n1 := n1) (y0 := y0) hy1 HN1.out)
  have hqB : ud U y1 < B := Nat.lt_of_le_of_lt (Nat.div_le_self _ _) hUB
  have HqU := Lib.hid (show umul (ud U y1) y1 = ud U y1 * y1 from Nat.mod_eq_of_lt (Nat.lt_of_le_of_lt (Nat.div_mul_le_self _ _) hUB))
  have hr1 := wrap_mul (ud U y1) y1
  have hr2 := wrap_sub U (umul (ud U y1) y1) (umul_lt _ _)
  have HR := Lib.hid (show usub U (umul (ud U y1) y1) = U % y1 by
    rw [HqU.out]; unfold usub ud; have h := Nat.div_add_mod U y1; rw [Nat.mul_comm] at h
    rw [show U + B - U / y1 * y1 = U % y1 + B by omega, Nat.add_mod_right]; exact Nat.mod_eq_of_lt (Nat.lt_of_le_of_lt (Nat.mod_le _ _) hUB))
  have HS2 : Hid (HalfIn U n1 y1 y0 (ud U y1) (usub U (umul (ud U y1) y1))) := Lib.hid (by rw [HR.out]; exact HS.out)
  have HRb : Hid (usub U (umul (ud U y1) y1) < C32) := Lib.hid (by rw [HR.out]; exact Nat.lt_trans (Nat.mod_lt _ hy1) HY1.out)
  clear HR HqU HS hN0
  go_enter Try.func54, Try.ntmps54
  go_upto_block 0 with (go_at_call 48; refine (hlz.out _).mono ?_; rintro e w1 ⟨rfl, rfl⟩)
  go_cut [15, 16] from 67 to 85 (fun q r wx => w = wx ∧ ∃ q' r' : Nat, q = .int .u64 q' ∧ r = .int .u64 r' ∧ q' = (U * C32 + n1) / (y1 * C32 + y0))
  case first =>
    go_wp2_with fail
    go_loopw [15, 16] (fun q r wx => w = wx ∧ ∃ q' r' : Nat, q = .int .u64 q' ∧ r = .int .u64 r' ∧ HalfIn U n1 y1 y0 q' r' ∧ r' < C32 ∧ q' < B) (fun q _ _ => (intOf q).toNat)
    case atStart => exact ⟨rfl, _, _, rfl, rfl, HS2.out, HRb.out, hqB⟩
    case round =>
      obtain ⟨rfl, q, r, rfl, rfl, hI, hrC, hqB2⟩ := hrel
      have HI := Lib.hid hI; have HrC := Lib.hid hrC
      clear hI hrC
      by_cases hA : C32 ≤ q
      · have a1 : decide ((4294967296 : Int) ≤ ((q : Nat) : Int)) = true := by simp only [C32] at hA; simp; omega
        obtain ⟨s1, s2⟩ := HI.out.step HU.out HN1.out (Or.inl hA)
        have HS3 := Lib.hid s2
        have w1 := wrap_pred s1 hqB2
        have w2 := wrap_add r y1
        have w3 : uadd r y1 = r + y1 := uadd_eq (by have := HrC.out; have := HY1.out; simp only [C32, B] at *; omega)
        rw [← w3] at HS3
        have HD : Hid (C32 ≤ uadd r y1 → q - 1 = (U * C32 + n1) / (y1 * C32 + y0)) := Lib.hid fun h => HS3.out.done hy1 (HS3.out.over HU.out HY.out.2 h)
        have HM := Lib.hid (show q - 1 < q by omega)
        clear w3
        clear s2 s1
        generalize q - 1 = q1 at *
        generalize uadd r y1 = r1 at *
        by_cases hbr : C32 ≤ r1
        · have a2 : decide ((4294967296 : Int) ≤ ((r1 : Nat) : Int)) = true := by simp only [C32] at hbr; simp; omega
          have HB := Lib.hid hbr
          clear hbr hA
          go_wp2
          go_meet
          exact ⟨rfl, q1, r1, rfl, rfl, HD.out HB.out⟩
        · have a2 : decide ((4294967296 : Int) ≤ ((r1 : Nat) : Int)) = false := by simp only [C32] at hbr; simp; omega
          have HB := Lib.hid hbr
          clear hbr hA
          go_wp2
          exact ⟨⟨trivial, q1, r1, rfl, rfl, HS3.out, Nat.lt_of_not_le HB.out, by have := HM.out; omega⟩, by have := HM.out; simp only [intOf, Int.toNat_natCast]; exact this⟩
      · have hA' : q < C32 := by omega
        have a1 : decide ((4294967296 : Int) ≤ ((q : Nat) : Int)) = false := by simp only [C32] at hA; simp; omega
        obtain ⟨t1, t2⟩ := test_words (n1 := n1) hA' HY.out.2 HrC.out HN1.out
        have m1 := wrap_mul q y0
        have m2 : IntKind.u64.wrap ((4294967296 : Int) * ((r : Nat) : Int)) = ((umul 4294967296 r : Nat) : Int) := wrap_mul 4294967296 r
        have m3 := wrap_add (umul 4294967296 r) n1
        by_cases hC : r * C32 + n1 < q * y0
        · have a3 : decide (uadd (umul 4294967296 r) n1 < umul q y0) = true := by rw [t1, t2]; exact decide_eq_true hC
          clear t1 t2 hA'
          obtain ⟨s1, s2⟩ := HI.out.step HU.out HN1.out (Or.inr hC)
          have HS3 := Lib.hid s2
          have w1 := wrap_pred s1 hqB2
          have w2 := wrap_add r y1
          have w3 : uadd r y1 = r + y1 := uadd_eq (by have := HrC.out; have := HY1.out; simp only [C32, B] at *; omega)
          rw [← w3] at HS3
          have HD : Hid (C32 ≤ uadd r y1 → q - 1 = (U * C32 + n1) / (y1 * C32 + y0)) := Lib.hid fun h => HS3.out.done hy1 (HS3.out.over HU.out HY.out.2 h)
          have HM := Lib.hid (show q - 1 < q by omega)
          clear w3 hC
          clear s2 s1
          generalize q - 1 = q1 at *
          generalize uadd r y1 = r1 at *
          by_cases hbr : C32 ≤ r1
          · have a2 : decide ((4294967296 : Int) ≤ ((r1 : Nat) : Int)) = true := by simp only [C32] at hbr; simp; omega
            have HB := Lib.hid hbr
            clear hbr hA
            go_wp2
            go_meet
            exact ⟨rfl, q1, r1, rfl, rfl, HD.out HB.out⟩
          · have a2 : decide ((4294967296 : Int) ≤ ((r1 : Nat) : Int)) = false := by simp only [C32] at hbr; simp; omega
            have HB := Lib.hid hbr
            clear hbr hA
            go_wp2
            exact ⟨⟨trivial, q1, r1, rfl, rfl, HS3.out, Nat.lt_of_not_le HB.out, by have := HM.out; omega⟩, by have := HM.out; simp only [intOf, Int.toNat_natCast]; exact this⟩
        · have a3 : decide (uadd (umul 4294967296 r) n1 < umul q y0) = false := by rw [t1, t2]; exact decide_eq_false hC
          have HD := Lib.hid (HI.out.done hy1 (by omega))
          clear t1 t2 hA' hC hA
          go_wp2
          go_meet
          exact ⟨rfl, q, r, rfl, rfl, HD.out⟩
  case rest =>
    obtain ⟨rfl, q, r, rfl, rfl, hq1⟩ := hcut
    have HQ1 := Lib.hid hq1
    have HN0 : Hid (n0 < C32) := Lib.hid HN.out.2
    have hYp : 0 < Y := by have a := HYe.out; have b := HYc.out; rw [← a] at b; simp only [C32] at b; omega
    have HMe : Hid (usub (uadd (umul U 4294967296) n1) (umul q Y) = (U * C32 + n1) % Y) := Lib.hid (mid_rem hYB2 hYp (by have a := HQ1.out; rw [HY.out.1] at a; exact a))
    have m1 : IntKind.u64.wrap (((U : Nat) : Int) * 4294967296) = ((umul U 4294967296 : Nat) : Int) := wrap_mul U 4294967296
    have m2 := wrap_add (umul U 4294967296) n1
    have m3 := wrap_mul q Y
    have m4 := wrap_sub (uadd (umul U 4294967296) n1) (umul q Y) (umul_lt _ _)
    have hMB : usub (uadd (umul U 4294967296) n1) (umul q Y) < B := usub_lt _ _
    clear hq1 hq hr1 hr2 HS2 HRb
    generalize usub (uadd (umul U 4294967296) n1) (umul q Y) = M at *
    have HMU : Hid (M < y1 * C32 + y0) := Lib.hid (by rw [HMe.out, HY.out.1]; exact Nat.mod_lt _ hYp)
    have hq := wrap_ud M y1 hMB
    have HS := Lib.hid (HalfIn.start (u := M) (n1 := n0) (y0 := y0) hy1 HN0.out)
    have hqB0 : ud M y1 < B := Nat.lt_of_le_of_lt (Nat.div_le_self _ _) hMB
    have HqU := Lib.hid (show umul (ud M y1) y1 = ud M y1 * y1 from Nat.mod_eq_of_lt (Nat.lt_of_le_of_lt (Nat.div_mul_le_self _ _) hMB))
    have hr1 := wrap_mul (ud M y1) y1
    have hr2 := wrap_sub M (umul (ud M y1) y1) (umul_lt _ _)
    have HR := Lib.hid (show usub M (umul (ud M y1) y1) = M % y1 by
      rw [HqU.out]; unfold usub ud; have h := Nat.div_add_mod M y1; rw [Nat.mul_comm] at h
      rw [show M + B - M / y1 * y1 = M % y1 + B by omega, Nat.add_mod_right]; exact Nat.mod_eq_of_lt (Nat.lt_of_le_of_lt (Nat.mod_le _ _) hMB))
    have HT2 : Hid (HalfIn M n0 y1 y0 (ud M y1) (usub M (umul (ud M y1) y1))) := Lib.hid (by rw [HR.out]; exact HS.out)
    have HTb : Hid (usub M (umul (ud M y1) y1) < C32) := Lib.hid (by rw [HR.out]; exact Nat.lt_trans (Nat.mod_lt _ hy1) HY1.out)
    clear HR HqU HS
    go_upto_block 2 with fail
    go_cut [18, 16] from 102 to 120 (fun q r wx => w = wx ∧ ∃ q' r' : Nat, q = .int .u64 q' ∧ r = .int .u64 r' ∧ q' = (M * C32 + n0) / (y1 * C32 + y0))
    case first =>
      go_wp2_with fail
      go_loopw [18, 16] (fun q r wx => w = wx ∧ ∃ q' r' : Nat, q = .int .u64 q' ∧ r = .int .u64 r' ∧ HalfIn M n0 y1 y0 q' r' ∧ r' < C32 ∧ q' < B) (fun q _ _ => (intOf q).toNat)
      case atStart => exact ⟨rfl, _, _, rfl, rfl, HT2.out, HTb.out, hqB0⟩
      case round =>
        obtain ⟨rfl, q, r, rfl, rfl, hI, hrC, hqB2⟩ := hrel
        have HI := Lib.hid hI; have HrC := Lib.hid hrC
        clear hI hrC
        by_cases hA : C32 ≤ q
        · have a1 : decide ((4294967296 : Int) ≤ ((q : Nat) : Int)) = true := by simp only [C32] at hA; simp; omega
          obtain ⟨s1, s2⟩ := HI.out.step HMU.out HN0.out (Or.inl hA)
          have HS3 := Lib.hid s2
          have w1 := wrap_pred s1 hqB2
          have w2 := wrap_add r y1
          have w3 : uadd r y1 = r + y1 := uadd_eq (by have := HrC.out; have := HY1.out; simp only [C32, B] at *; omega)
          rw [← w3] at HS3
          have HD : Hid (C32 ≤ uadd r y1 → q - 1 = (M * C32 + n0) / (y1 * C32 + y0)) := Lib.hid fun h => HS3.out.done hy1 (HS3.out.over HMU.out HY.out.2 h)
          have HM := Lib.hid (show q - 1 < q by omega)
          clear w3
          clear s2 s1
          generalize q - 1 = q1 at *
          generalize uadd r y1 = r1 at *
          by_cases hbr : C32 ≤ r1
          · have a2 : decide ((4294967296 : Int) ≤ ((r1 : Nat) : Int)) = true := by simp only [C32] at hbr; simp; omega
            have HB := Lib.hid hbr
            clear hbr hA
            go_wp2
            go_meet
            exact ⟨rfl, q1, r1, rfl, rfl, HD.out HB.out⟩
          · have a2 : decide ((4294967296 : Int) ≤ ((r1 : Nat) : Int)) = false := by simp only [C32] at hbr; simp; omega
            have HB := Lib.hid hbr
            clear hbr hA
            go_wp2
            exact ⟨⟨trivial, q1, r1, rfl, rfl, HS3.out, Nat.lt_of_not_le HB.out, by have := HM.out; omega⟩, by have := HM.out; simp only [intOf, Int.toNat_natCast]; exact this⟩
        · have hA' : q < C32 := by omega
          have a1 : decide ((4294967296 : Int) ≤ ((q : Nat) : Int)) = false := by simp only [C32] at hA; simp; omega
          obtain ⟨t1, t2⟩ := test_words (n1 := n0) hA' HY.out.2 HrC.out HN0.out
          have m1 := wrap_mul q y0
          have m2 : IntKind.u64.wrap ((4294967296 : Int) * ((r : Nat) : Int)) = ((umul 4294967296 r : Nat) : Int) := wrap_mul 4294967296 r
          have m3 := wrap_add (umul 4294967296 r) n0
          by_cases hC : r * C32 + n0 < q * y0
          · have a3 : decide (uadd (umul 4294967296 r) n0 < umul q y0) = true := by rw [t1, t2]; exact decide_eq_true hC
            clear t1 t2 hA'
            obtain ⟨s1, s2⟩ := HI.out.step HMU.out HN0.out (Or.inr hC)
            have HS3 := Lib.hid s2
            have w1 := wrap_pred s1 hqB2
            have w2 := wrap_add r y1
            have w3 : uadd r y1 = r + y1 := uadd_eq (by have := HrC.out; have := HY1.out; simp only [C32, B] at *; omega)
            rw [← w3] at HS3
            have HD : Hid (C32 ≤ uadd r y1 → q - 1 = (M * C32 + n0) / (y1 * C32 + y0)) := Lib.hid fun h => HS3.out.done hy1 (HS3.out.over HMU.out HY.out.2 h)
            have HM := Lib.hid (show q - 1 < q by omega)
            clear w3 hC
            clear s2 s1
            generalize q - 1 = q1 at *
            generalize uadd r y1 = r1 at *
            by_cases hbr : C32 ≤ r1
            · have a2 : decide ((4294967296 : Int) ≤ ((r1 : Nat) : Int)) = true := by simp only [C32] at hbr; simp; omega
              have HB := Lib.hid hbr
              clear hbr hA
              go_wp2
              go_meet
              exact ⟨rfl, q1, r1, rfl, rfl, HD.out HB.out⟩
            · have a2 : decide ((4294967296 : Int) ≤ ((r1 : Nat) : Int)) = false := by simp only [C32] at hbr; simp; omega
              have HB := Lib.hid hbr
              clear hbr hA
              go_wp2
              exact ⟨⟨trivial, q1, r1, rfl, rfl, HS3.out, Nat.lt_of_not_le HB.out, by have := HM.out; omega⟩, by have := HM.out; simp only [intOf, Int.toNat_natCast]; exact this⟩
          · have a3 : decide (uadd (umul 4294967296 r) n0 < umul q y0) = false := by rw [t1, t2]; exact decide_eq_false hC
            have HD := Lib.hid (HI.out.done hy1 (by omega))
            clear t1 t2 hA' hC hA
            go_wp2
            go_meet
            exact ⟨rfl, q, r, rfl, rfl, HD.out⟩
    case rest =>
      obtain ⟨rfl, q0, r0, rfl, rfl, hq0⟩ := hcut
      have HQ0 := Lib.hid hq0
      have p1 : IntKind.u64.wrap (((q : Nat) : Int) * 4294967296) = ((umul q 4294967296 : Nat) : Int) := wrap_mul q 4294967296
      have p2 := wrap_add (umul q 4294967296) q0
      have p3 : IntKind.u64.wrap (((M : Nat) : Int) * 4294967296) = ((umul M 4294967296 : Nat) : Int) := wrap_mul M 4294967296
      have p4 := wrap_add (umul M 4294967296) n0
      have p5 := wrap_mul q0 Y
      have p6 := wrap_sub (uadd (umul M 4294967296) n0) (umul q0 Y) (umul_lt _ _)
      clear hq0
      go_wp2
      have hsh : ((usub (uadd (umul M 4294967296) n0) (umul q0 Y) : Nat) : Int) / 2 ^ s = ((usub (uadd (umul M 4294967296) n0) (umul q0 Y) / 2 ^ s : Nat) : Int) := by simp
      rw [hsh]
      refine bodyPost_ret (results_tmp2 rfl _ _ _) rfl ⟨⟨usub (uadd (umul M 4294967296) n0) (umul q0 Y) / 2 ^ s, ?_⟩, Below.refl _ _⟩
      have hfin : uadd (umul q 4294967296) q0 = (hi * B + lo) / y := by
        have a1 := HQ1.out; have a2 := HQ0.out
        rw [HMe.out, HY.out.1, HYe.out, HUe.out] at a2
        rw [HY.out.1, HYe.out, HUe.out] at a1
        exact div64_plain (p := 2 ^ s) rfl hs hlo hh HYB.out (by rw [HNe.out]; exact HN.out.1) HN1.out HN0.out HYc.out a1 a2
      rw [hfin]
      rfl

theorem div64_any (hi lo y : Nat) (hh : hi < y) (hlo : lo < B) (hy : y < B) (w : World) :
    Calls Try.prog 54 #[.int .u64 hi, .int .u64 lo, .int .u64 y] w fun e w' => (∃ r : Nat, e = .returned (.tuple #[.int .u64 (((hi * B + lo) / y : Nat) : Int), .int .u64 r])) ∧ Below w.heap.size w w' := by
  by_cases h0 : hi = 0
  · subst h0
    have h := div64_low lo y hlo (by omega) w
    rw [Nat.zero_mul, Nat.zero_add]
    exact h
  · exact div64_high hi lo y (by omega) hh hlo hy w
end Go.Proofs.Ytbklepgbieohiaa
