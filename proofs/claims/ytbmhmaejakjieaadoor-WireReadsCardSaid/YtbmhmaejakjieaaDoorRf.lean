/- ReadInt at other lengths, ref.ReadInt, ref.Int. -/
import Derived.Test.YtbmhmaejakjieaaDoorRe
import Derived.Test.YtbmhmaejakjieaaDoorIb
namespace Go.Proofs.YtbmhmaejakjieaaDoor
open Go.RowKit

theorem readInt_bad (a : Option Addr) (n c : Nat) (hn : n ≠ 8) (w : World) :
    Calls Tryd.prog 20 #[.slice a n c] w fun e w' => e = .returned (.tuple #[.int .i64 0, .int .i64 80]) ∧ w = w' := by
  have hd : ((n : Int) == 8) = false := by simp; omega
  have hd2 : ¬ (n : Int) = 8 := by omega
  clear hn
  go_enter Tryd.func20, Tryd.ntmps20
  go_wp2
  exact bodyPost_ret (results_tmp2 rfl _ _ _) rfl ⟨rfl, rfl⟩

theorem rreadInt_bad (a : Option Addr) (n c : Nat) (hn : n ≠ 8) (w : World) :
    Calls Tryd.prog 29 #[.slice a n c] w fun e w' => e = .returned (.tuple #[.int .i64 0, .int .i64 80]) ∧ w = w' := by
  have hd : ((n : Int) == 8) = false := by simp; omega
  have hd2 : ¬ (n : Int) = 8 := by omega
  clear hn
  go_enter Tryd.func29, Tryd.ntmps29
  go_wp2
  exact bodyPost_ret (results_tmp2 rfl _ _ _) rfl ⟨rfl, rfl⟩

theorem rreadInt_any (L : List Nat) (hl : L.length = 8) (hL : Byt L) (b off c : Nat) (w : World) (hs : SegB w b off L) :
    Calls Tryd.prog 29 #[.slice (some ⟨b, off, none⟩) 8 c] w fun e w' => e = .returned (.tuple #[.int .i64 (sI (read8 L)), .int .i64 0]) ∧ w = w' := by
  have HS := Lib.hid hs; have Hl := Lib.hid hl; have HL := Lib.hid hL
  clear hs hl hL
  go_enter Tryd.func29, Tryd.ntmps29
  go_wp2
  go_loop [4, 5] (fun a i => ∃ k : Nat, k ≤ 8 ∧ a = .int .u64 ((acc8 L k : Nat) : Int) ∧ i = .int .i64 k) (fun _ i => 8 - (intOf i).toNat)
  case atStart => exact ⟨0, by omega, rfl, rfl⟩
  case round =>
    obtain ⟨k, hk, rfl, rfl⟩ := hrel
    by_cases hlt : k < 8
    · have hd : decide ((k : Int) < 8) = true := by simp; omega
      have hk8 : (k : Int) < 8 := by omega
      have hc := HS.out k (by rw [Hl.out]; exact hlt)
      have hx : nth L k < 256 := by rw [nth_lt (by rw [Hl.out]; exact hlt)]; exact HL.out _ (List.getElem_mem _)
      have Hst := Lib.hid (acc8_succ (L := L) (k := k) (by rw [Hl.out]; exact hlt))
      generalize acc8 L k = u at *
      generalize nth L k = x at *
      obtain ⟨p, hp⟩ : ∃ p, u * 256 % 18446744073709551616 = p := ⟨_, rfl⟩
      obtain ⟨s, hs⟩ : ∃ s, step8 u x = s := ⟨_, rfl⟩
      have e1 : IntKind.u64.wrap ((u : Int) * 256) = (p : Int) := by rw [IntKind.wrap_u64]; omega
      have e2 : IntKind.u64.wrap ((p : Int) + (x : Int)) = (s : Int) := by rw [IntKind.wrap_u64, ← hs]; unfold step8; omega
      rw [hs] at Hst
      have Hx := Lib.hid hx
      have hxi : (x : Int) < 256 := by omega
      clear hp hs hx
      go_wp2
      refine ⟨⟨k + 1, by omega, ?_, by go_num⟩, by simp [intOf]; omega⟩
      rw [Hst.out]
    · obtain rfl : k = 8 := by omega
      go_wp2
      refine bodyPost_ret (results_tmp2 rfl _ _ _) rfl ⟨?_, rfl⟩
      have e : acc8 L 8 = read8 L := by unfold acc8; rw [List.take_of_length_le (by rw [Hl.out]; omega)]
      have e2 : wrap64 ((read8 L : Nat) : Int) = sI (read8 L) := (IntWalk.i64_left _).symm
      rw [e, e2]
      rfl

theorem be8_at (u : Nat) : ∀ q, q < 8 → nth (be8 u) q = u / 256 ^ (7 - q) % 256
  | 0, _ => by simp [be8, nth]
  | 1, _ => by simp [be8, nth]
  | 2, _ => by simp [be8, nth]
  | 3, _ => by simp [be8, nth]
  | 4, _ => by simp [be8, nth]
  | 5, _ => by simp [be8, nth]
  | 6, _ => by simp [be8, nth]
  | 7, _ => by simp [be8, nth]
  | q + 8, h => by omega

theorem eq_of_nth {A B : List Nat} (hl : A.length = B.length) (h : ∀ q, q < A.length → nth A q = nth B q) : A = B := by
  apply List.ext_getElem hl
  intro i h1 h2
  have := h i h1
  rw [nth_lt h1, nth_lt h2] at this
  exact this

theorem make23 (w : World) : (Instr.makeSlice 23 (.int .i64 8) (.int .i64 8)).run Tryd.prog w = .ok (.slice (some ⟨w.heap.size, 0, none⟩) 8 8) (w.alloc (.cells (u8s [0, 0, 0, 0, 0, 0, 0, 0]) 5)) := by
  obtain ⟨i0, hi, hz0, hz1, hz2⟩ := info_parts info5
  have hr := run_make (P := Tryd.prog) w 23 5 i0 _ und23 hi hz0 .i64 .i64 8 8 (by omega) (Int.le_refl _) (by rw [hz2]; decide) (by decide)
  have e : madeCells (Value.int .u8 0).cells 8 = u8s [0, 0, 0, 0, 0, 0, 0, 0] := by
    apply Array.ext'
    simp [madeCells, u8s, Nat.mod_one, Value.cells]
    rfl
  rw [hr, hz1]
  show Result.ok (Value.slice (some ⟨w.heap.size, 0, none⟩) 8 8) (w.alloc (.cells (madeCells (Value.int .u8 0).cells 8) 5)) = _
  rw [e]

set_option maxHeartbeats 1000000 in
set_option maxRecDepth 100000 in
theorem rint_bytes (n : Int) (w : World) :
    Calls Tryd.prog 31 #[.int .i64 n] w fun e w' => e = .returned (.slice (some ⟨w.heap.size, 0, none⟩) 8 8) ∧ Below w.heap.size w w' ∧ Has w' w.heap.size 5 (u8s (be8 (uI n))) := by
  have hu : IntKind.u64.wrap n = ((uI n : Nat) : Int) := by rw [IntKind.wrap_u64]; unfold uI; omega
  have hul : uI n < 18446744073709551616 := by unfold uI; omega
  have hat := be8_at (uI n)
  have hbl : (be8 (uI n)).length = 8 := rfl
  generalize be8 (uI n) = B at *
  generalize uI n = u at *
  have hmk := make23
  have b0 := Lib.hid ((Below.refl w.heap.size w).alloc (Nat.le_refl _) (.cells (u8s [0, 0, 0, 0, 0, 0, 0, 0]) 5))
  have o0 := Lib.hid (Has.new w (u8s [0, 0, 0, 0, 0, 0, 0, 0]) 5)
  have HA := Lib.hid hat; have HB := Lib.hid hbl; have Hul := Lib.hid hul
  clear hat hbl hul
  go_enter Tryd.func31, Tryd.ntmps31
  go_wp2
  go_loopw [4, 5] (fun x i wr => ∃ (j : Nat) (A : List Nat), j ≤ 8 ∧ A.length = 8 ∧ (∀ q, j ≤ q → q < 8 → nth A q = nth B q) ∧ i = .int .i64 ((j : Int) - 1) ∧ x = .int .u64 ((u / 256 ^ (8 - j) : Nat) : Int) ∧ Below w.heap.size w wr ∧ Has wr w.heap.size 5 (u8s A)) (fun _ i _ => ((intOf i) + 1).toNat)
  case atStart => exact ⟨8, [0, 0, 0, 0, 0, 0, 0, 0], by omega, rfl, fun q h1 h2 => by omega, rfl, by simp, b0.out, o0.out⟩
  case round =>
    clear hmk b0 o0
    obtain ⟨j, A, hj, hl, hA, rfl, rfl, hbel, hO⟩ := hrel
    have HAq := Lib.hid hA; have HO := Lib.hid hO; have Hb := Lib.hid hbel; have Hl := Lib.hid hl
    clear hA hO hbel hl
    cases j with
    | zero =>
      have hi : (((0 : Nat) : Int) - 1) = -1 := by omega
      rw [hi]
      go_wp2
      refine bodyPost_ret (results_tmp rfl _ _ _) rfl ⟨rfl, Hb.out, ?_⟩
      have e : A = B := eq_of_nth (by rw [Hl.out, HB.out]) (fun q hq => HAq.out q (by omega) (by rw [Hl.out] at hq; exact hq))
      rw [← e]
      exact HO.out
    | succ j =>
      have hi : (((j + 1 : Nat) : Int) - 1) = (j : Int) := by omega
      rw [hi]
      have hj8 : (j : Int) < 8 := by omega
      have hfr := HO.out.free j
      have hc := HO.out.cellB (k := j) (by rw [Hl.out]; omega)
      obtain ⟨X, hX⟩ : ∃ X, u / 256 ^ (8 - (j + 1)) = X := ⟨_, rfl⟩
      have hXl : X < 18446744073709551616 := by rw [← hX]; have := Hul.out; have := Nat.div_le_self u (256 ^ (8 - (j + 1))); omega
      have hXb : nth B j = X % 256 := by rw [HA.out j (by omega), ← hX, show 7 - j = 8 - (j + 1) by omega]
      have hXn : u / 256 ^ (8 - j) = X / 256 := by
        rw [← hX, Nat.div_div_eq_div_mul, ← Nat.pow_succ]
        congr 2
        omega
      rw [hX]
      obtain ⟨p, hp⟩ : ∃ p, X % 256 = p := ⟨_, rfl⟩
      obtain ⟨z, hz⟩ : ∃ z, X / 256 = z := ⟨_, rfl⟩
      have e1 : ((X : Nat) : Int).tmod 256 = ((p : Nat) : Int) := by rw [Int.tmod_eq_emod_of_nonneg (by omega)]; omega
      have e2 : IntKind.u8.wrap ((p : Nat) : Int) = ((p : Nat) : Int) := by rw [IntKind.wrap_u8]; omega
      have e3 : IntKind.u64.wrap ((X : Int) / 256) = ((z : Nat) : Int) := by rw [IntKind.wrap_u64]; omega
      have hs := Lib.hid (HO.out.setB j p)
      have HXb := Lib.hid hXb; have HXn := Lib.hid hXn; have Hp := Lib.hid hp; have Hz := Lib.hid hz
      have Hj := Lib.hid hj
      clear hX hXl hXb hXn hp hz hi
      go_wp2
      refine ⟨⟨j, A.set j p, by omega, by simp [Hl.out], fun q h1 h2 => ?_, rfl, ?_, Hb.out.setCell (Nat.le_refl _) _, hs.out⟩, by simp [intOf]⟩
      · by_cases e : q = j
        · subst e
          rw [HXb.out, Hp.out]
          simp [nth, List.getD_eq_getElem?_getD, Hl.out, h2]
        · rw [show nth (A.set j p) q = nth A q by simp [nth, Ne.symm e]]
          exact HAq.out q (by omega) h2
      · rw [HXn.out, Hz.out]
end Go.Proofs.YtbmhmaejakjieaaDoor
