/- The walks of Text. -/
import Derived.Test.YtbklepgbieohiaaT
import Derived.Deep.OwnRows
namespace Go.Proofs.Ytbklepgbieohiaa
open Go.RowKit

theorem made_u8 (n : Nat) : madeCells #[Value.int .u8 0] n = u8s (List.replicate n 0) := by
  apply Array.ext'
  simp [madeCells, u8s, Nat.mod_one, List.map_const']
theorem made_u64 (n : Nat) : madeCells #[Value.int .u64 0] n = u64s (List.replicate n 0) := by
  apply Array.ext'
  simp [madeCells, u64s, Nat.mod_one, List.map_const']

theorem make28 (n : Nat) (hn : n ≤ 1000000) (w : World) : (Instr.makeSlice 28 (.int .i64 (n : Int)) (.int .i64 (n : Int))).run Try.prog w = .ok (.slice (some ⟨w.heap.size, 0, none⟩) n n) (w.alloc (.cells (u8s (List.replicate n 0)) 5)) := by
  have := run_make_row' (P := Try.prog) 28 5 (.int .u8 0) 1 und28 info5 rfl .i64 .i64 n (by omega) (by omega) w
  rw [made_u8] at this; exact this
theorem make53 (n : Nat) (hn : n ≤ 1000000) (w : World) : (Instr.makeSlice 53 (.int .i64 (n : Int)) (.int .i64 (n : Int))).run Try.prog w = .ok (.slice (some ⟨w.heap.size, 0, none⟩) n n) (w.alloc (.cells (u64s (List.replicate n 0)) 22)) := by
  have := run_make_row' (P := Try.prog) 53 22 (.int .u64 0) 8 und53 info22 rfl .i64 .i64 n (by omega) (by omega) w
  rw [made_u64] at this; exact this

/-- A digit to the base 16. -/
def hexd (d : Nat) : Nat := if d < 10 then 48 + d else 87 + d

theorem hex_index (k : IntKind) (d : Nat) (h : d < 16) (w : World) :
    (Instr.index 9 (.string { data := #[48, 49, 50, 51, 52, 53, 54, 55, 56, 57, 97, 98, 99, 100, 101, 102] }) (.int k ((d : Nat) : Int))).run Try.prog w = .ok (.int .u8 ((hexd d : Nat) : Int)) w := by
  rcases (by omega : d = 0 ∨ d = 1 ∨ d = 2 ∨ d = 3 ∨ d = 4 ∨ d = 5 ∨ d = 6 ∨ d = 7 ∨ d = 8 ∨ d = 9 ∨ d = 10 ∨ d = 11 ∨ d = 12 ∨ d = 13 ∨ d = 14 ∨ d = 15) with rfl | rfl | rfl | rfl | rfl | rfl | rfl | rfl | rfl | rfl | rfl | rfl | rfl | rfl | rfl | rfl
  all_goals kernel_rfl

/-- Four bits. -/
def nib (x r : Nat) : Nat := x / 2 ^ (4 * r) % 16
theorem nib_lt (x r : Nat) : nib x r < 16 := Nat.mod_lt _ (by decide)

theorem and_nib {a : Nat} (ha : a < B) (r : Nat) : bits BinOp.and IntKind.u64 (((a : Nat) : Int) / 2 ^ (4 * r)) 15 = ((nib a r : Nat) : Int) := by
  have e : ((a : Int) / 2 ^ (4 * r)) = ((a / 2 ^ (4 * r) : Nat) : Int) := by simp
  have hm : a / 2 ^ (4 * r) < B := Nat.lt_of_le_of_lt (Nat.div_le_self _ _) ha
  unfold nib
  rw [e]
  generalize a / 2 ^ (4 * r) = m at *
  have h := bits_and_u64_nat m 15 hm (by decide)
  have e2 : m &&& 15 = m % 16 := by
    have := Nat.and_two_pow_sub_one_eq_mod m 4
    simpa using this
  rw [e2] at h
  exact h

/-- How many digits to the base 16, from n bits. -/
def hexn (n : Nat) : Nat := if n = 0 then 1 else (n + 3) / 4

/-- The text of digits: n signs. -/
def textOf (X : List Nat) (n : Nat) : List Nat := (List.range n).map fun j => hexd (nib (nth X ((n - 1 - j) / 16)) ((n - 1 - j) % 16))

theorem hexn_max (n : Nat) : max (1 : Int) (((n : Int) + 3) / 4) = ((hexn n : Nat) : Int) := by
  unfold hexn
  split
  · subst n; decide
  · have e : ((n : Int) + 3) / 4 = (((n + 3) / 4 : Nat) : Int) := by simp
    rw [e]; omega

set_option maxHeartbeats 400000 in
set_option maxRecDepth 100000 in
theorem text_core (X : List Nat) (hlx : X.length = 4) (hdx : Dig X) (n : Nat) (hn : n ≤ 256) (hlen : ∀ w, Calls Try.prog 10 #[.agg (u64s X)] w fun e w' => e = .returned (.int .i64 ((n : Nat) : Int)) ∧ Below w.heap.size w w') (w : World) :
    Calls Try.prog 17 #[.agg (u64s X)] w fun e w' => e = .returned (.string (str (textOf X (hexn n)))) ∧ Below w.heap.size w w' := by
  have HL := Lib.hid hlen
  clear hlen
  have hX := Lib.hid (Has.new w (u64s X) 24)
  have hmx := hexn_max n
  have hm : 1 ≤ hexn n ∧ hexn n ≤ 64 := by unfold hexn; split <;> omega
  generalize hexn n = m at *
  have hmk := make28 m (by omega)
  go_enter Try.func17, Try.ntmps17
  go_wp2_with (first | (refine load4 rfl _ rfl _ rfl 24 X hX.out hlx ?_) | (go_at_call 10; refine (HL.out _).mono ?_; rintro e w1 ⟨rfl, hb1⟩))
  have hbel0 := Lib.hid (bcall ((Below.refl w.heap.size w).alloc (Nat.le_refl _) (.cells (u64s X) 24)) hb1 (by simp))
  have hX1 := Lib.hid (hX.out.below hb1 (by simp))
  clear hb1 hmk
  go_loopw [14] (fun i wr => ∃ (k : Nat) (A : List Nat), k ≤ m ∧ A.length = m ∧ (∀ q, q < k → nth A (m - 1 - q) = hexd (nib (nth X (q / 16)) (q % 16))) ∧ i = .int .i64 k ∧ Below w.heap.size w wr ∧ Has wr w.heap.size 24 (u64s X) ∧ Has wr w1.heap.size 5 (u8s A)) (fun i _ => m - (intOf i).toNat)
  case atStart =>
    exact ⟨0, List.replicate m 0, by omega, by simp, fun q hq => by omega, rfl, hbel0.out.alloc hbel0.out.size _, hX1.out.alloc _, Has.new _ _ _⟩
  case round =>
    obtain ⟨k, A, hk, hl, hA, rfl, hbel, hXr, hO⟩ := hrel
    have HXr := Lib.hid hXr
    have HA := Lib.hid hA
    have Hl := Lib.hid hl
    have hne := Lib.hid (show w.heap.size ≠ w1.heap.size by have := hX1.out.lt; omega)
    by_cases hlt : k < m
    · obtain ⟨p, hp⟩ : ∃ p, k + p + 1 = m := ⟨m - 1 - k, by omega⟩
      have h1 := hXr.cell (k := k / 16) (by omega)
      have h2 := hO.cellB (k := p) (by omega)
      have h3 := hO.free p
      have HO := Lib.hid hO
      have e0 : (m : Int) - 1 - (k : Int) = (p : Int) := by omega
      have e1 : IntKind.i64.wrap (((k : Nat) : Int) / 16) = ((k / 16 : Nat) : Int) := by rw [IntWalk.i64_in _ (by omega)]; simp
      have e2 := and_nib (hdx.get (k / 16)) (k % 16)
      have e3 := hex_index .u64 (nib (nth X (k / 16)) (k % 16)) (nib_lt _ _)
      have hp2 := Lib.hid hp
      have hpm : (p : Int) < (m : Int) := by omega
      clear hA hXr hO hl hp
      go_wp2
      refine ⟨⟨k + 1, A.set p _, by omega, by simpa using Hl.out, ?_, by go_num, hbel.setCell hbel0.out.size _, HXr.out.other hne.out _, HO.out.setB p _⟩, by simp [intOf]; omega⟩
      intro q hq
      have hp3 := hp2.out
      rw [nth_set (by have := Hl.out; omega)]
      split
      · obtain rfl : q = k := by omega
        rfl
      · exact HA.out q (by omega)
    · obtain rfl : k = m := by omega
      have hb : BV wr (.slice (some ⟨w1.heap.size, 0, none⟩) k k) A := Or.inr ⟨_, 0, k, by rw [hl], hO.segB⟩
      have hs := hb.string
      have hfin := Lib.hid (show A = textOf X k from list_of_nth hl (fun j hj => by have := hA (k - 1 - j) (by omega); rwa [show k - 1 - (k - 1 - j) = j by omega] at this))
      clear hA hXr hO hl hb
      go_wp2
      go_ret
      exact ⟨by rw [← hfin.out]; rfl, hbel⟩
end Go.Proofs.Ytbklepgbieohiaa
