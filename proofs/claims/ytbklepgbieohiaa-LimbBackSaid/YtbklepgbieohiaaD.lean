/- The walks of Of and Widen. -/
import Derived.Test.YtbklepgbieohiaaC
import Derived.Deep.RegionHeld3
import Derived.Deep.AppendLies
namespace Go.Proofs.Ytbklepgbieohiaa
open Go.RowKit

theorem digs_of_lt {n : Nat} (h : n < B) : digs 4 n = [n, 0, 0, 0] := by
  simp [digs, Nat.mod_eq_of_lt h, Nat.div_eq_of_lt h]

theorem of_any (n : Nat) (h : n < B) (w : World) :
    Calls Try.prog 19 #[.int .u64 n] w fun e w' => e = .returned (A4 n) ∧ Below w.heap.size w w' := by
  have hL := Lib.hid (digs_of_lt h)
  clear h
  show Calls Try.prog 19 #[.int .u64 n] w fun e w' => e = .returned (.agg (u64s (digs 4 n))) ∧ Below w.heap.size w w'
  rw [hL.out]
  go_enter Try.func19, Try.ntmps19
  go_wp2
  exact bodyPost_ret (res4 rfl rfl (Has.new w (u64s [n, 0, 0, 0]) 24) rfl) rfl ⟨rfl, (Below.refl _ _).alloc (Nat.le_refl _) _⟩

theorem list4 {X : List Nat} (h : X.length = 4) : X = [nth X 0, nth X 1, nth X 2, nth X 3] := by
  match X, h with
  | [a, b, c, d], _ => rfl

theorem digs_add (j k n : Nat) : digs (j + k) n = digs j n ++ digs k (n / B ^ j) := by
  induction j generalizing n with
  | zero => simp [digs]
  | succ j ih =>
    rw [Nat.succ_add]
    simp only [digs, List.cons_append, ih, Nat.div_div_eq_div_mul, Nat.pow_succ, Nat.mul_comm (B ^ j) B]

theorem digs_zero (k : Nat) : digs k 0 = List.replicate k 0 := by
  induction k with
  | zero => rfl
  | succ k ih => simp [digs, ih, List.replicate_succ]

theorem digs8_of_lt {n : Nat} (h : n < B ^ 4) : digs 8 n = digs 4 n ++ [0, 0, 0, 0] := by
  rw [show (8 : Nat) = 4 + 4 from rfl, digs_add, Nat.div_eq_of_lt h]; rfl

set_option maxHeartbeats 400000 in
theorem widen_core (X : List Nat) (hlx : X.length = 4) (w : World) :
    Calls Try.prog 27 #[.agg (u64s X)] w fun e w' => e = .returned (.agg (u64s (X ++ [0, 0, 0, 0]))) ∧ Below w.heap.size w w' := by
  have hX := Lib.hid (fun o => (Has.new w (u64s X) 24).alloc o)
  have h0 := fun o => (hX.out o).cell (k := 0) (by omega)
  have h1 := fun o => (hX.out o).cell (k := 1) (by omega)
  have h2 := fun o => (hX.out o).cell (k := 2) (by omega)
  have h3 := fun o => (hX.out o).cell (k := 3) (by omega)
  go_enter Try.func27, Try.ntmps27
  go_wp2
  have e : X = [nth X 0, nth X 1, nth X 2, nth X 3] := list4 hlx
  refine bodyPost_ret (res8 rfl rfl (Has.newAt (u64s [nth X 0, nth X 1, nth X 2, nth X 3, 0, 0, 0, 0]) 37 (by simp)) rfl) rfl ⟨?_, ((Below.refl _ _).alloc (Nat.le_refl _) _).alloc (by simp) _⟩
  rw [e]; rfl

theorem widen_any (x : Nat) (hx : x < B ^ 4) (w : World) :
    Calls Try.prog 27 #[A4 x] w fun e w' => e = .returned (A8 x) ∧ Below w.heap.size w w' := by
  have h := widen_core _ (digs_length 4 x) w
  rw [← digs8_of_lt hx] at h
  exact h

/-- The digits in base 2 to the 32, the lowest first. -/
def halves (L : List Nat) : List Nat := L.flatMap fun x => [um x 4294967296, ud x 4294967296]

theorem halves_length (L : List Nat) : (halves L).length = 2 * L.length := by
  induction L with
  | nil => rfl
  | cons x L ih => simp only [halves, List.flatMap_cons, List.length_append, List.length_cons, List.length_nil] at *; omega

theorem halves_snoc {L : List Nat} {k : Nat} (h : k < L.length) : halves (L.take (k + 1)) = halves (L.take k) ++ [um (nth L k) 4294967296, ud (nth L k) 4294967296] := by
  rw [List.take_succ_eq_append_getElem h, nth_lt h]
  unfold halves
  rw [List.flatMap_append]
  simp

/-- A slice of one's own. -/
def NewSlice (w : World) (L : List Nat) (e : Ending) (w' : World) : Prop := ∃ v, e = .returned v ∧ Own w' w.heap.size v L ∧ Below w.heap.size w w'

set_option maxHeartbeats 400000 in
theorem digits_any (L : List Nat) (b off n c : Nat) (hn : L.length = n) (hc : n ≤ c) (hb : n ≤ 1000) (hd : Dig L) (w : World) (hL : Seg w b off L) (hw : b < w.heap.size) :
    Calls Try.prog 41 #[.slice (some ⟨b, off, none⟩) n c] w (NewSlice w (halves L)) := by
  subst hn
  have HL := Lib.hid hL
  clear hL
  go_enter Try.func41, Try.ntmps41
  go_wp2
  go_loopw [3, 4] (fun v i wr => ∃ k : Nat, k ≤ L.length ∧ i = .int .i64 k ∧ Own wr w.heap.size v (halves (L.take k)) ∧ Below w.heap.size w wr) (fun _ i _ => L.length - (intOf i).toNat)
  case atStart =>
    refine ⟨0, by omega, rfl, ?_, (Below.refl _ _).alloc (Nat.le_refl _) _⟩
    exact ⟨by simp [halves], Or.inr ⟨w.heap.size, 0, #[], rfl, Nat.le_refl _, heap_alloc_new w _, Nat.le_refl _, by simp, by simp, by simp [halves]⟩⟩
  case round =>
    obtain ⟨k, hk, rfl, hO, hbel⟩ := hrel
    by_cases hlt : k < L.length
    · have h1 := HL.out.below hbel hw k hlt
      have HO := Lib.hid hO
      have Hs := Lib.hid (halves_snoc hlt)
      have Hl := Lib.hid (halves_length (L.take k))
      have hkb := Lib.hid (List.length_take_le k L)
      have hr : ((nth L k : Nat) : Int).tmod 4294967296 = ((um (nth L k) 4294967296 : Nat) : Int) := tmod_um (nth L k) 4294967296
      have hq : IntKind.u64.wrap (((nth L k : Nat) : Int) / 4294967296) = ((ud (nth L k) 4294967296 : Nat) : Int) := wrap_ud (nth L k) 4294967296 (hd.get k)
      have hne := Lib.hid (HO.out.ne hw)
      have hbw := Lib.hid (Nat.lt_of_lt_of_le hw hbel.size)
      have hi0 : (0 : Int) ≤ (k : Int) := Int.natCast_nonneg _
      have hi1 : (k : Int) < (L.length : Int) := by omega
      clear hO
      go_wp2
      go_region_held3 (fun w' => w'.cell? ⟨b, off + k, none⟩ = some (.int .u64 ((nth L k : Nat) : Int)))
        (first
          | go_keep
          | (rw [hg2.cell_far _ (by have := hbw.out; simp; omega) hne.out]; assumption))
        ((refine step53 rfl _ _ rfl w.heap.size _ _ rfl (HO.out.alloc _).drew wr.heap.size 0 2 2 [um (nth L k) 4294967296, ud (nth L k) 4294967296] rfl rfl (seg_new wr _ 22 rfl).drew (by rw [Hl.out]; have := hkb.out; simp; omega) (by have := hbel.size; simp; omega) ?_; intro v2 w2 ho2 hg2))
      go_wp2
      go_roundw
      case rel =>
        refine ⟨k + 1, by omega, by go_num, ?_, ?_⟩
        · rw [Hs.out]; exact ho2
        · exact ((hbel.alloc hbel.size _).drew).grown hg2 (by have := hbel.size; simp; omega) (fun j hj => (HO.out.lt j hj).1)
      case measure => simp [intOf] <;> omega
    · obtain rfl : k = L.length := by omega
      have HO := Lib.hid hO
      clear hO
      go_wp2
      go_ret
      refine ⟨_, rfl, ?_, hbel⟩
      have := HO.out
      rw [List.take_of_length_le (Nat.le_refl _)] at this
      exact this
end Go.Proofs.Ytbklepgbieohiaa
