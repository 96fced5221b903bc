/- Whole stores inside a drawn region; Divide's remainder in plain numbers. -/
import Derived.Test.YtbklepgbieohiaaQ2
namespace Go.Proofs.Ytbklepgbieohiaa
open Go.RowKit

section
variable {ops : Array Oper} {S : World → Prop} {K' : Act → World → Prop} {o : Oper} {a : Act} {w : World}

theorem R_load4s (hw : Region.wanted o (yielded ops a.tmps) = true) (x : Operand) (ho : o.op = .load 24 x) (g : Nat) (hx : a.eval x = .pointer (some ⟨g, 0, none⟩))
    (t : TypeId) (L : List Nat) (hg : ∀ w, S w → Has w g t (u64s L)) (hl : L.length = 4)
    (h : K' (a.put o.dst (.agg (u64s L))) w) : stepR Try.prog ops S o a w K' := by
  refine R_read _ hw (fun w hS => ?_) h
  have h1 := loadVar4 (hg w hS) hl
  unfold execOp
  simp only [ho, hx, Instr.loadAt, Instr.sureAddr, Sem.run_bind, Sem.run_pure, Result.andThen_ok, h1]

theorem R_load8s (hw : Region.wanted o (yielded ops a.tmps) = true) (x : Operand) (ho : o.op = .load 37 x) (g : Nat) (hx : a.eval x = .pointer (some ⟨g, 0, none⟩))
    (t : TypeId) (L : List Nat) (hg : ∀ w, S w → Has w g t (u64s L)) (hl : L.length = 8)
    (h : K' (a.put o.dst (.agg (u64s L))) w) : stepR Try.prog ops S o a w K' := by
  refine R_read _ hw (fun w hS => ?_) h
  have h1 := loadVar8 (hg w hS) hl
  unfold execOp
  simp only [ho, hx, Instr.loadAt, Instr.sureAddr, Sem.run_bind, Sem.run_pure, Result.andThen_ok, h1]

theorem R_store4 (hw : Region.wanted o (yielded ops a.tmps) = true) (x y : Operand) (ho : o.op = .store 24 x y) (g : Nat) (hx : a.eval x = .pointer (some ⟨g, 0, none⟩))
    (L : List Nat) (hy : a.eval y = .agg (u64s L)) (t : TypeId) (M : List Nat) (hg : Has w g t (u64s M)) (hl : L.length = 4) (hm : M.length = 4)
    (h : ∀ w1, Has w1 g t (u64s L) → Only g w w1 → K' (a.put o.dst undef) w1) : opS Try.prog ops o K' a w := by
  refine .inl ⟨hw, ?_⟩
  unfold execOp
  simp only [ho, hx, hy, Instr.storeAt, Instr.sureAddr, Sem.run_bind, Sem.run_pure, Result.andThen_ok, run_storeVar_row w g t 24 _ _ hg (by rw [info24, u64s_size, hl]) (by rw [u64s_size, u64s_size, hl, hm]) (u64s_one L), RunsTo]
  exact h _ (hg.setRow _) (Only.setRow w g _)

theorem R_store8 (hw : Region.wanted o (yielded ops a.tmps) = true) (x y : Operand) (ho : o.op = .store 37 x y) (g : Nat) (hx : a.eval x = .pointer (some ⟨g, 0, none⟩))
    (L : List Nat) (hy : a.eval y = .agg (u64s L)) (t : TypeId) (M : List Nat) (hg : Has w g t (u64s M)) (hl : L.length = 8) (hm : M.length = 8)
    (h : ∀ w1, Has w1 g t (u64s L) → Only g w w1 → K' (a.put o.dst undef) w1) : opS Try.prog ops o K' a w := by
  refine .inl ⟨hw, ?_⟩
  unfold execOp
  simp only [ho, hx, hy, Instr.storeAt, Instr.sureAddr, Sem.run_bind, Sem.run_pure, Result.andThen_ok, run_storeVar_row w g t 37 _ _ hg (by rw [info37, u64s_size, hl]) (by rw [u64s_size, u64s_size, hl, hm]) (u64s_one L), RunsTo]
  exact h _ (hg.setRow _) (Only.setRow w g _)
end

/-- The digits of a number shifted to the right. -/
def shrd (A : List Nat) (s k : Nat) : Nat := if 0 < s then uadd (nth A k / 2 ^ s) (mL (nth A (k + 1)) (2 ^ (64 - s))) else nth A k

theorem shr_digit {A : List Nat} {s k : Nat} (hd : Dig A) (hs : s < 64) (hk : k + 1 < A.length) : shrd A s k = val A / 2 ^ s / B ^ k % B ∧ shrd A s k < B := by
  have e1 := val_digit hd (k := k) (by omega)
  have e2 := val_digit hd hk
  have hc : val A / 2 ^ s / B ^ k = val A / B ^ k / 2 ^ s := by rw [Nat.div_div_eq_div_mul, Nat.div_div_eq_div_mul, Nat.mul_comm]
  rw [hc, e1, e2]
  generalize val A / B ^ (k + 1 + 1) = z
  have hx := hd.get k
  have hy := hd.get (k + 1)
  unfold shrd
  split
  · rename_i h0
    have hB := two64 hs
    have hs2 : 64 - s < 64 := by omega
    have hxl : nth A k / 2 ^ s < 2 ^ (64 - s) := (Nat.div_lt_iff_lt_mul (Nat.two_pow_pos s)).2 (by rw [Nat.mul_comm, ← hB]; exact hx)
    have hsum := left_lt (x := nth A (k + 1)) hxl hs2
    refine ⟨?_, uadd_lt _ _⟩
    rw [uadd_eq hsum]
    have e3 : nth A k + B * (nth A (k + 1) + B * z) = nth A k + 2 ^ s * (2 ^ (64 - s) * nth A (k + 1) + B * (2 ^ (64 - s) * z)) := by
      congr 1
      rw [Nat.mul_add, Nat.mul_add]
      congr 1
      · rw [hB, Nat.mul_assoc]
      · rw [Nat.mul_left_comm B (2 ^ (64 - s)) z, ← Nat.mul_assoc, ← Nat.mul_assoc, ← hB, Nat.mul_assoc]
    rw [e3, Nat.add_mul_div_left _ _ (Nat.two_pow_pos s), ← Nat.add_assoc, Nat.add_mul_mod_self_left]
    rw [Nat.mul_comm (2 ^ (64 - s)), ← Nat.add_mod_mod]
    exact (Nat.mod_eq_of_lt hsum).symm
  · rename_i h0
    obtain rfl : s = 0 := by omega
    refine ⟨?_, hx⟩
    rw [Nat.pow_zero, Nat.div_one, Nat.add_mul_mod_self_left, Nat.mod_eq_of_lt hx]

/-- The state of the loop that makes the remainder. -/
structure RemIn (A : List Nat) (s k : Nat) (R : List Nat) : Prop where
  len : R.length = 4
  dig : Dig R
  eq : val R = val A / 2 ^ s % B ^ k
  top : ∀ j, k ≤ j → nth R j = 0

theorem RemIn.step {A R : List Nat} {s k : Nat} (h : RemIn A s k R) (hd : Dig A) (hs : s < 64) (hk : k < 4) (hl : 4 < A.length) : RemIn A s (k + 1) (R.set k (shrd A s k)) := by
  obtain ⟨e, hlt⟩ := shr_digit hd hs (k := k) (by omega)
  refine ⟨by simp [h.len], h.dig.set _ hlt, ?_, fun j hj => by rw [nth_set_ne (by omega)]; exact h.top j (by omega)⟩
  have h1 := val_set (L := R) (k := k) (by rw [h.len]; exact hk) (shrd A s k)
  rw [h.top k (Nat.le_refl _), Nat.mul_zero, Nat.add_zero, h.eq] at h1
  rw [h1, e, Nat.mod_pow_succ]

/-- What Divide has in the end. -/
theorem div_end {W m p s n : Nat} {A Q R : List Nat} (hp : p = 2 ^ s) (hm : m < B ^ n) (g : DivIn (W * p) (m * p) n 0 A Q) (h : RemIn A s n R) : val Q = W / m ∧ val R = W % m := by
  have hpos : 0 < p := by rw [hp]; exact Nat.two_pow_pos _
  have e := g.eq
  have l := g.low
  rw [Nat.pow_zero, Nat.div_one] at l
  have hm0 : 0 < m := by
    rcases Nat.eq_zero_or_pos m with h0 | h0
    · rw [h0, Nat.zero_mul] at l; omega
    · exact h0
  have h1 : m * val Q ≤ W := by
    have : m * val Q * p ≤ W * p := by rw [Nat.mul_right_comm]; omega
    exact Nat.le_of_mul_le_mul_right this hpos
  obtain ⟨r, hr⟩ : ∃ r, W = m * val Q + r := ⟨W - m * val Q, by omega⟩
  have h2 : val A = r * p := by
    rw [hr, Nat.add_mul, Nat.mul_right_comm m (val Q) p] at e
    omega
  have h3 : r < m := by rw [h2] at l; exact Nat.lt_of_mul_lt_mul_right l
  have h4 : val R = r := by
    rw [h.eq, h2, hp, Nat.mul_div_cancel _ (Nat.two_pow_pos s)]
    exact Nat.mod_eq_of_lt (Nat.lt_trans h3 hm)
  rw [h4, hr]
  refine ⟨?_, ?_⟩
  · rw [Nat.mul_add_div hm0, Nat.div_eq_of_lt h3, Nat.add_zero]
  · rw [Nat.mul_add_mod, Nat.mod_eq_of_lt h3]
end Go.Proofs.Ytbklepgbieohiaa
