/- Plain laws: lists of digits in base 2^64 and the numbers that they stand for. -/
import Derived.Test.YtbklepgbieohiaaK
namespace Go.Proofs.Ytbklepgbieohiaa

/-- The number of digits, the lowest first. -/
def val : List Nat → Nat
  | [] => 0
  | x :: l => x + B * val l

/-- Digits. -/
def Dig (L : List Nat) : Prop := ∀ x, x ∈ L → x < B

/-- k digits of a number. -/
def digs : Nat → Nat → List Nat
  | 0, _ => []
  | k + 1, n => n % B :: digs k (n / B)

theorem Dig.nil : Dig [] := fun _ h => by cases h
theorem Dig.cons {x : Nat} {L : List Nat} (h : x < B) (hl : Dig L) : Dig (x :: L) := by
  intro y hy
  rcases List.mem_cons.1 hy with rfl | hy
  · exact h
  · exact hl y hy
theorem Dig.head {x : Nat} {L : List Nat} (h : Dig (x :: L)) : x < B := h x (List.mem_cons_self ..)
theorem Dig.tail {x : Nat} {L : List Nat} (h : Dig (x :: L)) : Dig L := fun y hy => h y (List.mem_cons_of_mem _ hy)
theorem Dig.append {L M : List Nat} (h : Dig L) (g : Dig M) : Dig (L ++ M) := by
  intro y hy
  rcases List.mem_append.1 hy with hy | hy
  · exact h y hy
  · exact g y hy
theorem Dig.take {L : List Nat} (h : Dig L) (k : Nat) : Dig (L.take k) := fun y hy => h y (List.mem_of_mem_take hy)
theorem Dig.drop {L : List Nat} (h : Dig L) (k : Nat) : Dig (L.drop k) := fun y hy => h y (List.mem_of_mem_drop hy)
theorem Dig.get {L : List Nat} (h : Dig L) (k : Nat) : nth L k < B := by
  unfold nth
  rw [List.getD_eq_getElem?_getD]
  rcases Nat.lt_or_ge k L.length with hk | hk
  · rw [List.getElem?_eq_getElem hk]; exact h _ (List.getElem_mem hk)
  · rw [List.getElem?_eq_none hk]; exact B_pos
theorem Dig.set {L : List Nat} (h : Dig L) (k : Nat) {v : Nat} (hv : v < B) : Dig (L.set k v) := by
  intro y hy
  rcases List.mem_or_eq_of_mem_set hy with hy | rfl
  · exact h y hy
  · exact hv

theorem digs_length (k n : Nat) : (digs k n).length = k := by
  induction k generalizing n with
  | zero => rfl
  | succ k ih => simp [digs, ih]

theorem digs_dig (k n : Nat) : Dig (digs k n) := by
  induction k generalizing n with
  | zero => exact Dig.nil
  | succ k ih => exact Dig.cons (Nat.mod_lt _ B_pos) (ih _)

theorem val_append (L M : List Nat) : val (L ++ M) = val L + B ^ L.length * val M := by
  induction L with
  | nil => simp [val]
  | cons x L ih =>
    simp only [List.cons_append, val, ih, List.length_cons, Nat.pow_succ]
    rw [Nat.mul_add, Nat.mul_comm (B ^ L.length) B, Nat.mul_assoc]
    omega

theorem val_lt {L : List Nat} (h : Dig L) : val L < B ^ L.length := by
  induction L with
  | nil => simp [val]
  | cons x L ih =>
    have h1 := h.head
    have h2 := ih h.tail
    simp only [val, List.length_cons, Nat.pow_succ]
    have h3 : val L + 1 ≤ B ^ L.length := h2
    have h4 : B * (val L + 1) ≤ B * B ^ L.length := Nat.mul_le_mul_left _ h3
    rw [Nat.mul_comm (B ^ L.length) B]
    rw [Nat.mul_add] at h4
    omega

theorem val_digs (k n : Nat) : val (digs k n) = n % B ^ k := by
  induction k generalizing n with
  | zero => simp [digs, val, Nat.mod_one]
  | succ k ih =>
    simp only [digs, val, ih]
    rw [Nat.pow_succ, Nat.mul_comm (B ^ k) B, Nat.mod_mul]

theorem val_digs_lt {k n : Nat} (h : n < B ^ k) : val (digs k n) = n := by rw [val_digs, Nat.mod_eq_of_lt h]

theorem digs_val {L : List Nat} (h : Dig L) : digs L.length (val L) = L := by
  induction L with
  | nil => rfl
  | cons x L ih =>
    have h1 := h.head
    simp only [List.length_cons, digs, val]
    rw [Nat.add_mul_mod_self_left, Nat.mod_eq_of_lt h1, Nat.add_mul_div_left _ _ B_pos, Nat.div_eq_of_lt h1, Nat.zero_add, ih h.tail]

theorem eq_digs {L : List Nat} {k : Nat} (hl : L.length = k) (h : Dig L) : L = digs k (val L) := by
  subst hl; exact (digs_val h).symm

theorem val_inj {L M : List Nat} (hl : L.length = M.length) (h : Dig L) (g : Dig M) (e : val L = val M) : L = M := by
  rw [← digs_val h, ← digs_val g, hl, e]

theorem digs_inj {k m n : Nat} (hm : m < B ^ k) (hn : n < B ^ k) (e : digs k m = digs k n) : m = n := by
  rw [← val_digs_lt hm, ← val_digs_lt hn, e]

theorem nth_lt {L : List Nat} {k : Nat} (h : k < L.length) : nth L k = L[k] := by
  unfold nth; rw [List.getD_eq_getElem?_getD, List.getElem?_eq_getElem h]; rfl

/-- One digit more. -/
theorem val_take_succ {L : List Nat} {k : Nat} (h : k < L.length) : val (L.take (k + 1)) = val (L.take k) + B ^ k * nth L k := by
  rw [List.take_succ_eq_append_getElem h, val_append, nth_lt h]
  simp [val, List.length_take, Nat.min_eq_left (Nat.le_of_lt h)]

theorem take_set_succ {L : List Nat} {k : Nat} (h : k < L.length) (v : Nat) : (L.set k v).take (k + 1) = L.take k ++ [v] := by
  rw [List.take_succ_eq_append_getElem (by simpa using h)]
  simp [List.take_set_of_le]

theorem val_take_set {L : List Nat} {k : Nat} (h : k < L.length) (v : Nat) : val ((L.set k v).take (k + 1)) = val (L.take k) + B ^ k * v := by
  rw [take_set_succ h, val_append]
  simp [val, List.length_take, Nat.min_eq_left (Nat.le_of_lt h)]

theorem drop_set_succ (L : List Nat) (k v : Nat) : (L.set k v).drop (k + 1) = L.drop (k + 1) := by
  rw [List.drop_set]; simp

theorem nth_of_drop {L M : List Nat} {k : Nat} (h : L.drop k = M.drop k) : nth L k = nth M k := by
  have h1 := congrArg (fun l => l.getD 0 0) h
  simpa [nth, List.getD_eq_getElem?_getD, List.getElem?_drop] using h1

theorem drop_succ_of_drop {L M : List Nat} {k : Nat} (h : L.drop k = M.drop k) : L.drop (k + 1) = M.drop (k + 1) := by
  have h1 := congrArg (fun l => l.drop 1) h
  simpa [List.drop_drop] using h1

theorem val_split (L : List Nat) (k : Nat) (h : k ≤ L.length) : val L = val (L.take k) + B ^ k * val (L.drop k) := by
  have h1 := val_append (L.take k) (L.drop k)
  rw [List.take_append_drop, List.length_take, Nat.min_eq_left h] at h1
  exact h1

theorem drop_cons {L : List Nat} {k : Nat} (h : k < L.length) : L.drop k = nth L k :: L.drop (k + 1) := by
  rw [List.drop_eq_getElem_cons h, nth_lt h]

/-- Where the digits above a place are the same, and the one there is less. -/
theorem val_lt_of {X Y : List Nat} {m : Nat} (hX : Dig X) (hm : m < X.length) (hl : Y.length = X.length) (h : X.drop (m + 1) = Y.drop (m + 1)) (hd : nth X m < nth Y m) : val X < val Y := by
  rw [val_split X m (Nat.le_of_lt hm), val_split Y m (by omega), drop_cons hm, drop_cons (L := Y) (k := m) (by omega), h]
  have h1 := val_lt (hX.take m)
  rw [List.length_take, Nat.min_eq_left (Nat.le_of_lt hm)] at h1
  simp only [val]
  generalize nth X m = x at *
  generalize nth Y m = y at *
  have h2 : B ^ m * (x + 1) ≤ B ^ m * y := Nat.mul_le_mul_left _ hd
  rw [Nat.mul_add] at h2 ⊢
  rw [Nat.mul_add]
  omega

/-- Sums, differences and products of 64 bits. -/
def uadd (x y : Nat) : Nat := (x + y) % B
def usub (x y : Nat) : Nat := (x + B - y) % B
def umul (x y : Nat) : Nat := x * y % B

theorem uadd_lt (x y : Nat) : uadd x y < B := Nat.mod_lt _ B_pos
theorem usub_lt (x y : Nat) : usub x y < B := Nat.mod_lt _ B_pos
theorem umul_lt (x y : Nat) : umul x y < B := Nat.mod_lt _ B_pos

/-- Quotients and remainders, opaque to the walk. -/
def ud (x m : Nat) : Nat := x / m
def um (x m : Nat) : Nat := x % m

theorem tmod_um (x m : Nat) : ((x : Int).tmod (m : Int)) = ((um x m : Nat) : Int) := by
  rw [← Int.ofNat_tmod]; rfl
theorem wrap_ud (x m : Nat) (h : x < B) : IntKind.u64.wrap ((x : Int) / (m : Int)) = ((ud x m : Nat) : Int) := by
  have h1 : x / m < B := Nat.lt_of_le_of_lt (Nat.div_le_self _ _) h
  rw [← Int.natCast_ediv, IntKind.wrap_u64]
  unfold ud
  generalize x / m = q at *
  unfold B at *
  omega

theorem wrap_u64 (n : Nat) : IntKind.u64.wrap (n : Int) = ((n % B : Nat) : Int) := by
  rw [IntKind.wrap_u64]; unfold B; omega
theorem wrap_add (x y : Nat) : IntKind.u64.wrap ((x : Int) + (y : Int)) = ((uadd x y : Nat) : Int) := by
  rw [← Int.natCast_add, wrap_u64]; rfl
theorem wrap_mul (x y : Nat) : IntKind.u64.wrap ((x : Int) * (y : Int)) = ((umul x y : Nat) : Int) := by
  rw [← Int.natCast_mul, wrap_u64]; rfl
theorem wrap_sub (x y : Nat) (hy : y < B) : IntKind.u64.wrap ((x : Int) - (y : Int)) = ((usub x y : Nat) : Int) := by
  have h : IntKind.u64.wrap ((x : Int) - (y : Int)) = IntKind.u64.wrap (((x + B - y : Nat)) : Int) := by
    rw [IntKind.wrap_u64, IntKind.wrap_u64]; unfold B at *; omega
  rw [h, wrap_u64]; rfl

end Go.Proofs.Ytbklepgbieohiaa
