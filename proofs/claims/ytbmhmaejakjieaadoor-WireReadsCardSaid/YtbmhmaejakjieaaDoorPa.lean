/- Plain laws of chapter 08: numbers and lists as bytes. -/
namespace Go.Proofs.YtbmhmaejakjieaaDoor

/-- The eight bytes of a number below 2 to the 64, the highest first. -/
def be8 (u : Nat) : List Nat :=
  [u / 72057594037927936 % 256, u / 281474976710656 % 256, u / 1099511627776 % 256, u / 4294967296 % 256, u / 16777216 % 256, u / 65536 % 256, u / 256 % 256, u % 256]

def step8 (a x : Nat) : Nat := (a * 256 + x) % 18446744073709551616

def read8 (L : List Nat) : Nat := L.foldl step8 0

theorem read8_be8 {u : Nat} (h : u < 18446744073709551616) : read8 (be8 u) = u := by
  simp only [read8, be8, List.foldl_cons, List.foldl_nil, step8]
  omega

theorem be8_read8 {a b c d e f g h : Nat} (ha : a < 256) (hb : b < 256) (hc : c < 256) (hd : d < 256) (he : e < 256) (hf : f < 256) (hg : g < 256) (hh : h < 256) :
    be8 (read8 [a, b, c, d, e, f, g, h]) = [a, b, c, d, e, f, g, h] := by
  simp only [read8, be8, List.foldl_cons, List.foldl_nil, step8, List.cons.injEq, and_true]
  omega

/-- One part with its length ahead. -/
def part1 (p : List Nat) : List Nat := p.length / 256 :: p.length % 256 :: p

def flatL (l : List (List Nat)) : List Nat := l.flatMap part1

/-- Parts out of bytes: none where they are no list. -/
def readL : Nat → List Nat → Option (List (List Nat))
  | _, [] => some []
  | 0, _ => none
  | _ + 1, [_] => none
  | f + 1, x :: y :: r => if r.length < x * 256 + y then none else (readL f (r.drop (x * 256 + y))).map (r.take (x * 256 + y) :: ·)

theorem readL_flatL : ∀ (l : List (List Nat)) (f : Nat), l.length ≤ f → readL f (flatL l) = some l
  | [], f, _ => by cases f <;> rfl
  | p :: l, 0, h => by simp at h
  | p :: l, f + 1, h => by
    have e : flatL (p :: l) = p.length / 256 :: p.length % 256 :: (p ++ flatL l) := by simp [flatL, part1]
    have e2 : p.length / 256 * 256 + p.length % 256 = p.length := by omega
    rw [e]
    simp only [readL]
    rw [e2, if_neg (by simp), List.take_left, List.drop_left, readL_flatL l f (by simpa using h)]
    rfl

/-- A field: its tag and its bytes. -/
def field1 (p : Nat × List Nat) : List Nat := p.1 :: p.2.length / 256 :: p.2.length % 256 :: p.2

def flatF (l : List (Nat × List Nat)) : List Nat := l.flatMap field1

/-- Do the tags rise from above t? -/
def rises : Nat → List (Nat × List Nat) → Bool
  | _, [] => true
  | t, p :: l => decide (t < p.1) && rises p.1 l

/-- Fields out of bytes, tags above t. -/
def readF : Nat → Nat → List Nat → Option (List (Nat × List Nat))
  | _, _, [] => some []
  | 0, _, _ => none
  | _ + 1, _, [_] => none
  | _ + 1, _, [_, _] => none
  | f + 1, t, g :: x :: y :: r => if g ≤ t then none else if r.length < x * 256 + y then none else (readF f g (r.drop (x * 256 + y))).map ((g, r.take (x * 256 + y)) :: ·)

theorem readF_flatF : ∀ (l : List (Nat × List Nat)) (f t : Nat), l.length ≤ f → rises t l = true → readF f t (flatF l) = some l
  | [], f, _, _, _ => by cases f <;> rfl
  | p :: l, 0, _, h, _ => by simp at h
  | p :: l, f + 1, t, h, hr => by
    simp only [rises, Bool.and_eq_true, decide_eq_true_eq] at hr
    have e : flatF (p :: l) = p.1 :: p.2.length / 256 :: p.2.length % 256 :: (p.2 ++ flatF l) := by simp [flatF, field1]
    have e2 : p.2.length / 256 * 256 + p.2.length % 256 = p.2.length := by omega
    rw [e]
    simp only [readF]
    rw [e2, if_neg (by omega), if_neg (by simp), List.take_left, List.drop_left, readF_flatF l f p.1 (by simpa using h) hr.2]
    rfl

/-- What is read is put as those bytes. -/
theorem flatF_readF : ∀ (f t : Nat) (b : List Nat) (l : List (Nat × List Nat)), (∀ x ∈ b, x < 256) → readF f t b = some l → flatF l = b ∧ rises t l = true
  | f, t, [], l, _, h => by
    cases f <;> (simp only [readF, Option.some.injEq] at h; subst h; exact ⟨rfl, rfl⟩)
  | 0, t, _ :: _, l, _, h => by simp [readF] at h
  | f + 1, t, [_], l, _, h => by simp [readF] at h
  | f + 1, t, [_, _], l, _, h => by simp [readF] at h
  | f + 1, t, g :: x :: y :: r, l, hb, h => by
    simp only [readF] at h
    split at h
    · simp at h
    · split at h
      · simp at h
      · rename_i h1 h2
        cases hr : readF f g (r.drop (x * 256 + y)) with
        | none => rw [hr] at h; simp at h
        | some m =>
          rw [hr] at h
          simp only [Option.map_some, Option.some.injEq] at h
          subst h
          obtain ⟨a, b⟩ := flatF_readF f g _ m (fun z hz => hb z (by
            have := List.mem_of_mem_drop hz
            simp [this])) hr
          have hy : y < 256 := hb y (by simp)
          have hl : (r.take (x * 256 + y)).length = x * 256 + y := by rw [List.length_take]; omega
          refine ⟨?_, by simp only [rises, Bool.and_eq_true, decide_eq_true_eq]; exact ⟨by omega, b⟩⟩
          have e : flatF ((g, r.take (x * 256 + y)) :: m) = field1 (g, r.take (x * 256 + y)) ++ flatF m := by simp [flatF]
          rw [e, a]
          simp only [field1, hl]
          rw [show (x * 256 + y) / 256 = x by omega, show (x * 256 + y) % 256 = y by omega]
          simp only [List.cons_append, List.take_append_drop]

/-- Cut short anywhere: another value, or none. -/
theorem readF_cut : ∀ (l : List (Nat × List Nat)) (f t n : Nat), l.length ≤ f → rises t l = true → n < (flatF l).length →
    readF f t ((flatF l).take n) = none ∨ ∃ m, readF f t ((flatF l).take n) = some m ∧ m.length < l.length
  | [], _, _, n, _, _, hn => by simp [flatF] at hn
  | p :: l, 0, _, _, h, _, _ => by simp at h
  | p :: l, f + 1, t, n, h, hr, hn => by
    simp only [rises, Bool.and_eq_true, decide_eq_true_eq] at hr
    have e : flatF (p :: l) = p.1 :: p.2.length / 256 :: p.2.length % 256 :: (p.2 ++ flatF l) := by simp [flatF, field1]
    have e2 : p.2.length / 256 * 256 + p.2.length % 256 = p.2.length := by omega
    rw [e] at hn ⊢
    match n with
    | 0 => exact Or.inr ⟨[], rfl, by simp⟩
    | 1 => exact Or.inl rfl
    | 2 => exact Or.inl rfl
    | k + 3 =>
      simp only [List.take_succ_cons, readF]
      rw [e2, if_neg (by omega)]
      by_cases hk : k < p.2.length
      · left
        rw [if_pos (by simp only [List.length_take]; omega)]
      · simp only [List.length_cons, List.length_append] at hn
        rw [if_neg (by simp only [List.length_take, List.length_append]; omega)]
        have h1 : (List.take k (p.2 ++ flatF l)).drop p.2.length = (flatF l).take (k - p.2.length) := by
          rw [List.drop_take, List.drop_left]
        rw [h1]
        rcases readF_cut l f p.1 (k - p.2.length) (by simpa using h) hr.2 (by omega) with h2 | ⟨m, h2, h3⟩
        · left; rw [h2]; rfl
        · right; rw [h2]; exact ⟨_, rfl, by simpa using h3⟩
end Go.Proofs.YtbmhmaejakjieaaDoor
