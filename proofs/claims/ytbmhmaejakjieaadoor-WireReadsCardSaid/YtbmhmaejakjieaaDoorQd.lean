/- Plain laws of fields that may be put. -/
import Derived.Test.YtbmhmaejakjieaaDoorQc
namespace Go.Proofs.YtbmhmaejakjieaaDoor

theorem readF_fuel : ∀ (f g t : Nat) (L : List Nat), L.length ≤ f → L.length ≤ g → readF f t L = readF g t L
  | f, g, t, [], _, _ => by cases f <;> cases g <;> rfl
  | 0, _, _, _ :: _, h, _ => by simp at h
  | _, 0, _, _ :: _, _, h => by simp at h
  | f + 1, g + 1, t, [_], _, _ => rfl
  | f + 1, g + 1, t, [_, _], _, _ => rfl
  | f + 1, g + 1, t, a :: x :: y :: r, h1, h2 => by
    simp only [readF]
    split
    · rfl
    · split
      · rfl
      · rw [readF_fuel f g a (r.drop (x * 256 + y)) (by simp only [List.length_drop, List.length_cons] at *; omega) (by simp only [List.length_drop, List.length_cons] at *; omega)]

/-- Fields with tags as numbers without a sign. -/
def unF (l : List Fld) : List (Nat × List Nat) := l.map fun p => (p.1.toNat, p.2)

theorem flI_unF (l : List Fld) : flI l = flatF (unF l) := by
  unfold flI flatF unF
  rw [List.flatMap_map]
  rfl

theorem nthF_succ (p : Fld) (l : List Fld) (j : Nat) : nthF (p :: l) (j + 1) = nthF l j := by simp [nthF]
theorem nthF_zero (p : Fld) (l : List Fld) : nthF (p :: l) 0 = p := by simp [nthF]

/-- Tags rise from above t, up to 255, and no bytes too long. -/
def goodF (t : Int) : List Fld → Prop
  | [] => True
  | p :: l => t < p.1 ∧ p.1 ≤ 255 ∧ p.2.length ≤ 4096 ∧ goodF p.1 l

theorem goodF_of : ∀ (l : List Fld) (t : Int), (∀ j, j < l.length → (match j with | 0 => t | i + 1 => (nthF l i).1) < (nthF l j).1 ∧ (nthF l j).1 ≤ 255 ∧ (nthF l j).2.length ≤ 4096) ↔ goodF t l
  | [], t => by simp [goodF]
  | p :: l, t => by
    have ih := goodF_of l p.1
    simp only [goodF]
    rw [← ih]
    constructor
    · intro h
      have h0 := h 0 (by simp)
      rw [nthF_zero] at h0
      refine ⟨h0.1, h0.2.1, h0.2.2, fun j hj => ?_⟩
      have h1 := h (j + 1) (by simpa using hj)
      rw [nthF_succ] at h1
      match j, h1 with
      | 0, h1 => simpa [nthF_zero] using h1
      | j + 1, h1 => simpa [nthF_succ] using h1
    · rintro ⟨h1, h2, h3, h4⟩ j hj
      match j, hj with
      | 0, _ => rw [nthF_zero]; exact ⟨h1, h2, h3⟩
      | 1, hj =>
        have := h4 0 (by simpa using hj)
        simpa [nthF_zero, nthF_succ] using this
      | j + 2, hj =>
        have := h4 (j + 1) (by simp only [List.length_cons] at hj; omega)
        simpa [nthF_zero, nthF_succ] using this

theorem good_iff (l : List Fld) : (∀ j, j < l.length → goodAt (tagF l) (lenF l) j) ↔ goodF 0 l := by
  rw [← goodF_of l 0]
  constructor
  · intro h j hj
    have := h j hj
    unfold goodAt prevT tagF lenF at this
    match j, this with
    | 0, this => exact this
    | j + 1, this => exact this
  · intro h j hj
    have := h j hj
    unfold goodAt prevT tagF lenF
    match j, this with
    | 0, this => exact this
    | j + 1, this => exact this

theorem goodF_rises : ∀ (l : List Fld) (t : Nat), goodF (t : Int) l → rises t (unF l) = true ∧ (unF l).map toF = l
  | [], t, _ => ⟨rfl, rfl⟩
  | p :: l, t, h => by
    obtain ⟨h1, h2, h3, h4⟩ := h
    have hp : ((p.1.toNat : Nat) : Int) = p.1 := by omega
    obtain ⟨i1, i2⟩ := goodF_rises l p.1.toNat (by rw [hp]; exact h4)
    have e : unF (p :: l) = (p.1.toNat, p.2) :: unF l := rfl
    rw [e]
    refine ⟨by simp only [rises, Bool.and_eq_true, decide_eq_true_eq]; exact ⟨by omega, i1⟩, ?_⟩
    rw [List.map_cons, i2]
    simp only [toF, hp]

theorem goodF_byt : ∀ (l : List Fld) (t : Nat), goodF (t : Int) l → (∀ p ∈ l, Byt p.2) → Byt (flI l)
  | [], t, _, _ => by intro x hx; simp [flI] at hx
  | p :: l, t, h, hb => by
    obtain ⟨h1, h2, h3, h4⟩ := h
    have hp : ((p.1.toNat : Nat) : Int) = p.1 := by omega
    have ih := goodF_byt l p.1.toNat (by rw [hp]; exact h4) fun q hq => hb q (by simp [hq])
    intro x hx
    have e : flI (p :: l) = fl1 p ++ flI l := by simp [flI]
    rw [e, List.mem_append] at hx
    rcases hx with hx | hx
    · simp only [fl1, List.mem_cons] at hx
      rcases hx with rfl | rfl | rfl | hx
      · omega
      · omega
      · omega
      · exact hb p (by simp) x hx
    · exact ih x hx

theorem flI_sum (l : List Fld) : (flI l).length = sumL (lenF l) l.length := by
  have := flI_len (l := l) (Nat.le_refl l.length)
  rwa [List.take_length] at this

theorem okF_iff (l : List Fld) : okF l ↔ l.length ≤ 256 ∧ goodF 0 l ∧ (flI l).length ≤ 4096 := by
  unfold okF
  rw [good_iff, flI_sum]

theorem unF_len (l : List Fld) : (unF l).length = l.length := by simp [unF]

theorem flatF_three : ∀ (l : List (Nat × List Nat)), 3 * l.length ≤ (flatF l).length
  | [] => by simp
  | p :: l => by
    have ih := flatF_three l
    have e : flatF (p :: l) = field1 p ++ flatF l := by simp [flatF]
    rw [e, List.length_append]
    simp only [field1, List.length_cons]
    omega

/-- What was put is read. -/
theorem read_put {l : List Fld} (h : okF l) : readF (flI l).length 0 (flI l) = some (unF l) ∧ (unF l).map toF = l := by
  obtain ⟨h1, h2, h3⟩ := (okF_iff l).1 h
  obtain ⟨h4, h5⟩ := goodF_rises l 0 h2
  refine ⟨?_, h5⟩
  rw [flI_unF]
  exact readF_flatF _ _ 0 (by have := flatF_three (unF l); omega) h4

/-- Cut short it is none, or fewer. -/
theorem read_cut {l : List Fld} (h : okF l) {n : Nat} (hn : n < (flI l).length) :
    readF ((flI l).take n).length 0 ((flI l).take n) = none ∨ ∃ m, readF ((flI l).take n).length 0 ((flI l).take n) = some m ∧ m.length < l.length := by
  obtain ⟨h1, h2, h3⟩ := (okF_iff l).1 h
  obtain ⟨h4, h5⟩ := goodF_rises l 0 h2
  have hf := readF_fuel ((flI l).take n).length (((flI l).take n).length + (unF l).length) 0 ((flI l).take n) (Nat.le_refl _) (by omega)
  rw [hf, flI_unF]
  rw [flI_unF] at hn
  rw [← unF_len l]
  exact readF_cut (unF l) _ 0 n (by omega) h4 hn

/-- What is read is put as those bytes. -/
theorem put_read {L : List Nat} {l : List (Nat × List Nat)} (hb : Byt L) (hl : L.length ≤ 4096) (h : readF L.length 0 L = some l) : okF (l.map toF) ∧ flI (l.map toF) = L := by
  obtain ⟨h1, h2⟩ := flatF_readF _ _ _ _ hb h
  have e : unF (l.map toF) = l := by
    unfold unF
    rw [List.map_map]
    conv => rhs; rw [← List.map_id l]
    apply List.map_congr_left
    intro p _
    simp [toF]
  have e2 : flI (l.map toF) = L := by rw [flI_unF, e, h1]
  refine ⟨?_, e2⟩
  have hgood : ∀ (l : List (Nat × List Nat)) (t : Nat), rises t l = true → (∀ x ∈ flatF l, x < 256) → (flatF l).length ≤ 4096 → goodF (t : Int) (l.map toF)
      ∧ (∀ t', t' ≤ t → t ≤ 255 → l.length + t ≤ 255) := by
    intro l
    induction l with
    | nil => intro t _ _ _; exact ⟨trivial, fun t' _ h => by simpa using h⟩
    | cons p l ih =>
      intro t hr hx hl
      simp only [rises, Bool.and_eq_true, decide_eq_true_eq] at hr
      have e : flatF (p :: l) = field1 p ++ flatF l := by simp [flatF]
      rw [e] at hx hl
      rw [List.length_append] at hl
      have hp : p.1 < 256 := hx p.1 (by simp [field1])
      have hp2 : p.2.length + 3 = (field1 p).length := rfl
      obtain ⟨i1, i2⟩ := ih p.1 hr.2 (fun x hxx => hx x (by simp [hxx])) (by omega)
      refine ⟨⟨by simp only [toF]; omega, by simp only [toF]; omega, by simp only [toF]; omega, i1⟩, fun t' h1 h2 => ?_⟩
      have := i2 t (by omega) (by omega)
      simp only [List.length_cons]
      omega
  obtain ⟨g1, g2⟩ := hgood l 0 h2 (by rw [h1]; exact hb) (by rw [h1]; exact hl)
  rw [okF_iff]
  refine ⟨?_, g1, by rw [e2]; exact hl⟩
  have := g2 0 (Nat.le_refl _) (by omega)
  rw [List.length_map]
  omega
end Go.Proofs.YtbmhmaejakjieaaDoor
