/- WireReads, whatever comes in. -/
import Derived.Test.YtbmhmaejakjieaaDoorRg
namespace Go.Proofs.YtbmhmaejakjieaaDoor
open Go.RowKit

theorem readL_mem : ∀ (f : Nat) (L : List Nat) (l : List (List Nat)), readL f L = some l → ∀ x ∈ l, ∀ z ∈ x, z ∈ L
  | f, [], l, h => by cases f <;> (simp only [readL, Option.some.injEq] at h; subst h; intro x hx; cases hx)
  | 0, _ :: _, l, h => by simp [readL] at h
  | f + 1, [_], l, h => by simp [readL] at h
  | f + 1, a :: b :: r, l, h => by
    simp only [readL] at h
    split at h
    · simp at h
    · cases hr : readL f (r.drop (a * 256 + b)) with
      | none => rw [hr] at h; simp at h
      | some m =>
        rw [hr] at h
        simp only [Option.map_some, Option.some.injEq] at h
        subst h
        intro x hx z hz
        rcases List.mem_cons.1 hx with rfl | hx
        · have := List.mem_of_mem_take hz
          simp [this]
        · have := readL_mem f _ m hr x hx z hz
          have := List.mem_of_mem_drop this
          simp [this]

theorem flI_mem {l : List Fld} {p : Fld} (hp : p ∈ l) : ∀ z ∈ p.2, z ∈ flI l := by
  intro z hz
  unfold flI
  exact List.mem_flatMap.2 ⟨p, hp, by simp [fl1, hz]⟩

theorem reads_F (B : List Nat) (hb : Byt B) : ∃ (n1 : Int) (Y1 : List Fld), (∀ p ∈ Y1, Byt p.2) ∧ Y1.length ≤ 100000 ∧
    (∀ (w' : World) (u : Value), Hnd w' → In w' u B → Calls Tryd.prog 13 #[u] w' fun e w'' => ∃ v', e = .returned (.tuple #[v', .int .i64 n1]) ∧ Below w'.heap.size w' w'' ∧ OwnF w'' w'.heap.size v' Y1) ∧
    (∀ (w' : World) (u : Value), In w' u B → Calls Tryd.prog 28 #[u] w' fun e w'' => ∃ v', e = .returned (.tuple #[v', .int .i64 n1]) ∧ Below w'.heap.size w' w'' ∧ OwnF w'' w'.heap.size v' Y1) := by
  by_cases hl : 4096 < B.length
  · refine ⟨3, [], (fun p hp => by cases hp), by simp, fun w' u _ hu => ?_, fun w' u hu => ?_⟩
    · obtain ⟨a, c, rfl, _⟩ := hu
      refine (read_long a B.length c hl w').mono ?_
      rintro e w'' ⟨rfl, rfl⟩
      exact ⟨_, rfl, Below.refl _ _, OwnF.nil _ _⟩
    · obtain ⟨a, c, rfl, _⟩ := hu
      refine (rread_long a B.length c hl w').mono ?_
      rintro e w'' ⟨rfl, rfl⟩
      exact ⟨_, rfl, Below.refl _ _, OwnF.nil _ _⟩
  · cases hr : readF B.length 0 B with
    | none =>
      refine ⟨80, [], (fun p hp => by cases hp), by simp, fun w' u hw hu => ?_, fun w' u hu => ?_⟩
      · refine (read_none B hb (by omega) hr w' hw u hu.rd).mono ?_
        rintro e w'' ⟨rfl, h⟩
        exact ⟨_, rfl, h, OwnF.nil _ _⟩
      · refine (rread_any B hb (by omega) w' u hu).mono ?_
        rintro e w'' ⟨v', n, rfl, h, h2⟩
        rcases h2 with ⟨l, h2, _⟩ | ⟨_, rfl, rfl⟩
        · rw [hr] at h2; simp at h2
        · exact ⟨_, rfl, h, OwnF.nil _ _⟩
    | some y =>
      obtain ⟨k1, k2⟩ := put_read hb (by omega) hr
      refine ⟨0, y.map toF, fun p hp z hz => hb z (by rw [← k2]; exact flI_mem hp z hz), by have := k1.1; omega, fun w' u hw hu => ?_, fun w' u hu => ?_⟩
      · refine (read_some B hb (by omega) y hr w' u hu.rd).mono ?_
        rintro e w'' ⟨a, c, rfl, h, h2⟩
        exact ⟨_, rfl, h, h2⟩
      · refine (rread_any B hb (by omega) w' u hu).mono ?_
        rintro e w'' ⟨v', n, rfl, h, h2⟩
        rcases h2 with ⟨l, h2, rfl, h3⟩ | ⟨h2, _⟩
        · rw [hr] at h2
          simp only [Option.some.injEq] at h2
          subst h2
          exact ⟨_, rfl, h, h3⟩
        · rw [hr] at h2; simp at h2

theorem reads_I (B : List Nat) (hb : Byt B) : ∃ (p n2 : Int),
    (∀ (w' : World) (u : Value), In w' u B → Calls Tryd.prog 20 #[u] w' fun e w'' => e = .returned (.tuple #[.int .i64 p, .int .i64 n2]) ∧ w' = w'') ∧
    (∀ (w' : World) (u : Value), In w' u B → Calls Tryd.prog 29 #[u] w' fun e w'' => e = .returned (.tuple #[.int .i64 p, .int .i64 n2]) ∧ w' = w'') := by
  by_cases hl : B.length = 8
  · refine ⟨sI (read8 B), 0, fun w' u hu => ?_, fun w' u hu => ?_⟩
    · obtain ⟨a, c, rfl, _, h3⟩ := hu
      rcases h3 with rfl | ⟨b, off, rfl, h4⟩
      · simp at hl
      · rw [hl]; exact readInt_any B hl hb b off c w' h4
    · obtain ⟨a, c, rfl, _, h3⟩ := hu
      rcases h3 with rfl | ⟨b, off, rfl, h4⟩
      · simp at hl
      · rw [hl]; exact rreadInt_any B hl hb b off c w' h4
  · refine ⟨0, 80, fun w' u hu => ?_, fun w' u hu => ?_⟩
    · obtain ⟨a, c, rfl, _⟩ := hu
      exact readInt_bad a B.length c hl w'
    · obtain ⟨a, c, rfl, _⟩ := hu
      exact rreadInt_bad a B.length c hl w'

theorem reads_L (B : List Nat) (hb : Byt B) : ∃ (n3 : Int) (Y3 : List (List Nat)), (∀ x ∈ Y3, Byt x) ∧ Y3.length ≤ 100000 ∧
    (∀ (w' : World) (u : Value), Hnd w' → In w' u B → Calls Tryd.prog 25 #[u] w' fun e w'' => ∃ v', e = .returned (.tuple #[v', .int .i64 n3]) ∧ Below w'.heap.size w' w'' ∧ OwnL w'' w'.heap.size v' Y3) ∧
    (∀ (w' : World) (u : Value), In w' u B → Calls Tryd.prog 30 #[u] w' fun e w'' => ∃ v', e = .returned (.tuple #[v', .int .i64 n3]) ∧ Below w'.heap.size w' w'' ∧ OwnL w'' w'.heap.size v' Y3) := by
  by_cases hl : 4096 < B.length
  · refine ⟨3, [], (fun p hp => by cases hp), by simp, fun w' u _ hu => ?_, fun w' u hu => ?_⟩
    · obtain ⟨a, c, rfl, _⟩ := hu
      refine (readList_long a B.length c hl w').mono ?_
      rintro e w'' ⟨rfl, rfl⟩
      exact ⟨_, rfl, Below.refl _ _, OwnL.nil _ _⟩
    · obtain ⟨a, c, rfl, _⟩ := hu
      refine (rreadList_long a B.length c hl w').mono ?_
      rintro e w'' ⟨rfl, rfl⟩
      exact ⟨_, rfl, Below.refl _ _, OwnL.nil _ _⟩
  · have h25 := fun (w' : World) (u : Value) (hw : Hnd w') (hu : In w' u B) => readList_any B hb (by omega) w' u hu.rd (fun _ w2 x hb2 hf => number_any _ x 80 w2 (hw.below hb2 hw.lt) hf)
    have h30 := fun (w' : World) (u : Value) (hu : In w' u B) => rreadList_any B hb (by omega) w' u hu
    cases hr : readL B.length B with
    | none =>
      rw [hr] at h25 h30
      refine ⟨80, [], (fun p hp => by cases hp), by simp, fun w' u hw hu => ?_, fun w' u hu => ?_⟩
      · refine (h25 w' u hw hu).mono ?_
        rintro e w'' ⟨v', n, rfl, h, h2⟩
        rcases h2 with ⟨l, h2, _⟩ | ⟨l, h2, _⟩ | ⟨_, rfl, rfl⟩
        · simp at h2
        · simp at h2
        · exact ⟨_, rfl, h, OwnL.nil _ _⟩
      · refine (h30 w' u hu).mono ?_
        rintro e w'' ⟨v', n, rfl, h, h2⟩
        rcases h2 with ⟨l, h2, _⟩ | ⟨l, h2, _⟩ | ⟨_, rfl, rfl⟩
        · simp at h2
        · simp at h2
        · exact ⟨_, rfl, h, OwnL.nil _ _⟩
    | some y =>
      rw [hr] at h25 h30
      by_cases hy : y.length ≤ 256
      · refine ⟨0, y, fun x hx z hz => hb z (readL_mem _ _ _ hr x hx z hz), by omega, fun w' u hw hu => ?_, fun w' u hu => ?_⟩
        · refine (h25 w' u hw hu).mono ?_
          rintro e w'' ⟨v', n, rfl, h, h2⟩
          rcases h2 with ⟨l, h2, _, rfl, h3⟩ | ⟨l, h2, h3, _⟩ | ⟨h2, _⟩
          · simp only [Option.some.injEq] at h2
            subst h2
            exact ⟨_, rfl, h, h3⟩
          · simp only [Option.some.injEq] at h2
            subst h2
            omega
          · simp at h2
        · refine (h30 w' u hu).mono ?_
          rintro e w'' ⟨v', n, rfl, h, h2⟩
          rcases h2 with ⟨l, h2, _, rfl, h3⟩ | ⟨l, h2, h3, _⟩ | ⟨h2, _⟩
          · simp only [Option.some.injEq] at h2
            subst h2
            exact ⟨_, rfl, h, h3⟩
          · simp only [Option.some.injEq] at h2
            subst h2
            omega
          · simp at h2
      · refine ⟨3, [], (fun p hp => by cases hp), by simp, fun w' u hw hu => ?_, fun w' u hu => ?_⟩
        · refine (h25 w' u hw hu).mono ?_
          rintro e w'' ⟨v', n, rfl, h, h2⟩
          rcases h2 with ⟨l, h2, h3, _⟩ | ⟨l, h2, h3, rfl, rfl⟩ | ⟨h2, _⟩
          · simp only [Option.some.injEq] at h2
            subst h2
            omega
          · exact ⟨_, rfl, h, OwnL.nil _ _⟩
          · simp at h2
        · refine (h30 w' u hu).mono ?_
          rintro e w'' ⟨v', n, rfl, h, h2⟩
          rcases h2 with ⟨l, h2, h3, _⟩ | ⟨l, h2, h3, rfl, rfl⟩ | ⟨h2, _⟩
          · simp only [Option.some.injEq] at h2
            subst h2
            omega
          · exact ⟨_, rfl, h, OwnL.nil _ _⟩
          · simp at h2

theorem reads_core (L : List Nat) (hL : Byt L) (v : Value) (n : Int) (w : World) (hh : Hnd w) (hi : In w v L) :
    Calls Tryd.prog 8 #[v, .int .i64 n] w fun e w' => e = .returned (.bool true) ∧ Below w.heap.size w w' := by
  have hBb : Byt (L.take 4097) := fun x hx => hL x (List.mem_of_mem_take hx)
  have hBl : (L.take 4097).length ≤ 100000 := by rw [List.length_take]; omega
  obtain ⟨n1, Y1, f1, f2, f3, f4⟩ := reads_F (L.take 4097) hBb
  obtain ⟨p, n2, i1, i2⟩ := reads_I (L.take 4097) hBb
  obtain ⟨n3, Y3, l1, l2, l3, l4⟩ := reads_L (L.take 4097) hBb
  have HSh : Hid (∀ (w' : World) (u : Value), In w' u L → Calls Tryd.prog 11 #[u] w' fun e w'' => ∃ a c, e = .returned (.slice a (L.take 4097).length c) ∧ w' = w'' ∧ In w' (.slice a (L.take 4097).length c) (L.take 4097)) := Lib.hid fun w' u h => by
    refine (short_any u L w' h).mono ?_
    rintro e w'' ⟨v', rfl, rfl, h⟩
    obtain ⟨a, c, rfl, h1⟩ := h
    exact ⟨a, c, rfl, rfl, ⟨a, c, rfl, h1⟩⟩
  exact reads_walk L (L.take 4097) (L.take 4097).length n n1 n2 n3 p Y1 Y3 v w (Lib.hid hh) (Lib.hid hi) (Lib.hid hBb) (Lib.hid rfl) (Lib.hid hBl) HSh (Lib.hid f3) (Lib.hid f4) (Lib.hid i1) (Lib.hid i2) (Lib.hid l3) (Lib.hid l4)
    (Lib.hid fun u1 u2 w' h1 h2 => sameFields_any Y1 u1 u2 w' h1 h2 f1 f2) (Lib.hid fun u1 u2 w' h1 h2 => sameLists_any Y3 u1 u2 w' h1 h2 l1 l2)
end Go.Proofs.YtbmhmaejakjieaaDoor
