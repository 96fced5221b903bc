/- Fields in memory; the walk of wire.Put on its good way. -/
import Derived.Test.YtbmhmaejakjieaaDoorHa
namespace Go.Proofs.YtbmhmaejakjieaaDoor
open Go.RowKit

abbrev Fld := Int × List Nat

def nthF (l : List Fld) (k : Nat) : Fld := l.getD k (0, [])

/-- Fields at a place in memory. -/
def SegF (w : World) (b off : Nat) (l : List Fld) : Prop := ∀ j, j < l.length → w.cell? ⟨b, off + j * 2, none⟩ = some (.int .i64 (nthF l j).1) ∧ ∃ u, w.cell? ⟨b, off + j * 2 + 1, none⟩ = some u ∧ BV w u (nthF l j).2

/-- A slice of fields. -/
def FV (w : World) (v : Value) (l : List Fld) : Prop :=
  (v = .slice none 0 0 ∧ l = []) ∨ ∃ b off c, v = .slice (some ⟨b, off, none⟩) l.length c ∧ b < w.heap.size ∧ SegF w b off l

theorem SegF.below {w w' : World} {b off : Nat} {l : List Fld} (h : SegF w b off l) (hb : Below w.heap.size w w') (hl : b < w.heap.size) : SegF w' b off l := fun j hj => by
  obtain ⟨h1, u, h2, h3⟩ := h j hj
  refine ⟨?_, u, ?_, h3.below hb⟩
  · rw [hb.cell (p := ⟨b, off + j * 2, none⟩) hl]; exact h1
  · rw [hb.cell (p := ⟨b, off + j * 2 + 1, none⟩) hl]; exact h2

theorem FV.below {w w' : World} {v : Value} {l : List Fld} (h : FV w v l) (hb : Below w.heap.size w w') : FV w' v l := by
  rcases h with h | ⟨b, off, c, h1, h2, h3⟩
  · exact Or.inl h
  · exact Or.inr ⟨b, off, c, h1, Nat.lt_of_lt_of_le h2 hb.size, h3.below hb h2⟩

/-- The fields' bytes. -/
def fl1 (p : Fld) : List Nat := p.1.toNat :: p.2.length / 256 :: p.2.length % 256 :: p.2
def flI (l : List Fld) : List Nat := l.flatMap fl1

theorem flI_succ {l : List Fld} {k : Nat} (h : k < l.length) : flI (l.take (k + 1)) = flI (l.take k) ++ ([(nthF l k).1.toNat, (nthF l k).2.length / 256, (nthF l k).2.length % 256] ++ (nthF l k).2) := by
  unfold flI
  rw [List.take_succ_eq_append_getElem h, List.flatMap_append]
  simp [nthF, List.getD_eq_getElem?_getD, List.getElem?_eq_getElem h, fl1]

def tagF (l : List Fld) (k : Nat) : Int := (nthF l k).1
def lenF (l : List Fld) (k : Nat) : Nat := (nthF l k).2.length

theorem flI_len {l : List Fld} : ∀ {k : Nat}, k ≤ l.length → (flI (l.take k)).length = sumL (lenF l) k
  | 0, _ => by simp [flI, sumL]
  | k + 1, h => by
    rw [flI_succ (by omega), List.length_append, flI_len (by omega)]
    simp [sumL, lenF]
    omega

/-- May these fields be put? -/
def okF (l : List Fld) : Prop := l.length ≤ 256 ∧ (∀ j, j < l.length → goodAt (tagF l) (lenF l) j) ∧ sumL (lenF l) l.length ≤ 4096

theorem goodAt_pos {T : Nat → Int} {M : Nat → Nat} {n : Nat} (h : ∀ j, j < n → goodAt T M j) : ∀ j, j < n → 0 < T j
  | 0, hj => (h 0 hj).1
  | j + 1, hj => by
    have h1 := goodAt_pos h j (by omega)
    have h2 := (h (j + 1) hj).1
    simp only [prevT] at h2
    omega

theorem sumL_mono {M : Nat → Nat} {k n : Nat} (h : k ≤ n) : sumL M k ≤ sumL M n := by
  induction n with
  | zero => have : k = 0 := by omega
            subst this; exact Nat.le_refl _
  | succ n ih =>
    by_cases e : k = n + 1
    · subst e; exact Nat.le_refl _
    · have := ih (by omega)
      simp only [sumL]; omega

theorem check_none (w : World) : Calls Tryd.prog 32 #[.slice none 0 0] w fun e w' => e = .returned .nilIface ∧ Below w.heap.size w w' := by
  go_enter Tryd.func32, Tryd.ntmps32
  go_wp2
  go_loopw [3, 4, 5, 6, 7, 16] (fun _ _ long _ _ i wr => i = .int .i64 0 ∧ long = .nilIface ∧ Below w.heap.size w wr) (fun _ _ _ _ _ _ _ => 0)
  case atStart => exact ⟨rfl, rfl, Below.refl _ _⟩
  case round =>
    obtain ⟨rfl, rfl, hb⟩ := hrel
    go_wp2
    exact bodyPost_ret (results_tmp rfl _ _ _) rfl ⟨rfl, hb⟩

theorem put_none (w : World) :
    Calls Tryd.prog 12 #[.slice none 0 0] w fun e w' => ∃ v', e = .returned (.tuple #[v', .int .i64 0]) ∧ Below w.heap.size w w' ∧ OwnB w' w.heap.size v' [] := by
  go_enter Tryd.func12, Tryd.ntmps12
  go_wp2_with (go_at_call 32; refine (check_none _).mono ?_; rintro e w1 ⟨rfl, hb1⟩)
  go_loopw [5, 17] (fun out i wr => i = .int .i64 0 ∧ out = .slice none 0 0 ∧ Below w.heap.size w wr) (fun _ _ _ => 0)
  case atStart => exact ⟨rfl, rfl, hb1⟩
  case round =>
    obtain ⟨rfl, rfl, hb⟩ := hrel
    go_wp2
    exact bodyPost_ret (results_tmp2 rfl _ _ _) rfl ⟨_, rfl, hb, OwnB.nil _ _⟩

set_option maxHeartbeats 2000000 in
set_option maxRecDepth 100000 in
theorem put_good (l : List Fld) (hok : okF l) (w : World) (v : Value) (hv : FV w v l) :
    Calls Tryd.prog 12 #[v] w fun e w' => ∃ v', e = .returned (.tuple #[v', .int .i64 0]) ∧ Below w.heap.size w w' ∧ OwnB w' w.heap.size v' (flI l) := by
  rcases hv with ⟨rfl, rfl⟩ | ⟨b, off, c, rfl, hb, hs⟩
  · exact put_none w
  · have hck := check_any b off l.length c w (tagF l) (fun j => (w.cell? ⟨b, off + j * 2 + 1, none⟩).getD .nilIface) (lenF l) (fun j hj => (hs j hj).1) (fun j hj => by
      obtain ⟨_, u, h2, h3⟩ := hs j hj
      rcases h3 with ⟨rfl, h4⟩ | ⟨b2, o2, c2, rfl, h5⟩
      · exact ⟨none, 0, by simp [h2, lenF, h4], by simp [h2]⟩
      · exact ⟨some ⟨b2, o2, none⟩, c2, by simp [h2, lenF], by simp [h2]⟩) hb
    have hck2 : Calls Tryd.prog 32 #[.slice (some ⟨b, off, none⟩) l.length c] w fun e w' => e = .returned .nilIface ∧ Below w.heap.size w w' := by
      refine hck.mono ?_
      rintro e w' ⟨v, rfl, h1, h2⟩
      refine ⟨?_, h1⟩
      rcases h2 with ⟨rfl, _⟩ | ⟨_, h3 | ⟨_, _, h3⟩⟩ | ⟨_, _, j, hj, h3⟩
      · rfl
      · have := hok.1; omega
      · have := hok.2.2; omega
      · exact absurd (hok.2.1 j hj) h3
    clear hck
    have HS := Lib.hid hs; have HC := Lib.hid hck2; have HO := Lib.hid hok
    clear hs hck2 hok
    go_enter Tryd.func12, Tryd.ntmps12
    go_wp2_with (go_at_call 32; refine HC.out.mono ?_; rintro e w1 ⟨rfl, hb1⟩; have HS1 := Lib.hid (HS.out.below hb1 hb); have HB1 := Lib.hid hb1; clear hb1)
    go_loopw [5, 17] (fun out i wr => ∃ (k : Nat), k ≤ l.length ∧ i = .int .i64 k ∧ Below w.heap.size w wr ∧ OwnB wr w.heap.size out (flI (l.take k))) (fun _ i _ => l.length - (intOf i).toNat)
    case atStart => exact ⟨0, by omega, rfl, HB1.out, by simpa [flI] using OwnB.nil _ _⟩
    case round =>
      obtain ⟨k, hk, rfl, hbel, hown⟩ := hrel
      have Hb := Lib.hid hbel; have HW := Lib.hid hown
      clear hbel hown
      by_cases hlt : k < l.length
      · have hd : decide ((k : Int) < (l.length : Int)) = true := by simp; omega
        have hkn : (k : Int) < (l.length : Int) := by omega
        have hkk : (k : Int) < 256 := by have := HO.out.1; omega
        obtain ⟨h1, u, h2, h3⟩ := HS.out k hlt
        have h1 : wr.cell? ⟨b, off + k * 2, none⟩ = some (.int .i64 (nthF l k).1) := by rw [Hb.out.cell (p := ⟨b, off + k * 2, none⟩) hb]; exact h1
        have h2 : wr.cell? ⟨b, off + k * 2 + 1, none⟩ = some u := by rw [Hb.out.cell (p := ⟨b, off + k * 2 + 1, none⟩) hb]; exact h2
        have hg := HO.out.2.1 k hlt
        have hp := goodAt_pos HO.out.2.1 k hlt
        obtain ⟨t, ht⟩ : ∃ t : Nat, (nthF l k).1 = (t : Int) := ⟨(nthF l k).1.toNat, by unfold tagF at hp; omega⟩
        have ht2 : t < 256 := by have := hg.2.1; unfold tagF at this; omega
        have hm : (nthF l k).2.length ≤ 4096 := hg.2.2
        have HE := Lib.hid (flI_succ hlt)
        have HL : Hid ((flI (l.take k)).length ≤ 1000000) := Lib.hid (by
          rw [flI_len (by omega)]
          have h5 := sumL_mono (M := lenF l) (show k ≤ l.length by omega)
          have h6 := HO.out.2.2
          omega)
        have HT : Hid ((nthF l k).1.toNat = t) := Lib.hid (by omega)
        rw [ht] at h1
        obtain ⟨a, cc, rfl⟩ : ∃ a cc, u = .slice a (nthF l k).2.length cc := by
          rcases h3 with ⟨rfl, h4⟩ | ⟨b2, o2, c2, rfl, h5⟩
          · exact ⟨none, 0, by rw [h4]; rfl⟩
          · exact ⟨_, _, rfl⟩
        have HU := Lib.hid h3
        clear hg hp h3
        generalize hM : (nthF l k).2 = M at *
        generalize hmm : M.length = m at *
        have hw1 : IntKind.u8.wrap ((t : Nat) : Int) = ((t : Nat) : Int) := by rw [IntKind.wrap_u8]; omega
        go_wp2_with (first
          | (refine appB rfl _ _ rfl w.heap.size u5 _ (flI (l.take k)) [t, m / 256, m % 256] rfl rfl ((HW.out.alloc _).alloc _) (Or.inr ⟨_, 0, 3, rfl, seg_newB (wr.alloc (.cells #[.int .i64 (t : Int), .slice a m cc] 54)) [t, m / 256, m % 256] 5 (by simp)⟩) ?_ ?_ ?_
             · have := HL.out; simp only [List.length_cons, List.length_nil]; omega
             · have := Hb.out.size; simp; omega
             intro v2 w2 ho2 hg2
             have hb2 : Below w.heap.size w w2 := Below.grown (((Hb.out.alloc Hb.out.size _).alloc (by have := Hb.out.size; simp; omega) _)) hg2 (by have := Hb.out.size; simp; omega) (fun k hk => (HW.out.lt k hk).1)
             have hH2 : Has w2 wr.heap.size 54 #[.int .i64 (t : Int), .slice a m cc] := ((Has.newAt _ 54 rfl).alloc _).grown hg2 (fun e => by have := (HW.out.lt _ e.symm).2; omega)
             have hc2 : w2.cell? ⟨wr.heap.size, 1, none⟩ = some (.slice a m cc) := by unfold Has at hH2; simp [World.cell?, hH2]
             have HW2 := Lib.hid ho2; have HB2 := Lib.hid hb2
             clear ho2 hg2 hb2 hH2)
          | (refine appB rfl _ _ rfl w.heap.size v2 _ (flI (l.take k) ++ [t, m / 256, m % 256]) M rfl rfl HW2.out (HU.out.below HB2.out) ?_ ?_ ?_
             · have := HL.out; simp only [List.length_append, List.length_cons, List.length_nil]; omega
             · exact HB2.out.size
             intro v3 w3 ho3 hg3
             have HB3 := Lib.hid (Below.grown HB2.out hg3 HB2.out.size (fun k hk => (HW2.out.lt k hk).1))
             have HW3 := Lib.hid ho3
             clear ho3 hg3))
        refine ⟨⟨k + 1, by omega, by go_num, HB3.out, ?_⟩, by simp [intOf]; omega⟩
        have e := HE.out
        rw [HT.out, ← List.append_assoc] at e
        rw [e]
        exact HW3.out
      · obtain rfl : k = l.length := by omega
        have hd : decide ((l.length : Int) < (l.length : Int)) = false := by simp
        go_wp2
        exact bodyPost_ret (results_tmp2 rfl _ _ _) rfl ⟨_, rfl, Hb.out, by have := HW.out; rwa [List.take_of_length_le (Nat.le_refl _)] at this⟩
end Go.Proofs.YtbmhmaejakjieaaDoor
