/- The walk of wire.check, whatever the fields are. -/
import Derived.Test.YtbmhmaejakjieaaDoorRa
namespace Go.Proofs.YtbmhmaejakjieaaDoor
open Go.RowKit

def prevT (T : Nat → Int) : Nat → Int
  | 0 => 0
  | j + 1 => T j

def sumL (M : Nat → Nat) : Nat → Nat
  | 0 => 0
  | k + 1 => sumL M k + (3 + M k)

def goodAt (T : Nat → Int) (M : Nat → Nat) (j : Nat) : Prop := prevT T j < T j ∧ T j ≤ 255 ∧ M j ≤ 4096

theorem sumL_le {T : Nat → Int} {M : Nat → Nat} : ∀ k, (∀ j, j < k → goodAt T M j) → sumL M k ≤ k * 4099
  | 0, _ => by simp [sumL]
  | k + 1, h => by
    have h1 := sumL_le k fun j hj => h j (by omega)
    have h2 := (h k (by omega)).2.2
    simp only [sumL]
    omega

/-- An error of the package wire's own: a fault with this number. -/
def FaultV (w : World) (N : Nat) (v : Value) (e : Int) : Prop := ∃ (g : Nat) (at_ : Int), v = .iface 63 (.pointer (some ⟨g, 0, none⟩)) ∧ N ≤ g ∧ Has w g 65 #[.int .i64 at_, .int .i64 e]

set_option maxHeartbeats 1000000 in
theorem check_any (b off n c : Nat) (w : World) (T : Nat → Int) (V : Nat → Value) (M : Nat → Nat)
    (h1 : ∀ j, j < n → w.cell? ⟨b, off + j * 2, none⟩ = some (.int .i64 (T j))) (h2 : ∀ j, j < n → ∃ a cc, V j = .slice a (M j) cc ∧ w.cell? ⟨b, off + j * 2 + 1, none⟩ = some (V j)) (hb : b < w.heap.size) :
    Calls Tryd.prog 32 #[.slice (some ⟨b, off, none⟩) n c] w fun e w' => ∃ v, e = .returned v ∧ Below w.heap.size w w' ∧
      ((v = .nilIface ∧ n ≤ 256 ∧ (∀ j, j < n → goodAt T M j) ∧ sumL M n ≤ 4096) ∨
       (FaultV w' w.heap.size v 3 ∧ (256 < n ∨ (n ≤ 256 ∧ (∀ j, j < n → goodAt T M j) ∧ 4096 < sumL M n))) ∨
       (FaultV w' w.heap.size v 80 ∧ n ≤ 256 ∧ ∃ j, j < n ∧ ¬ goodAt T M j)) := by
  have H1 := Lib.hid h1; have H2 := Lib.hid h2
  clear h1 h2
  by_cases hn : n ≤ 256
  · have hn1 : decide ((256 : Int) < (n : Int)) = false := by simp; omega
    have HN := Lib.hid hn
    clear hn
    go_enter Tryd.func32, Tryd.ntmps32
    go_wp2
    go_loopw [3, 4, 5, 6, 7, 16] (fun last size long _ _ i wr => ∃ (k : Nat), k ≤ n ∧ i = .int .i64 k ∧ last = .int .i64 (prevT T k) ∧ size = .int .i64 ((sumL M k : Nat) : Int) ∧ (∀ j, j < k → goodAt T M j) ∧
      ((long = .nilIface ∧ sumL M k ≤ 4096) ∨ (FaultV wr w.heap.size long 3 ∧ 4096 < sumL M k)) ∧ Below w.heap.size w wr) (fun _ _ _ _ _ i _ => n - (intOf i).toNat)
    case atStart => exact ⟨0, by omega, rfl, rfl, rfl, fun j hj => by omega, Or.inl ⟨rfl, by simp [sumL]⟩, Below.refl _ _⟩
    case round =>
      obtain ⟨k, hk, rfl, rfl, rfl, hgd, hlg, hbel⟩ := hrel
      have Hb := Lib.hid hbel; have HG := Lib.hid hgd; have HL := Lib.hid hlg
      have HS := Lib.hid (sumL_le k hgd)
      clear hbel hgd hlg
      by_cases hlt : k < n
      · have hd : decide ((k : Int) < (n : Int)) = true := by simp; omega
        have hkn : (k : Int) < (n : Int) := by omega
        have hk256 : (k : Int) < 256 := by have := HN.out; omega
        obtain ⟨a, cc, hv, h2⟩ := H2.out k hlt
        rw [hv] at h2
        have c1 : wr.cell? ⟨b, off + k * 2, none⟩ = some (.int .i64 (T k)) := by rw [Hb.out.cell (p := ⟨b, off + k * 2, none⟩) hb]; exact H1.out k hlt
        have c2 : wr.cell? ⟨b, off + k * 2 + 1, none⟩ = some (.slice a (M k) cc) := by rw [Hb.out.cell (p := ⟨b, off + k * 2 + 1, none⟩) hb]; exact h2
        clear hv h2
        have HGk := Lib.hid (Iff.refl (goodAt T M k))
        by_cases hg : goodAt T M k
        · have g1 : decide (T k ≤ prevT T k) = false := by have := hg.1; simp; omega
          have g2 : decide ((255 : Int) < T k) = false := by have := hg.2.1; simp; omega
          have g3 : decide ((4096 : Int) < (M k : Int)) = false := by have := hg.2.2; simp; omega
          have hw1 : wrap64 (3 + ((M k : Nat) : Int)) = 3 + ((M k : Nat) : Int) := by have := hg.2.2; unfold wrap64; omega
          have hw2 : wrap64 (((sumL M k : Nat) : Int) + (3 + ((M k : Nat) : Int))) = ((sumL M (k + 1) : Nat) : Int) := by have := hg.2.2; have := HS.out; have := HN.out; simp only [sumL]; unfold wrap64; omega
          have hv1 : IntKind.i64.wrap (3 + ((M k : Nat) : Int)) = 3 + ((M k : Nat) : Int) := by rw [IntWalk.i64_left]; exact hw1
          have hv2 : IntKind.i64.wrap (((sumL M k : Nat) : Int) + (3 + ((M k : Nat) : Int))) = ((sumL M (k + 1) : Nat) : Int) := by rw [IntWalk.i64_left]; exact hw2
          have hsum : sumL M (k + 1) = sumL M k + (3 + M k) := rfl
          have HG2 : Hid (∀ j, j < k + 1 → goodAt T M j) := Lib.hid fun j hj => by
            by_cases e : j = k
            · subst e; exact hg
            · exact HG.out j (by omega)
          have HSum := Lib.hid hsum
          clear hg hsum
          rcases HL.out with ⟨rfl, hs⟩ | ⟨hf, hs⟩
          · by_cases h4 : sumL M (k + 1) ≤ 4096
            · have g4 : decide ((4096 : Int) < ((sumL M (k + 1) : Nat) : Int)) = false := by simp only [decide_eq_false_iff_not]; omega
              have H4 := Lib.hid h4
              clear h4 hs
              go_wp2
              exact ⟨⟨k + 1, by omega, by go_num, rfl, rfl, HG2.out, Or.inl ⟨rfl, H4.out⟩, Hb.out.alloc Hb.out.size _⟩, by simp [intOf]; omega⟩
            · have g4 : decide ((4096 : Int) < ((sumL M (k + 1) : Nat) : Int)) = true := by simp only [decide_eq_true_eq]; omega
              have H4 := Lib.hid h4
              clear h4 hs
              go_wp2
              exact ⟨⟨k + 1, by omega, by go_num, rfl, rfl, HG2.out, Or.inr ⟨⟨_, _, rfl, by have := Hb.out.size; omega, Has.newAt _ 65 (by simp)⟩, Nat.lt_of_not_le H4.out⟩, (Hb.out.alloc Hb.out.size _).alloc (by have := Hb.out.size; simp; omega) _⟩, by simp [intOf]; omega⟩
          · obtain ⟨g, at_, rfl, hg1, hH⟩ := hf
            have g4 : decide ((4096 : Int) < ((sumL M (k + 1) : Nat) : Int)) = true := by have := HSum.out; simp only [decide_eq_true_eq]; omega
            have H4 : Hid (4096 < sumL M (k + 1)) := Lib.hid (by have := HSum.out; omega)
            have HH := Lib.hid hH
            have Hg1 := Lib.hid hg1
            clear hs hH hg1
            go_wp2
            exact ⟨⟨k + 1, by omega, by go_num, rfl, rfl, HG2.out, Or.inr ⟨⟨g, at_, rfl, Hg1.out, HH.out.alloc _⟩, H4.out⟩, Hb.out.alloc Hb.out.size _⟩, by simp [intOf]; omega⟩
        · have HNg := Lib.hid hg
          by_cases b1 : T k ≤ prevT T k
          · have g1 : decide (T k ≤ prevT T k) = true := by simp [b1]
            clear b1 hg
            go_wp2
            exact bodyPost_ret (results_tmp rfl _ _ _) rfl ⟨_, rfl, (Hb.out.alloc Hb.out.size _).alloc (by have := Hb.out.size; simp; omega) _, Or.inr (Or.inr ⟨⟨_, _, rfl, by have := Hb.out.size; omega, Has.newAt _ 65 (by simp)⟩, HN.out, k, hlt, HNg.out⟩)⟩
          · have g1 : decide (T k ≤ prevT T k) = false := by simp only [decide_eq_false_iff_not]; exact b1
            by_cases b2 : (255 : Int) < T k
            · have g2 : decide ((255 : Int) < T k) = true := by simp [b2]
              clear b1 b2 hg
              go_wp2
              exact bodyPost_ret (results_tmp rfl _ _ _) rfl ⟨_, rfl, (Hb.out.alloc Hb.out.size _).alloc (by have := Hb.out.size; simp; omega) _, Or.inr (Or.inr ⟨⟨_, _, rfl, by have := Hb.out.size; omega, Has.newAt _ 65 (by simp)⟩, HN.out, k, hlt, HNg.out⟩)⟩
            · have g2 : decide ((255 : Int) < T k) = false := by simp only [decide_eq_false_iff_not]; exact b2
              have g3 : decide ((4096 : Int) < ((M k : Nat) : Int)) = true := by
                simp only [decide_eq_true_eq]
                have h5 : ¬ M k ≤ 4096 := fun h => hg ⟨by omega, by omega, h⟩
                omega
              clear b1 b2 hg
              go_wp2
              exact bodyPost_ret (results_tmp rfl _ _ _) rfl ⟨_, rfl, (Hb.out.alloc Hb.out.size _).alloc (by have := Hb.out.size; simp; omega) _, Or.inr (Or.inr ⟨⟨_, _, rfl, by have := Hb.out.size; omega, Has.newAt _ 65 (by simp)⟩, HN.out, k, hlt, HNg.out⟩)⟩
      · obtain rfl : k = n := by omega
        have hd : decide ((k : Int) < (k : Int)) = false := by simp
        go_wp2
        refine bodyPost_ret (results_tmp rfl _ _ _) rfl ⟨_, rfl, Hb.out, ?_⟩
        rcases HL.out with ⟨rfl, hs⟩ | ⟨hf, hs⟩
        · exact Or.inl ⟨rfl, HN.out, HG.out, hs⟩
        · exact Or.inr (Or.inl ⟨hf, Or.inr ⟨HN.out, HG.out, hs⟩⟩)
  · have hn1 : decide ((256 : Int) < (n : Int)) = true := by simp; omega
    have Hn := Lib.hid hn
    clear hn
    go_enter Tryd.func32, Tryd.ntmps32
    go_wp2
    exact bodyPost_ret (results_tmp rfl _ _ _) rfl ⟨_, rfl, (Below.refl _ _).alloc (Nat.le_refl _) _, Or.inr (Or.inl ⟨⟨_, _, rfl, Nat.le_refl _, Has.new _ _ _⟩, Or.inl (Nat.lt_of_not_le Hn.out)⟩)⟩
end Go.Proofs.YtbmhmaejakjieaaDoor
