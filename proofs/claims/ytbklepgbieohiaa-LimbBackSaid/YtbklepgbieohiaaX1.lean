/- The walk of the reference's Text. -/
import Derived.Test.YtbklepgbieohiaaU
namespace Go.Proofs.Ytbklepgbieohiaa
open Go.RowKit

/-- m digits to the base 16, the highest first. -/
def textN (x m : Nat) : List Nat := (List.range m).map fun j => hexd (x / 16 ^ (m - 1 - j) % 16)

theorem nib_digs {x q : Nat} (h : q < 64) : nib (nth (digs 4 x) (q / 16)) (q % 16) = x / 16 ^ q % 16 := by
  rw [nth_digs x (by omega)]
  unfold nib
  have e1 : B ^ (q / 16) = 16 ^ (16 * (q / 16)) := by rw [Nat.pow_mul]; rfl
  have e2 : B = 16 ^ 16 := rfl
  have e3 : 2 ^ (4 * (q % 16)) = 16 ^ (q % 16) := by rw [Nat.pow_mul]
  have e4 : 16 ^ q = 16 ^ (16 * (q / 16)) * 16 ^ (q % 16) := by rw [← Nat.pow_add, Nat.div_add_mod]
  rw [e1, e3, e4, ← Nat.div_div_eq_div_mul]
  generalize x / 16 ^ (16 * (q / 16)) = y
  have hr : q % 16 < 16 := Nat.mod_lt _ (by decide)
  generalize q % 16 = r at *
  have e5 : B = 16 ^ r * 16 ^ (16 - r) := by rw [← Nat.pow_add, show r + (16 - r) = 16 by omega]; rfl
  rw [e5, Nat.mod_mul_right_div_self]
  have e6 : 16 ^ (16 - r) = 16 * 16 ^ (15 - r) := by rw [show 16 - r = 15 - r + 1 by omega, Nat.pow_succ, Nat.mul_comm]
  rw [e6, Nat.mod_mul_right_mod]

theorem textOf_digs {x m : Nat} (hm : m ≤ 64) : textOf (digs 4 x) m = textN x m := by
  unfold textOf textN
  apply List.map_congr_left
  intro j hj
  have hj : j < m := by simpa using hj
  rw [nib_digs (by omega)]

theorem text_any (x : Nat) (hx : x < B ^ 4) (w : World) :
    Calls Try.prog 17 #[A4 x] w fun e w' => e = .returned (.string (str (textN x (hexn (nlen x))))) ∧ Below w.heap.size w w' := by
  have hn : nlen x ≤ 256 := by
    by_cases h0 : x = 0
    · subst h0; decide
    · have h1 := Nat.log2_self_le h0
      have h2 : x.log2 < 256 := (Nat.pow_lt_pow_iff_right (a := 2) (by decide)).1 (Nat.lt_of_le_of_lt h1 hx)
      unfold nlen; rw [if_neg h0]; omega
  have h := text_core _ (digs_length 4 x) (digs_dig 4 x) (nlen x) hn (length_any x hx) w
  rw [textOf_digs (by unfold hexn; split <;> omega)] at h
  exact h

/-- Two digits a byte. -/
def twoOf (L : List Nat) : List Nat := L.flatMap fun y => [hexd (ud y 16), hexd (um y 16)]

theorem twoOf_snoc {L : List Nat} {k : Nat} (h : k < L.length) : twoOf (L.take (k + 1)) = twoOf (L.take k) ++ [hexd (ud (nth L k) 16), hexd (um (nth L k) 16)] := by
  rw [List.take_succ_eq_append_getElem h, nth_lt h]
  unfold twoOf
  rw [List.flatMap_append]
  simp

theorem twoOf_length (L : List Nat) : (twoOf L).length = 2 * L.length := by
  induction L with
  | nil => rfl
  | cons x L ih => simp only [twoOf, List.flatMap_cons, List.length_append, List.length_cons, List.length_nil] at *; omega

theorem nth_drop (L : List Nat) (q j : Nat) : nth (L.drop q) j = nth L (q + j) := by
  simp [nth, List.getD_eq_getElem?_getD, List.getElem?_drop]

theorem str_append (L M : List Nat) : str L ++ str M = str (L ++ M) := by
  apply ByteArray.ext
  simp [str, strOfNums, ByteArray.data_append]

/-- A string's size. -/
def strSz : Value → Nat
  | .string b => b.size
  | _ => 0

set_option maxHeartbeats 400000 in
set_option maxRecDepth 100000 in
theorem rtext_core (X Y : List Nat) (hlx : X.length = 4) (hlY : Y.length = 32) (hyb : Byt Y) (R : List Nat) (hR : ∀ m, 1 ≤ m → m ≤ 64 → (∀ j, j < 64 - m → nth (twoOf Y) j = 48) → (m = 1 ∨ nth (twoOf Y) (64 - m) ≠ 48) → (twoOf Y).drop (64 - m) = R) (hb : ∀ w, Calls Try.prog 16 #[.agg (u64s X)] w (NewBytes w Y)) (w : World) :
    Calls Try.prog 18 #[.agg (u64s X)] w fun e w' => e = .returned (.string (str R)) ∧ Below w.heap.size w w' := by
  have HB := Lib.hid hb
  have HR := Lib.hid hR
  clear hb hR
  have hX := Lib.hid (Has.new w (u64s X) 24)
  go_enter Try.func18, Try.ntmps18
  go_wp2_with (first | (refine load4 rfl _ rfl _ rfl 24 X hX.out hlx ?_) | (go_at_call 16; refine (HB.out _).mono ?_; rintro e w1 ⟨v, rfl, ho, hb1⟩))
  have hbel0 := Lib.hid (bcall ((Below.refl w.heap.size w).alloc (Nat.le_refl _) (.cells (u64s X) 24)) hb1 (by simp))
  rcases ho.form with ⟨_, h2⟩ | ⟨g, c, rfl, hg1, hg3, hgc, _, hs2, _⟩
  · rw [h2] at hlY; simp at hlY
  have HlY := Lib.hid hlY
  rw [hlY] at hgc ⊢
  have HS := Lib.hid hs2
  clear hb1 ho hs2
  go_loopw [4, 5] (fun s i wr => ∃ k : Nat, k ≤ 32 ∧ i = .int .i64 k ∧ s = .string (str (twoOf (Y.take k))) ∧ Below w.heap.size w wr ∧ SegB wr g 0 Y ∧ g < wr.heap.size) (fun _ i _ => 32 - (intOf i).toNat)
  case atStart =>
    exact ⟨0, by omega, rfl, rfl, hbel0.out, HS.out, hg3⟩
  case round =>
    obtain ⟨k, hk, rfl, rfl, hbel, hS, hgl⟩ := hrel
    have HSr := Lib.hid hS
    by_cases hlt : k < 32
    · have h1 := hS.at (j := k) (by have := HlY.out; omega)
      have hi1 : (k : Int) < 32 := by omega
      have hyk := Lib.hid (show nth Y k < 256 by rw [nth_lt (by have := HlY.out; omega)]; exact hyb _ (List.getElem_mem _))
      have e1 : Hid (((nth Y k : Nat) : Int) / 16 % 256 = ((ud (nth Y k) 16 : Nat) : Int)) := Lib.hid (by have := hyk.out; unfold ud; omega)
      have e2 : Hid (((nth Y k : Nat) : Int) % 16 = ((um (nth Y k) 16 : Nat) : Int)) := Lib.hid (by unfold um; omega)
      have e3 := Lib.hid (hex_index .u8 (ud (nth Y k) 16) (by have := hyk.out; unfold ud; omega))
      have e4 := Lib.hid (hex_index .u8 (um (nth Y k) 16) (by unfold um; omega))
      have e5 := fun w' : World => (show BV (w'.alloc (.cells (u8s [hexd (ud (nth Y k) 16), hexd (um (nth Y k) 16)]) 5)).drew.drew (.slice (some ⟨w'.heap.size, 0, none⟩) 2 2) [hexd (ud (nth Y k) 16), hexd (um (nth Y k) 16)] from Or.inr ⟨_, 0, 2, rfl, (seg_newB w' _ 5 rfl).drew.drew⟩).string
      simp only [u8s, List.map_cons, List.map_nil] at e5
      have E5 := Lib.hid e5
      have hsn := Lib.hid (twoOf_snoc (L := Y) (k := k) (by have := HlY.out; omega))
      clear hS e5
      go_wp2
      go_region
      go_wp2
      simp only [e1.out, e2.out]
      have e3' := e3.out
      have e4' := e4.out
      have e5' := E5.out
      have e6 : ¬ 9223372036854775807 < (str (twoOf (Y.take k))).size + (str [hexd (ud (nth Y k) 16), hexd (um (nth Y k) 16)]).size := by rw [str_size, str_size, twoOf_length]; have := List.length_take_le k Y; simp; omega
      have e7 := str_append (twoOf (Y.take k)) [hexd (ud (nth Y k) 16), hexd (um (nth Y k) 16)]
      rw [← hsn.out] at e7
      go_region
      go_wp2
      refine ⟨⟨k + 1, by omega, by go_num, rfl, ((hbel.alloc hbel.size _).drew).drew, ?_, by simp; omega⟩, by simp [intOf]; omega⟩
      intro j hj
      have hA : ∀ o : Obj, (wr.alloc o).cell? ⟨g, 0 + j, none⟩ = wr.cell? ⟨g, 0 + j, none⟩ := fun o => World.cell?_of_block (w := wr) (a := ⟨g, 0 + j, none⟩) (Below.heap_alloc wr o g hgl)
      exact (hA _).trans (HSr.out j hj)
    · obtain rfl : k = 32 := by omega
      have hF := Lib.hid (show Y.take 32 = Y by rw [List.take_of_length_le (by have := HlY.out; omega)])
      have hFl := Lib.hid (show (twoOf Y).length = 64 by rw [twoOf_length, HlY.out])
      have hFb := Lib.hid (show Byt (twoOf Y) by
        intro z hz
        simp only [twoOf, List.mem_flatMap] at hz
        obtain ⟨y, hy, hz⟩ := hz
        have := hyb y hy
        simp only [List.mem_cons, List.not_mem_nil, or_false] at hz
        unfold hexd ud um at hz
        rcases hz with rfl | rfl <;> split <;> omega)
      clear hS
      rw [hF.out]
      generalize twoOf Y = F at *
      go_wp2
      go_loop [4] (fun s => ∃ m : Nat, 1 ≤ m ∧ m ≤ 64 ∧ (∀ j, j < 64 - m → nth F j = 48) ∧ s = .string (str (F.drop (64 - m)))) (fun s => strSz s)
      case atStart => exact ⟨64, by omega, by omega, fun j hj => by omega, rfl⟩
      case round =>
        obtain ⟨m, hm1, hm2, hz, rfl⟩ := hrel
        have HZ := Lib.hid hz
        have hl := Lib.hid (show (F.drop (64 - m)).length = m by rw [List.length_drop, hFl.out]; omega)
        have hs : (str (F.drop (64 - m))).size = m := by rw [str_size, hl.out]
        have hbb := Lib.hid (show Byt (F.drop (64 - m)) from fun z hz => hFb.out z (List.mem_of_mem_drop hz))
        clear hz
        by_cases c1 : m = 1
        · have hfin := Lib.hid (HR.out m hm1 hm2 HZ.out (Or.inl c1))
          subst c1
          go_wp2
          go_ret
          exact ⟨by rw [← hfin.out]; rfl, hbel⟩
        · have hgt : decide (1 < m) = true := by simp; omega
          have hix : ∀ w, (Instr.index 9 (.string (str (F.drop (64 - m)))) (.int .i64 0)).run Try.prog w = .ok (.int .u8 ((nth F (64 - m) : Nat) : Int)) w := fun w => by
            have := index_str (F.drop (64 - m)) hbb.out .i64 0 (by rw [hl.out]; omega) w
            rw [nth_drop] at this
            exact this
          by_cases c2 : nth F (64 - m) = 48
          · have c2' : ((((nth F (64 - m) : Nat) : Int)) == 48) = true := by simp [c2]
            have hsl : ∀ w, (Instr.slice 9 (.string (str (F.drop (64 - m)))) (some (.int .i64 1)) none none).run Try.prog w = .ok (.string (str (F.drop (64 - (m - 1))))) w := fun w => by
              have := slice_from (F.drop (64 - m)) .i64 1 (by rw [hl.out]; omega) w
              rw [List.drop_drop, show 64 - m + 1 = 64 - (m - 1) by omega] at this
              exact this
            have C2 := Lib.hid c2
            clear c2
            go_wp2
            refine ⟨⟨m - 1, by omega, by omega, ?_, rfl⟩, ?_⟩
            · intro j hj
              by_cases e : j = 64 - m
              · subst e; exact C2.out
              · exact HZ.out j (by omega)
            · show (str (F.drop (64 - (m - 1)))).size < (str (F.drop (64 - m))).size
              rw [str_size, str_size, List.length_drop, List.length_drop, hFl.out]; omega
          · have c2' : ((((nth F (64 - m) : Nat) : Int)) == 48) = false := by rw [beq_eq_false_iff_ne]; omega
            have hfin := Lib.hid (HR.out m hm1 hm2 HZ.out (Or.inr c2))
            clear c2
            go_wp2
            go_ret
            exact ⟨by rw [← hfin.out]; rfl, hbel⟩
end Go.Proofs.Ytbklepgbieohiaa
