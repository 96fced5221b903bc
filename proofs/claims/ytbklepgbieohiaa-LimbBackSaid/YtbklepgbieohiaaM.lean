/- The walks of the reference's length and Length, and of Bit. -/
import Derived.Test.YtbklepgbieohiaaL
import Derived.Lib.BitFns
namespace Go.Proofs.Ytbklepgbieohiaa
open Go.RowKit

theorem blen_half {x : Nat} (h0 : x ≠ 0) (h : x < B) : blen x = 1 + blen (ud x 2) := Lib.bitLen_half x h0 h

/-- The length of halves. -/
def lenOf32 (D : List Nat) (n : Nat) : Nat := if sz D n = 0 then 0 else 32 * (sz D n - 1) + blen (nth D (sz D n - 1))

set_option maxHeartbeats 400000 in
theorem rlength_any (D : List Nat) (b off n c : Nat) (hn : D.length = n) (hb : n ≤ 1000) (hd : ∀ j, nth D j < 4294967296) (w : World) (hD : Seg w b off D) :
    Calls Try.prog 40 #[.slice (some ⟨b, off, none⟩) n c] w fun e w' => e = .returned (.int .i64 ((lenOf32 D n : Nat) : Int)) ∧ w = w' := by
  have HL := Lib.hid hD
  have Hn := Lib.hid hn
  clear hD hn
  go_enter Try.func40, Try.ntmps40
  go_wp2
  go_loop [3] (fun i => ∃ (v : Int) (k : Nat), v + 1 = k ∧ k ≤ n ∧ sz D k = sz D n ∧ i = .int .i64 v) (fun i => (intOf i + 1).toNat)
  case atStart => exact ⟨(n : Int) - 1, n, by omega, Nat.le_refl _, rfl, by go_num⟩
  case round =>
    obtain ⟨v, k, hv, hk, hs, rfl⟩ := hrel
    have HS := Lib.hid hs
    clear hs
    cases k with
    | zero =>
      obtain rfl : v = -1 := by omega
      have h0 := Lib.hid (show lenOf32 D n = 0 by unfold lenOf32; rw [← HS.out]; rfl)
      clear hv
      go_wp2
      go_ret
      exact ⟨by rw [h0.out]; rfl, rfl⟩
    | succ m =>
      obtain rfl : v = (m : Int) := by omega
      have h1 := HL.out m (by rw [Hn.out]; omega)
      have hi0 : (0 : Int) ≤ (m : Int) := Int.natCast_nonneg _
      have hmn : m < n := by omega
      have hx0 := Lib.hid (hd m)
      clear hv hd
      go_wp2
      go_loop [4, 5] (fun a x => ∃ (t y : Nat), t + blen y = blen (nth D m) ∧ y < B ∧ t ≤ 64 ∧ a = .int .i64 t ∧ x = .int .u64 y) (fun _ x => (intOf x).toNat)
      case atStart => exact ⟨0, nth D m, by omega, by have := hx0.out; unfold B; omega, by omega, rfl, rfl⟩
      case round =>
        obtain ⟨t, y, ht, hy, ht2, rfl, rfl⟩ := hrel
        have HT := Lib.hid ht
        clear ht
        by_cases c1 : 0 < y
        · have hq : IntKind.u64.wrap (((y : Nat) : Int) / 2) = ((ud y 2 : Nat) : Int) := wrap_ud y 2 hy
          have hh := Lib.hid (blen_half (by omega) hy)
          have hlt := Lib.hid (show ud y 2 < y by unfold ud; omega)
          have hb2 := Lib.hid (show t + 1 ≤ 64 by have h3 := (blen_bounds (show nth D m < B by have := hx0.out; unfold B; omega)).1; have h4 := HT.out; have := hh.out; omega)
          have hyB := Lib.hid hy
          clear hy
          go_wp2
          exact ⟨⟨t + 1, ud y 2, by have := HT.out; have := hh.out; omega, by have := hlt.out; have := hyB.out; omega, hb2.out, by go_num, rfl⟩, by simp [intOf]; exact hlt.out⟩
        · obtain rfl : y = 0 := by omega
          have ht3 : t = blen (nth D m) := by have := HT.out; rw [(blen_bounds B_pos).2.2.2 rfl] at this; omega
          by_cases c2 : nth D m = 0
          · have e0 : blen (nth D m) = 0 := by rw [c2]; exact (blen_bounds B_pos).2.2.2 rfl
            obtain rfl : t = 0 := by omega
            have hn2 := Lib.hid (show sz D m = sz D n by have := HS.out; rw [show sz D (m + 1) = if nth D m = 0 then sz D m else m + 1 from rfl, if_pos c2] at this; exact this)
            clear ht3 c2 e0 hy c1
            go_wp2
            refine ⟨⟨(m : Int) - 1, m, ?_, ?_, hn2.out, rfl⟩, ?_⟩
            · omega
            · omega
            · simp [intOf] <;> omega
          · have hn2 := Lib.hid (show m + 1 = sz D n by have := HS.out; rw [show sz D (m + 1) = if nth D m = 0 then sz D m else m + 1 from rfl, if_neg c2] at this; exact this)
            have hpos : 0 < t := by rw [ht3]; exact ((blen_bounds (show nth D m < B by have := hx0.out; unfold B; omega)).2.2.1 (by omega)).2
            have hfin := Lib.hid (show lenOf32 D n = 32 * m + t by unfold lenOf32; rw [← hn2.out, if_neg (by omega), Nat.add_sub_cancel, ht3])
            clear ht3 c2 hy c1
            go_wp2
            go_ret
            refine ⟨?_, rfl⟩
            rw [hfin.out]
            exact congrArg (fun q => Ending.returned (Value.int IntKind.i64 q)) (by simp)

theorem dig_halves {L : List Nat} (h : Dig L) : ∀ j, nth (halves L) j < 4294967296 := by
  have hm : ∀ y, y ∈ halves L → y < 4294967296 := by
    intro y hy
    simp only [halves, List.mem_flatMap] at hy
    obtain ⟨x, hx, hy⟩ := hy
    have := h x hx
    simp only [List.mem_cons, List.not_mem_nil, or_false] at hy
    unfold B um ud at *
    omega
  intro j
  unfold nth
  rw [List.getD_eq_getElem?_getD]
  rcases Nat.lt_or_ge j (halves L).length with hk | hk
  · rw [List.getElem?_eq_getElem hk]; exact hm _ (List.getElem_mem hk)
  · rw [List.getElem?_eq_none hk]; decide

theorem vb_halves (L : List Nat) : vb 4294967296 (halves L) = val L := by
  induction L with
  | nil => rfl
  | cons x L ih =>
    have e : halves (x :: L) = um x 4294967296 :: ud x 4294967296 :: halves L := rfl
    rw [e]
    simp only [vb, ih, val]
    have : um x 4294967296 + 4294967296 * ud x 4294967296 = x := Nat.mod_add_div x 4294967296
    unfold B
    rw [Nat.mul_add, ← Nat.mul_assoc]
    omega

theorem lenOf32_digs {x : Nat} (hx : x < B ^ 4) : lenOf32 (halves (digs 4 x)) 8 = nlen x := by
  have hl : (halves (digs 4 x)).length = 8 := by rw [halves_length, digs_length]
  have h := nlen_digits (s := 32) (by omega) (L := halves (digs 4 x)) (dig_halves (digs_dig 4 x))
  rw [hl] at h
  unfold lenOf32
  rw [h]
  have e : vb (2 ^ 32) (halves (digs 4 x)) = x := by
    have := vb_halves (digs 4 x)
    rw [val_digs_lt hx] at this
    exact this
  rw [e]

set_option maxHeartbeats 400000 in
theorem rLength_core (X : List Nat) (n : Nat) (hlx : X.length = 4) (hdx : Dig X) (hn : lenOf32 (halves X) 8 = n) (w : World) :
    Calls Try.prog 11 #[.agg (u64s X)] w fun e w' => e = .returned (.int .i64 ((n : Nat) : Int)) ∧ Below w.heap.size w w' := by
  have hX := Lib.hid (Has.new w (u64s X) 24).seg
  have Hn := Lib.hid hn
  have h8 := Lib.hid (show (halves X).length = 8 by rw [halves_length, hlx])
  clear hn
  go_enter Try.func11, Try.ntmps11
  go_wp2_with fail
  refine (digits_any X _ _ _ _ hlx (by omega) (by omega) hdx _ hX.out (by simp)).mono ?_
  rintro e w1 ⟨v, rfl, ho, hb⟩
  have hb1 := Lib.hid (bcall ((Below.refl w.heap.size w).alloc (Nat.le_refl _) _) hb (by simp))
  rcases ho.form with ⟨_, h2⟩ | ⟨g, c, rfl, hg1, hg3, hgc, _, hs2, _⟩
  · have h3 := h8.out; rw [h2] at h3; simp at h3
  have hs8 := h8.out
  rw [hs8]
  have HS := Lib.hid hs2
  clear ho hs2 hb
  go_wp2_with fail
  refine (rlength_any (halves X) g 0 8 c hs8 (by omega) (dig_halves hdx) _ HS.out).mono ?_
  rintro e w3 ⟨rfl, rfl⟩
  rw [Hn.out]
  go_wp2
  go_ret
  exact ⟨rfl, hb1.out⟩

theorem rLength_any (x : Nat) (hx : x < B ^ 4) (w : World) :
    Calls Try.prog 11 #[A4 x] w fun e w' => e = .returned (.int .i64 ((nlen x : Nat) : Int)) ∧ Below w.heap.size w w' :=
  rLength_core _ _ (digs_length 4 x) (digs_dig 4 x) (lenOf32_digs hx) w
end Go.Proofs.Ytbklepgbieohiaa
