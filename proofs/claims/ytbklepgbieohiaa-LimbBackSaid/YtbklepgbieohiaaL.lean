/- The walks of size and of both Length. -/
import Derived.Test.YtbklepgbieohiaaZ
import Derived.Test.YtbklepgbieohiaaShelf
namespace Go.Proofs.Ytbklepgbieohiaa
open Go.RowKit

/-- How many bits a number below 2 to the 64 has. -/
def blen (x : Nat) : Nat := Lib.bitLen x

theorem len64_any (x : Nat) (hx : x < B) (w : World) : Calls Try.prog 39 #[.int .u64 x] w fun e w' => e = .returned (.int .i64 ((blen x : Nat) : Int)) ∧ w = w' :=
  (Try.bits_Len64 (x : Int) w (by omega) (by unfold B at hx; omega)).mono fun _ _ h => ⟨by rw [h.1]; rfl, h.2.symm⟩

theorem lz64_any (x : Nat) (hx : x < B) (w : World) : Calls Try.prog 48 #[.int .u64 x] w fun e w' => e = .returned (.int .i64 (64 - ((blen x : Nat) : Int))) ∧ w = w' :=
  (Try.bits_LeadingZeros64 (x : Int) w (by omega) (by unfold B at hx; omega)).mono fun _ _ h => ⟨by rw [h.1]; rfl, h.2.symm⟩

theorem blen_bounds {x : Nat} (hx : x < B) : blen x ≤ 64 ∧ x < 2 ^ blen x ∧ (0 < x → 2 ^ (blen x - 1) ≤ x ∧ 0 < blen x) ∧ (x = 0 → blen x = 0) := by
  have key : ∀ f x, x < 2 ^ f → Lib.bitLenAux f x ≤ f ∧ x < 2 ^ Lib.bitLenAux f x ∧ (0 < x → 2 ^ (Lib.bitLenAux f x - 1) ≤ x ∧ 0 < Lib.bitLenAux f x) ∧ (x = 0 → Lib.bitLenAux f x = 0) := by
    intro f
    induction f with
    | zero =>
      intro x h
      have h0 : x = 0 := by simpa using h
      subst h0
      simp [Lib.bitLenAux]
    | succ f ih =>
      intro x h
      unfold Lib.bitLenAux
      by_cases h0 : x = 0
      · subst h0; simp
      · rw [if_neg h0]
        obtain ⟨h1, h2, h3, h4⟩ := ih (x / 2) (by rw [Nat.pow_succ] at h; omega)
        generalize Lib.bitLenAux f (x / 2) = m at *
        refine ⟨by omega, ?_, fun _ => ⟨?_, by omega⟩, fun h => absurd h h0⟩
        · rw [Nat.add_comm 1 m, Nat.pow_succ]; omega
        · by_cases hx2 : x / 2 = 0
          · have := h4 hx2
            subst this; simp; omega
          · obtain ⟨h5, h6⟩ := h3 (by omega)
            obtain ⟨k, rfl⟩ : ∃ k, m = k + 1 := ⟨m - 1, by omega⟩
            have e : 1 + (k + 1) - 1 = k + 1 := by omega
            rw [e, Nat.pow_succ]
            simp only [Nat.add_sub_cancel] at h5
            omega
  exact key 64 x hx

/-- How many digits up to the highest one that is not nought, of the first k. -/
def sz (L : List Nat) : Nat → Nat
  | 0 => 0
  | k + 1 => if nth L k = 0 then sz L k else k + 1

theorem sz_le (L : List Nat) (k : Nat) : sz L k ≤ k := by
  induction k with
  | zero => exact Nat.le_refl _
  | succ k ih => unfold sz; split <;> omega

theorem sz_top (L : List Nat) (k : Nat) (h : 0 < sz L k) : nth L (sz L k - 1) ≠ 0 := by
  induction k with
  | zero => simp [sz] at h
  | succ k ih =>
    unfold sz at h ⊢
    split
    · rename_i h0; rw [if_pos h0] at h; exact ih h
    · rename_i h0; simpa using h0

theorem sz_above (L : List Nat) (k : Nat) : ∀ j, sz L k ≤ j → j < k → nth L j = 0 := by
  induction k with
  | zero => intro j _ h; omega
  | succ k ih =>
    intro j h1 h2
    unfold sz at h1
    split at h1
    · rename_i h0
      by_cases e : j = k
      · subst e; exact h0
      · exact ih j h1 (by omega)
    · omega

set_option maxHeartbeats 400000 in
theorem size_any (L : List Nat) (b off n c : Nat) (hn : L.length = n) (_hc : n ≤ c) (hb : n ≤ 1000) (w : World) (hL : Seg w b off L) :
    Calls Try.prog 38 #[.slice (some ⟨b, off, none⟩) n c] w fun e w' => e = .returned (.int .i64 ((sz L n : Nat) : Int)) ∧ w = w' := by
  have HL := Lib.hid hL
  have Hn := Lib.hid hn
  clear hL hn
  go_enter Try.func38, Try.ntmps38
  go_wp2
  go_loop [3] (fun i => ∃ k : Nat, k ≤ n ∧ sz L k = sz L n ∧ i = .int .i64 k) (fun i => (intOf i).toNat)
  case atStart => exact ⟨n, Nat.le_refl _, rfl, rfl⟩
  case round =>
    obtain ⟨k, hk, hs, rfl⟩ := hrel
    have HS := Lib.hid hs
    clear hs
    cases k with
    | zero =>
      have h0 := Lib.hid HS.out.symm
      go_wp2
      go_ret
      exact ⟨by rw [h0.out]; rfl, rfl⟩
    | succ m =>
      have h1 := HL.out m (by rw [Hn.out]; omega)
      have hi0 : (0 : Int) ≤ (m : Int) := Int.natCast_nonneg _
      by_cases c1 : nth L m = 0
      · have c1' : ((((nth L m : Nat) : Int)) == 0) = true := by simp [c1]
        have hn2 := Lib.hid (show sz L m = sz L n by have := HS.out; rw [show sz L (m + 1) = if nth L m = 0 then sz L m else m + 1 from rfl, if_pos c1] at this; exact this)
        clear c1
        go_wp2
        exact ⟨⟨m, by omega, hn2.out, rfl⟩, by simp [intOf]⟩
      · have c1' : ((((nth L m : Nat) : Int)) == 0) = false := by rw [beq_eq_false_iff_ne]; omega
        have hn2 := Lib.hid (show m + 1 = sz L n by have := HS.out; rw [show sz L (m + 1) = if nth L m = 0 then sz L m else m + 1 from rfl, if_neg c1] at this; exact this)
        clear c1
        go_wp2
        go_ret
        exact ⟨by rw [← hn2.out]; rfl, rfl⟩

/-- The length of a number of digits. -/
def lenOf4 (L : List Nat) : Nat := if sz L 4 = 0 then 0 else 64 * (sz L 4 - 1) + blen (nth L (sz L 4 - 1))

set_option maxHeartbeats 400000 in
theorem length_core (X : List Nat) (hlx : X.length = 4) (hdx : Dig X) (w : World) :
    Calls Try.prog 10 #[.agg (u64s X)] w fun e w' => e = .returned (.int .i64 ((lenOf4 X : Nat) : Int)) ∧ Below w.heap.size w w' := by
  have hX := Lib.hid (Has.new w (u64s X) 24)
  have hz := sz_le X 4
  unfold lenOf4
  generalize hq : sz X 4 = q at *
  have Hq := Lib.hid hq
  clear hq
  cases q with
  | zero =>
    go_enter Try.func10, Try.ntmps10
    go_wp2_with fail
    refine (size_any X _ _ _ _ hlx (by omega) (by omega) _ hX.out.seg).mono ?_
    rintro e w1 ⟨rfl, rfl⟩
    rw [Hq.out]
    go_wp2
    go_ret
    exact ⟨rfl, (Below.refl _ _).alloc (Nat.le_refl _) _⟩
  | succ m =>
    have h1 := hX.out.cell (k := m) (by omega)
    have hm : m < 4 := by omega
    have hbl := (blen_bounds (hdx.get m)).1
    go_enter Try.func10, Try.ntmps10
    go_wp2_with fail
    refine (size_any X _ _ _ _ hlx (by omega) (by omega) _ hX.out.seg).mono ?_
    rintro e w1 ⟨rfl, rfl⟩
    rw [Hq.out]
    go_wp2_with (go_at_call 39; refine (len64_any (nth X m) (hdx.get m) _).mono ?_; rintro e w2 ⟨rfl, rfl⟩)
    go_ret
    exact ⟨rfl, (Below.refl _ _).alloc (Nat.le_refl _) _⟩

/-- The number of digits in another base. -/
def vb (b : Nat) : List Nat → Nat
  | [] => 0
  | x :: l => x + b * vb b l

theorem val_vb (L : List Nat) : val L = vb B L := by
  induction L with
  | nil => rfl
  | cons x L ih => simp only [val, vb, ih]

theorem vb_bounds {b : Nat} (_hb : 0 < b) {L : List Nat} {m : Nat} (hm : m < L.length) (hd : ∀ j, nth L j < b) (h0 : ∀ j, m < j → j < L.length → nth L j = 0) :
    b ^ m * nth L m ≤ vb b L ∧ vb b L < b ^ m * (nth L m + 1) := by
  induction L generalizing m with
  | nil => simp at hm
  | cons x L ih =>
    cases m with
    | zero =>
      have hz : ∀ M : List Nat, (∀ j, j < M.length → nth M j = 0) → vb b M = 0 := by
        intro M
        induction M with
        | nil => intro _; rfl
        | cons y M ihm =>
          intro h
          have h1 := h 0 (by simp)
          have h2 := ihm (fun j hj => h (j + 1) (by simpa using hj))
          simp only [nth, List.getD_cons_zero] at h1
          simp [vb, h1, h2]
      have e := hz L (fun j hj => h0 (j + 1) (by omega) (by simpa using hj))
      simp [vb, e, nth]
    | succ m =>
      obtain ⟨h1, h2⟩ := ih (m := m) (by simpa using hm) (fun j => hd (j + 1)) (fun j hj hl => h0 (j + 1) (by omega) (by simpa using hl))
      have hx : x < b := hd 0
      have e : nth (x :: L) (m + 1) = nth L m := rfl
      rw [e, Nat.pow_succ, Nat.mul_comm (b ^ m) b, Nat.mul_assoc, Nat.mul_assoc]
      simp only [vb]
      have h3 : b * (b ^ m * nth L m) ≤ b * vb b L := Nat.mul_le_mul_left _ h1
      have h4 : b * (vb b L + 1) ≤ b * (b ^ m * (nth L m + 1)) := Nat.mul_le_mul_left _ h2
      rw [Nat.mul_add] at h4
      omega

theorem vb_zero {b : Nat} {L : List Nat} (h : ∀ j, j < L.length → nth L j = 0) : vb b L = 0 := by
  induction L with
  | nil => rfl
  | cons y M ihm =>
    have h1 := h 0 (by simp)
    have h2 := ihm (fun j hj => h (j + 1) (by simpa using hj))
    simp only [nth, List.getD_cons_zero] at h1
    simp [vb, h1, h2]

/-- How many bits a number has. -/
def nlen (n : Nat) : Nat := if n = 0 then 0 else Nat.log2 n + 1

theorem nlen_of {n k : Nat} (h : n < 2 ^ k) (h1 : 2 ^ (k - 1) ≤ n) (hk : 0 < k) : nlen n = k := by
  have h0 : n ≠ 0 := by have := Nat.two_pow_pos (k - 1); omega
  unfold nlen
  rw [if_neg h0]
  have h2 := Nat.log2_self_le h0
  have h3 := @Nat.lt_log2_self n
  have h4 : n.log2 < k := (Nat.pow_lt_pow_iff_right (by decide)).1 (Nat.lt_of_le_of_lt h2 h)
  have h5 : k - 1 < n.log2 + 1 := (Nat.pow_lt_pow_iff_right (a := 2) (by decide)).1 (Nat.lt_of_le_of_lt h1 h3)
  omega

/-- The length of digits of s bits each. -/
theorem nlen_digits {s : Nat} (hs : s ≤ 64) {L : List Nat} (hd : ∀ j, nth L j < 2 ^ s) :
    (if sz L L.length = 0 then 0 else s * (sz L L.length - 1) + blen (nth L (sz L L.length - 1))) = nlen (vb (2 ^ s) L) := by
  have hab := sz_above L L.length
  have htop := sz_top L L.length
  have hle := sz_le L L.length
  generalize sz L L.length = q at *
  cases q with
  | zero =>
    rw [if_pos rfl, vb_zero (fun j hj => hab j (by omega) hj)]; rfl
  | succ m =>
    rw [if_neg (by omega), Nat.add_sub_cancel]
    have ht := htop (by omega)
    rw [Nat.add_sub_cancel] at ht
    obtain ⟨h1, h2⟩ := vb_bounds (Nat.two_pow_pos s) (L := L) (m := m) (by omega) hd (fun j hj hl => hab j (by omega) hl)
    have hB : nth L m < B := Nat.lt_of_lt_of_le (hd m) (by show 2 ^ s ≤ 2 ^ 64; exact Nat.pow_le_pow_right (by decide) hs)
    obtain ⟨_, h4, h5, _⟩ := blen_bounds hB
    obtain ⟨h6, h7⟩ := h5 (by omega)
    generalize nth L m = d at *
    generalize blen d = k at *
    rw [← Nat.pow_mul] at h1 h2
    refine (nlen_of ?_ ?_ (by omega)).symm
    · refine Nat.lt_of_lt_of_le h2 ?_
      rw [Nat.pow_add]
      exact Nat.mul_le_mul_left _ h4
    · refine Nat.le_trans ?_ h1
      have e : s * m + k - 1 = s * m + (k - 1) := by omega
      rw [e, Nat.pow_add]
      exact Nat.mul_le_mul_left _ h6

theorem lenOf4_digs {x : Nat} (hx : x < B ^ 4) : lenOf4 (digs 4 x) = nlen x := by
  have h := nlen_digits (s := 64) (by omega) (L := digs 4 x) (fun j => (digs_dig 4 x).get j)
  rw [digs_length] at h
  unfold lenOf4
  rw [h]
  have e : vb (2 ^ 64) (digs 4 x) = x := by
    have := val_vb (digs 4 x)
    rw [val_digs_lt hx] at this
    exact this.symm
  rw [e]

theorem length_any (x : Nat) (hx : x < B ^ 4) (w : World) :
    Calls Try.prog 10 #[A4 x] w fun e w' => e = .returned (.int .i64 ((nlen x : Nat) : Int)) ∧ Below w.heap.size w w' := by
  have h := length_core _ (digs_length 4 x) (digs_dig 4 x) w
  rw [lenOf4_digs hx] at h
  exact h
end Go.Proofs.Ytbklepgbieohiaa
