/- The walk of limb.Divide, the divisor not nought. -/
import Derived.Test.YtbklepgbieohiaaQ4
namespace Go.Proofs.Ytbklepgbieohiaa
open Go.RowKit

theorem nth_take {L : List Nat} {k j : Nat} (h : j < k) : nth (L.take k) j = nth L j := by
  simp [nth, List.getD_eq_getElem?_getD, h]

theorem Seg.take {w : World} {b off : Nat} {L : List Nat} (h : Seg w b off L) (k : Nat) : Seg w b off (L.take k) := fun j hj => by
  rw [List.length_take] at hj
  rw [nth_take (by omega)]
  exact h j (by omega)

/-- Only the digits up to the highest one count. -/
theorem val_take_sz {Y : List Nat} {n : Nat} (hn : sz Y Y.length = n) : val (Y.take n) = val Y := by
  have h := val_split Y n (by rw [← hn]; exact sz_le _ _)
  rw [val_zero_all (L := Y.drop n) fun j => ?_, Nat.mul_zero, Nat.add_zero] at h
  · exact h.symm
  · rw [nth_drop]
    by_cases hj : n + j < Y.length
    · exact sz_above Y Y.length _ (by omega) hj
    · simp [nth, List.getD_eq_getElem?_getD, List.getElem?_eq_none (show Y.length ≤ n + j by omega)]

theorem val_ge {Y : List Nat} (hd : Dig Y) {k : Nat} (hk : k < Y.length) : nth Y k * B ^ k ≤ val Y := by
  have e := val_digit hd hk
  have h := Nat.div_mul_le_self (val Y) (B ^ k)
  have h2 : nth Y k * B ^ k ≤ val Y / B ^ k * B ^ k := Nat.mul_le_mul_right _ (by rw [e]; exact Nat.le_add_right _ _)
  omega

/-- What the divisor becomes. -/
theorem divisor {Y D : List Nat} {m p s : Nat} (hp : p = 2 ^ s) (hly : Y.length = 4) (hdy : Dig Y) (hn : sz Y 4 = m + 1) (hlt : nth Y m * p < B) (hD : D.length = m + 1 + 1) (hdD : Dig D) (hv : val D = val (Y.take (m + 1)) * p) :
    val (D.take (m + 1)) = val Y * p ∧ 0 < nth (D.take (m + 1)) m := by
  have hpos : 0 < p := by rw [hp]; exact Nat.two_pow_pos _
  rw [← hly] at hn
  rw [val_take_sz hn] at hv
  have hm : m < Y.length := by have := sz_le Y Y.length; omega
  have h0 : nth Y m ≠ 0 := by have := sz_top Y Y.length (by omega); rw [hn] at this; exact this
  have hY : val Y < B ^ (m + 1) ∧ val Y / B ^ m = nth Y m := by
    have a : val Y < B ^ (m + 1) := val_lt_top hdy fun q hq => by
      by_cases hl : q < Y.length
      · exact sz_above Y Y.length q (by omega) hl
      · simp [nth, List.getD_eq_getElem?_getD, List.getElem?_eq_none (show Y.length ≤ q by omega)]
    refine ⟨a, ?_⟩
    rw [val_digit hdy hm, Nat.div_eq_of_lt a, Nat.mul_zero, Nat.add_zero]
  have hlt2 : val D < B ^ (m + 1) := by
    rw [hv, Nat.pow_succ]
    have h1 : val Y + 1 ≤ B ^ m * (nth Y m + 1) := by
      have := Nat.lt_mul_div_succ (val Y) (Bpow_pos m)
      rw [hY.2] at this
      exact this
    have h2 : (val Y + 1) * p ≤ B ^ m * (nth Y m + 1) * p := Nat.mul_le_mul_right _ h1
    have h3 : (nth Y m + 1) * p ≤ B := by
      rw [Nat.add_mul, Nat.one_mul]
      have hB : B = 2 ^ 64 := rfl
      by_cases hs : s < 64
      · have e := two64 hs
        have h4 : nth Y m * p < B := hlt
        rw [e, ← hp, Nat.mul_comm p] at h4 ⊢
        have h5 : nth Y m < 2 ^ (64 - s) := Nat.lt_of_mul_lt_mul_right h4
        have h6 : (nth Y m + 1) * p ≤ 2 ^ (64 - s) * p := Nat.mul_le_mul_right _ h5
        rw [Nat.add_mul, Nat.one_mul] at h6
        exact h6
      · have : B ≤ p := by rw [hp, hB]; exact Nat.pow_le_pow_right (by decide) (by omega)
        have h5 : 1 * p ≤ nth Y m * p := Nat.mul_le_mul_right _ (by omega)
        omega
    have h4 : B ^ m * (nth Y m + 1) * p ≤ B ^ m * B := by rw [Nat.mul_assoc]; exact Nat.mul_le_mul_left _ h3
    rw [Nat.add_mul] at h2
    omega
  have e := val_split D (m + 1) (by omega)
  have z : nth D (m + 1) = 0 := nth_top hdD hlt2 (Nat.le_refl _)
  have z2 : val (D.drop (m + 1)) = 0 := by
    rw [drop_cons (by omega), List.drop_eq_nil_of_le (by omega)]
    simp [val, z]
  rw [z2, Nat.mul_zero, Nat.add_zero] at e
  refine ⟨by rw [← e, hv], ?_⟩
  rw [nth_take (by omega)]
  have h7 := val_digit hdD (k := m) (by omega)
  rw [Nat.div_eq_of_lt hlt2, Nat.mul_zero, Nat.add_zero] at h7
  rw [← h7]
  refine Nat.div_pos ?_ (Bpow_pos m)
  rw [hv]
  have h8 := val_ge hdy hm
  have h9 : 1 * B ^ m ≤ nth Y m * B ^ m := Nat.mul_le_mul_right _ (by omega)
  have h10 : val Y * 1 ≤ val Y * p := Nat.mul_le_mul_left _ hpos
  omega

theorem DivIn.start {X Y A : List Nat} {m p : Nat} (hp : 0 < p) (hlx : X.length = 8) (hdx : Dig X) (hly : Y.length = 4) (hdy : Dig Y) (hm : m < 4) (h0 : nth Y m ≠ 0)
    (hA : A.length = 9) (hdA : Dig A) (hv : val A = val X * p) : DivIn (val X * p) (val Y * p) (m + 1) (8 - m) A [0, 0, 0, 0, 0, 0, 0, 0] := by
  refine ⟨hA, hdA, rfl, by simp [Dig, B], by simp [val, hv], ?_, fun j _ => nth_zeros 8 j⟩
  rw [hv]
  refine (Nat.div_lt_iff_lt_mul (Bpow_pos _)).2 ?_
  have h1 := val_lt hdx
  rw [hlx] at h1
  have h2 := val_ge hdy (k := m) (by omega)
  have h3 : 1 * B ^ m ≤ nth Y m * B ^ m := Nat.mul_le_mul_right _ (by omega)
  have h4 : B ^ m * B ^ (8 - m) ≤ val Y * B ^ (8 - m) := Nat.mul_le_mul_right _ (by omega)
  rw [← Nat.pow_add, show m + (8 - m) = 8 by omega] at h4
  rw [Nat.mul_right_comm]
  exact Nat.mul_lt_mul_of_pos_right (Nat.lt_of_lt_of_le h1 h4) hp

theorem slice_head4 (g : Nat) {m : Nat} (hm : m < 4) (u : World) :
    (Instr.sliceAt 24 (.pointer (some ⟨g, 0, none⟩)) none (some (.int .i64 ((m : Int) + 1))) none).run Try.prog u = .ok (.slice (some ⟨g, 0, none⟩) (m + 1) 4) u := by
  have ha : Try.prog.arrayLen 24 = 4 := by kernel_rfl
  have he : Try.prog.elem 24 = 22 := by kernel_rfl
  have ht : Try.prog.underlying 24 = some (.array (Try.prog.arrayLen 24) (Try.prog.elem 24)) := by rw [ha, he]; exact und24
  rw [run_sliceAt_array_h (t := 24) (ht := ht) (kh := .i64) (h := (m : Int) + 1) (h0 := by omega) (h2 := by rw [ha]; omega), he, size22, ha]
  simp only [Result.andThen_ok, slicedAt]
  have e : ((m : Int) + 1).toNat = m + 1 := by omega
  rw [e]
  simp [Addr.add]

/-- What lies in the heap while Divide runs. -/
structure DivW (w : World) (N gd gl : Nat) (M A Q : List Nat) (u : World) : Prop where
  hg : N + 6 ≤ gd
  hl : gd < gl
  hM : 0 < M.length
  below : Below N w u
  d : Seg u gd 0 M
  l : Has u gl 22 (u64s A)
  q : Has u (N + 1 + 1 + 1 + 1) 37 (u64s Q)
  r : Has u (N + 1 + 1 + 1 + 1 + 1) 24 (u64s [0, 0, 0, 0])
  q0 : Has u (N + 1 + 1) 37 (u64s [0, 0, 0, 0, 0, 0, 0, 0])
  r0 : Has u (N + 1 + 1 + 1) 24 (u64s [0, 0, 0, 0])

section
variable {w u v : World} {N gd gl : Nat} {M A Q : List Nat}

theorem DivW.keep (h : DivW w N gd gl M A Q u) (k : Below u.heap.size u v) : DivW w N gd gl M A Q v :=
  ⟨h.hg, h.hl, h.hM, bcall h.below k (by have := h.q.lt; omega), h.d.below k (h.d.lt h.hM), h.l.below k h.l.lt, h.q.below k h.q.lt, h.r.below k h.r.lt, h.q0.below k h.q0.lt, h.r0.below k h.r0.lt⟩

theorem DivW.turn (h : DivW w N gd gl M A Q u) {A' : List Nat} (o : Only gl u v) (hA : Has v gl 22 (u64s A')) : DivW w N gd gl M A' Q v := by
  have h1 := h.hg; have h2 := h.hl
  exact ⟨h.hg, h.hl, h.hM, o.below h.below (by omega), h.d.only o (by omega), hA, h.q.only o (by omega), h.r.only o (by omega), h.q0.only o (by omega), h.r0.only o (by omega)⟩

theorem DivW.setQ (h : DivW w N gd gl M A Q u) (k x : Nat) : DivW w N gd gl M A (Q.set k x) (u.setCell ⟨N + 1 + 1 + 1 + 1, k, none⟩ (.int .u64 ((x : Nat) : Int))) := by
  have h1 := h.hg; have h2 := h.hl
  exact ⟨h.hg, h.hl, h.hM, h.below.setCell (by simp; omega) _, h.d.other (by simp; omega) _, h.l.other (by simp; omega) _, h.q.set k x, h.r.other (by simp) _, h.q0.other (by simp) _, h.r0.other (by simp) _⟩
end

set_option maxHeartbeats 1000000 in
set_option maxRecDepth 100000 in
theorem div_some (X Y : List Nat) (hlx : X.length = 8) (hly : Y.length = 4) (hdx : Dig X) (hdy : Dig Y) (m : Nat) (hn : sz Y 4 = m + 1) (w : World) :
    Calls Try.prog 34 #[.agg (u64s X), .agg (u64s Y)] w fun e w' => e = .returned (.tuple #[A8 (val X / val Y), A4 (val X % val Y), .int .i64 0]) ∧ Below w.heap.size w w' := by
  have H := Lib.hid (div0_has X Y w)
  have Hn := Lib.hid hn
  have hm4 : m < 4 := by have := sz_le Y 4; omega
  have htop : nth Y m ≠ 0 := by have := sz_top Y 4 (by omega); rw [hn] at this; exact this
  clear hn
  have hlz := Lib.hid (lz64_any (nth Y m) (hdy.get m))
  have hsz : (64 : Int) - ((blen (nth Y m) : Nat) : Int) = ((64 - blen (nth Y m) : Nat) : Int) := by have := (blen_bounds (hdy.get m)).1; omega
  have Hs := Lib.hid (norm_shift (by omega) (hdy.get m))
  rw [hsz] at hlz
  clear hsz
  generalize 64 - blen (nth Y m) = s at *
  have hs : s < 64 := Hs.out.1
  have hmi : (m : Int) + 1 - 1 = (m : Int) := by omega
  have hm4i : (m : Int) < 4 := by omega
  go_enter Try.func34, Try.ntmps34
  go_wp2_with fail
  refine (size_any Y _ _ _ _ hly (by omega) (by omega) (div0 X Y w) H.out.y.seg).mono ?_
  rintro e w1 ⟨rfl, rfl⟩
  rw [Hn.out]
  generalize div0 X Y w = W at *
  have hcell := H.out.y.cell (k := m) (by omega)
  go_wp2_with (go_at_call 48; refine (hlz.out _).mono ?_; rintro e w1 ⟨rfl, rfl⟩)
  have hN : W.heap.size = w.heap.size + 6 := H.out.size
  have hm5 : (m : Int) + 1 ≤ 4 := by omega
  have hm6 : (m : Int) + 1 ≤ (m : Int) + 1 + 1 := by omega
  have hsl : ∀ (u : World), (Instr.sliceAt 24 (.pointer (some ⟨w.heap.size + 1, 0, none⟩)) none (some (.int .i64 ((m : Int) + 1))) none).run Try.prog u = .ok (.slice (some ⟨w.heap.size + 1, 0, none⟩) (m + 1) 4) u := fun u => slice_head4 _ hm4 u
  have k0 : Kp W W.drew := Kp.start W
  refine wp_region_ord (Kp W) [(true, 0), (true, 1), (true, 2), (true, 4), (true, 6), (true, 7), (false, 3), (true, 5), (false, 8), (true, 9), (true, 10)] (by kernel_rfl) (by kernel_rfl) rfl (by kernel_rfl) ?_
  repeat (refine O_read rfl (by assumption) (fun K' hK => ?_); refine R_pure ?_ rfl (fun w => ?_) ?_; rotate_left; (focus (first | (go_simp; rfl) | (go_simp; done))); go_simp; refine hK _ ?_; clear hK K')
  refine O_call rfl (fun K' hK => ?_)
  have hY1 := H.out.y.below k0 H.out.y.lt
  refine R_callc 49 _ rfl (fun w => ?_) (left_any (Y.take (m + 1)) s _ 0 (m + 1) 4 (by rw [List.length_take, hly]; omega) hs (by omega) (hdy.take _) _ (hY1.seg.take _) hY1.lt) ?_
  · go_simp; done
  rintro e w1 ⟨D, rfl, hb1, hD, hlD, hdD, hvD⟩
  have k1 : Kp W w1 := bcall k0 hb1 (k0).size
  refine ⟨_, rfl, hK _ _ k1 ?_⟩
  clear hK K'
  go_simp
  generalize hgd : W.drew.heap.size = gd at *
  have hgd' : W.heap.size = gd := hgd
  obtain rfl : gd = w.heap.size + 6 := by omega
  repeat (refine O_read rfl (by assumption) (fun K' hK => ?_); refine R_pure ?_ rfl (fun w => ?_) ?_; rotate_left; (focus (first | (go_simp; rfl) | (go_simp; done))); go_simp; refine hK _ ?_; clear hK K')
  refine O_call rfl (fun K' hK => ?_)
  have hX1 := H.out.x.below k1 H.out.x.lt
  refine R_callc 49 _ rfl (fun w => ?_) (left_any X s _ 0 8 8 hlx hs (by omega) hdx _ hX1.seg hX1.lt) ?_
  · go_simp; done
  rintro e w2 ⟨A, rfl, hb2, hA, hlA, hdA, hvA⟩
  have k2 : Kp W w2 := bcall k1 hb2 (k1).size
  refine ⟨_, rfl, hK _ _ k2 ?_⟩
  clear hK K'
  go_simp
  repeat (refine O_read rfl (by assumption) (fun K' hK => ?_); refine R_pure ?_ rfl (fun w => ?_) ?_; rotate_left; (focus (first | (go_simp; rfl) | (go_simp; done))); go_simp; refine hK _ ?_; clear hK K')
  refine O_nil ?_
  have hDD := divisor (p := 2 ^ s) rfl hly hdy Hn.out (Hs.out.2.2.2) hlD hdD hvD
  have hDW : DivW w w.heap.size (w.heap.size + 6) w1.heap.size (D.take (m + 1)) A [0, 0, 0, 0, 0, 0, 0, 0] w2 :=
    ⟨by omega, hD.lt, by rw [List.length_take]; omega, bcall H.out.below k2 (by omega), ((hD.below hb2 hD.lt).seg).take _, hA, H.out.q.below k2 H.out.q.lt, H.out.r.below k2 H.out.r.lt, H.out.q0.below k2 H.out.q0.lt, H.out.r0.below k2 H.out.r0.lt⟩
  have HL0 := Lib.hid (DivIn.start (p := 2 ^ s) (Nat.two_pow_pos s) hlx hdx hly hdy hm4 htop hlA hdA hvA)
  have hlM : (D.take (m + 1)).length = m + 1 := by rw [List.length_take]; omega
  have hdM : Dig (D.take (m + 1)) := hdD.take _
  have Hp := Lib.hid (Nat.two_pow_pos s)
  clear H hlz hcell hY1 hX1 hb1 hb2 k0 k1 k2 hD hA hlA hdA hvA hdD hlD hvD hsl hgd hgd' hN htop
  generalize D.take (m + 1) = M at *
  generalize w1.heap.size = gl at *
  have HDD := Lib.hid hDD
  have HW := Lib.hid hDW
  have HdM := Lib.hid hdM
  have HlM := Lib.hid hlM
  clear hDD hDW hdM hlM
  generalize hN : w.heap.size = N at *
  go_wp2
  go_loopw [13, 14, 15, 16] (fun i _ _ _ wr => ∃ (k : Nat) (A Q : List Nat), k ≤ 8 - m ∧ i = .int .i64 ((k : Int) - 1) ∧ DivIn (val X * 2 ^ s) (val Y * 2 ^ s) (m + 1) k A Q ∧ DivW w N (N + 6) gl M A Q wr) (fun i _ _ _ _ => (intOf i + 1).toNat)
  case atStart => exact ⟨8 - m, A, _, Nat.le_refl _, by congr 1; omega, HL0.out, HW.out⟩
  case round =>
    obtain ⟨k, A, Q, hk, rfl, hL, hW⟩ := hrel
    have HL := Lib.hid hL; have HW := Lib.hid hW
    clear hL hW HL0
    cases k with
    | zero =>
      have hYB : val Y < B ^ (m + 1) := by
        have h1 := val_lt (hdy.take (m + 1))
        rw [List.length_take, hly, Nat.min_eq_left (by omega), val_take_sz (by rw [hly]; exact Hn.out)] at h1
        exact h1
      have HYB := Lib.hid hYB
      have HL2 := Lib.hid HL.out.len
      have hn1 : (((0 : Nat) : Int) - 1) = -1 := by omega
      have hmm : ((m + 1 : Nat) : Int) = (m : Int) + 1 := by omega
      have hRZ : RemIn A s 0 [0, 0, 0, 0] := ⟨rfl, by simp [Dig, B], by simp [val, Nat.mod_one], fun j _ => nth_zeros 4 j⟩
      have HRZ := Lib.hid hRZ
      clear hYB hRZ HDD HdM HlM hk
      rw [hn1]
      go_wp2
      go_loopw [17, 96] (fun _ i wr2 => ∃ (k : Nat) (R : List Nat), k ≤ m + 1 ∧ i = .int .i64 k ∧ RemIn A s k R ∧ Below N w wr2 ∧ Has wr2 gl 22 (u64s A) ∧ Has wr2 (N + 1 + 1 + 1 + 1) 37 (u64s Q) ∧ Has wr2 (N + 1 + 1 + 1 + 1 + 1) 24 (u64s R) ∧ Has wr2 (N + 1 + 1) 37 (u64s [0, 0, 0, 0, 0, 0, 0, 0]) ∧ Has wr2 (N + 1 + 1 + 1) 24 (u64s [0, 0, 0, 0])) (fun _ i _ => m + 1 - (intOf i).toNat)
      case atStart => exact ⟨0, _, by omega, rfl, HRZ.out, HW.out.below, HW.out.l, HW.out.q, HW.out.r, HW.out.q0, HW.out.r0⟩
      case round =>
        have hgl : N + 6 < gl := HW.out.hl
        obtain ⟨k, R, hk, rfl, hR, hbel, hA, hQ, hR8, hq0, hr0⟩ := hrel
        have HR := Lib.hid hR; have Hb := Lib.hid hbel; have HA := Lib.hid hA; have HQ := Lib.hid hQ; have HR8 := Lib.hid hR8; have Hq0 := Lib.hid hq0; have Hr0 := Lib.hid hr0
        clear hR hbel hA hQ hR8 hq0 hr0 HRZ HW
        by_cases hlt : k < m + 1
        · have hd1 : decide ((k : Int) < (m : Int) + 1) = true := by simp; omega
          have hk4 : (k : Int) < 4 := by omega
          have hk9 : (k : Int) < 9 := by omega
          have hk91 : (k : Int) + 1 < 9 := by omega
          have hc1 := HA.out.cell (k := k) (by rw [HL2.out]; omega)
          have hsr : ((nth A k : Nat) : Int) / 2 ^ s = ((ud (nth A k) (2 ^ s) : Nat) : Int) := by simp [ud]
          have hc2 := HR8.out.cell (k := k) (by rw [HR.out.len]; omega)
          have hc3 := HR8.out.free k
          have hstep := Lib.hid (HR.out.step HL.out.dig hs (k := k) (by omega) (by rw [HL2.out]; omega))
          by_cases h0 : 0 < s
          · have hd2 : decide ((0 : Int) < (s : Int)) = true := by simp; omega
            have hor := bor_left (a := nth A k / 2 ^ s) (x := nth A (k + 1)) (s := 64 - s) ((Nat.div_lt_iff_lt_mul (Nat.two_pow_pos s)).2 (by rw [Nat.mul_comm, ← two64 hs]; exact HL.out.dig.get k)) (by omega)
            have HR9 := HR8.out.set k (ud (nth A k) (2 ^ s))
            have HA9 := HA.out.other (a := ⟨N + 1 + 1 + 1 + 1 + 1, k, none⟩) (by simp; omega) (.int .u64 ((ud (nth A k) (2 ^ s) : Nat) : Int))
            have hRl := HR.out.len
            have e1 := HR9.cell (k := k) (by simp; omega)
            rw [nth_set (by omega), if_pos rfl] at e1
            have e2 := HA9.cell (k := k + 1) (by rw [HL2.out]; omega)
            have e3 := HR9.free k
            have hor2 : bits BinOp.or IntKind.u64 ((ud (nth A k) (2 ^ s) : Nat) : Int) (IntKind.u64.wrap (((nth A (k + 1) : Nat) : Int) * 2 ^ (64 - s))) = ((uadd (ud (nth A k) (2 ^ s)) (mL (nth A (k + 1)) (2 ^ (64 - s))) : Nat) : Int) := hor
            have hfin : (R.set k (ud (nth A k) (2 ^ s))).set k (uadd (ud (nth A k) (2 ^ s)) (mL (nth A (k + 1)) (2 ^ (64 - s)))) = R.set k (shrd A s k) := by
              rw [List.set_set]; unfold shrd; rw [if_pos h0]; rfl
            have Hfin := Lib.hid hfin
            have HR10 := Lib.hid HR9
            have Hb9 : Hid (Below N w (wr.setCell ⟨N + 1 + 1 + 1 + 1 + 1, k, none⟩ (.int .u64 ((ud (nth A k) (2 ^ s) : Nat) : Int)))) := Lib.hid (Hb.out.setCell (by simp; omega) _)
            have HA10 := Lib.hid HA9
            have HQ10 := Lib.hid (HQ.out.other (a := ⟨N + 1 + 1 + 1 + 1 + 1, k, none⟩) (by simp) (.int .u64 ((ud (nth A k) (2 ^ s) : Nat) : Int)))
            have Hq10 := Lib.hid (Hq0.out.other (a := ⟨N + 1 + 1 + 1 + 1 + 1, k, none⟩) (by simp) (.int .u64 ((ud (nth A k) (2 ^ s) : Nat) : Int)))
            have Hr10 := Lib.hid (Hr0.out.other (a := ⟨N + 1 + 1 + 1 + 1 + 1, k, none⟩) (by simp) (.int .u64 ((ud (nth A k) (2 ^ s) : Nat) : Int)))
            clear hfin HR9 HA9 hor
            go_wp2
            generalize wr.setCell ⟨N + 1 + 1 + 1 + 1 + 1, k, none⟩ (.int .u64 ((ud (nth A k) (2 ^ s) : Nat) : Int)) = V at *
            clear hc1 hc2 hc3
            go_region
            go_wp2
            exact ⟨⟨k + 1, R.set k (shrd A s k), by omega, by go_num, hstep.out, (Hb9.out.setCell (by simp; omega) _).drew, (HA10.out.other (by simp; omega) _).drew, (HQ10.out.other (by simp) _).drew, by rw [← Hfin.out]; exact (HR10.out.set k _).drew, (Hq10.out.other (by simp) _).drew, (Hr10.out.other (by simp) _).drew⟩, by simp [intOf]; omega⟩
          · have hd2 : decide ((0 : Int) < (s : Int)) = false := by simp; omega
            obtain rfl : s = 0 := by omega
            go_wp2
            exact ⟨⟨k + 1, R.set k (nth A k), by omega, by go_num, hstep.out, Hb.out.setCell (by simp; omega) _, HA.out.other (by simp; omega) _, HQ.out.other (by simp) _, HR8.out.set k _, Hq0.out.other (by simp) _, Hr0.out.other (by simp) _⟩, by simp [intOf]; omega⟩
        · obtain rfl : k = m + 1 := by omega
          have hd1 : decide ((m : Int) + 1 < (m : Int) + 1) = false := by simp
          go_wp2
          have HQd := HQ.out.drew; have HRd := HR8.out.drew
          refine wp_region_ord (fun u => Has u (N + 1 + 1 + 1 + 1) 37 (u64s Q) ∧ Has u (N + 1 + 1 + 1 + 1 + 1) 24 (u64s R)) [(true, 0), (true, 1), (false, 2), (false, 3), (true, 4)] (by kernel_rfl) (by kernel_rfl) rfl (by kernel_rfl) ?_
          refine O_read rfl ⟨HQd, HRd⟩ (fun K' hK => ?_)
          refine R_load8s rfl _ rfl _ rfl 37 _ (fun _ h => h.1) HL.out.qlen ?_
          go_simp
          refine hK _ ?_
          clear hK K'
          refine O_read rfl ⟨HQd, HRd⟩ (fun K' hK => ?_)
          refine R_load4s rfl _ rfl _ rfl 24 _ (fun _ h => h.2) HR.out.len ?_
          go_simp
          refine hK _ ?_
          clear hK K'
          refine O_call rfl (fun K' hK => ?_)
          refine R_store8 rfl _ _ rfl (N + 1 + 1) rfl _ rfl 37 _ Hq0.out.drew HL.out.qlen rfl ?_
          intro w4 hw4 ho4
          go_simp
          have HQ1 := HQd.only ho4 (by omega); have HR1 := HRd.only ho4 (by omega)
          refine hK _ _ ⟨HQ1, HR1⟩ ?_
          clear hK K'
          refine O_call rfl (fun K' hK => ?_)
          refine R_store4 rfl _ _ rfl (N + 1 + 1 + 1) rfl _ rfl 24 _ (Hr0.out.drew.only ho4 (by omega)) HR.out.len rfl ?_
          intro w5 hw5 ho5
          go_simp
          have HQ2 := HQ1.only ho5 (by omega); have HR2 := HR1.only ho5 (by omega)
          refine hK _ _ ⟨HQ2, HR2⟩ ?_
          clear hK K'
          refine O_read rfl ⟨HQ2, HR2⟩ (fun K' hK => ?_); refine R_pure ?_ rfl (fun w => ?_) ?_; rotate_left; (focus (first | (go_simp; rfl) | (go_simp; done))); go_simp; refine hK _ ?_; clear hK K'
          refine O_nil ?_
          go_wp2
          refine bodyPost_ret (res84t rfl rfl rfl (hw4.only ho5 (by omega)) HL.out.qlen hw5 HR.out.len) rfl ⟨?_, by rw [hN]; exact ho5.below (ho4.below Hb.out.drew (by omega)) (by omega)⟩
          obtain ⟨a1, a2⟩ := div_end (p := 2 ^ s) rfl HYB.out HL.out HR.out
          have b1 := eq_digs HL.out.qlen HL.out.qdig
          have b2 := eq_digs HR.out.len HR.out.dig
          rw [a1] at b1
          rw [a2] at b2
          rw [b1, b2]
          rfl
    | succ o =>
      have ho8 : o < 8 - m := by omega
      have hi1 : (((o + 1 : Nat) : Int) - 1) = (o : Int) := by omega
      have hi2 : (o : Int) + ((m : Int) + 1) < 9 := by omega
      have hi3 : (o : Int) + (m : Int) < 9 := by omega
      rw [hi1]
      go_wp2
      have hwr1 : IntKind.i64.wrap ((o : Int) + ((m : Int) + 1)) = (o : Int) + ((m : Int) + 1) := by rw [IntKind.wrap_i64]; omega
      have hwr2 : IntKind.i64.wrap ((o : Int) + (m : Int)) = (o : Int) + (m : Int) := by rw [IntKind.wrap_i64]; omega
      have hnn1 : (0 : Int) ≤ (o : Int) + ((m : Int) + 1) := by omega
      have hnn2 : (0 : Int) ≤ (o : Int) + (m : Int) := by omega
      have htn1 : ((o : Int) + ((m : Int) + 1)).toNat = o + (m + 1) := by omega
      have htn2 : ((o : Int) + (m : Int)).toNat = o + m := by omega
      have hwr3 : IntKind.i64.wrap (m : Int) = (m : Int) := by rw [IntKind.wrap_i64]; omega
      have hmm1 : (m : Int) < (m : Int) + 1 := by omega
      have q0 : Kp wr wr.drew := Kp.start wr
      have hmi2 : (o : Int) + ((m : Int) + 1) - 1 = (o : Int) + (m : Int) := by omega
      refine wp_region_ord (Kp wr) [(true, 0), (true, 1), (true, 2), (true, 3), (true, 4), (true, 5), (true, 6), (true, 7), (true, 8), (true, 9), (true, 10), (true, 11), (true, 12), (true, 13), (true, 14), (true, 15), (true, 16), (true, 17), (false, 18), (true, 19)] (by kernel_rfl) (by kernel_rfl) rfl (by kernel_rfl) ?_
      repeat (first | (refine O_read rfl (by assumption) (fun K' hK => ?_); refine R_read (.int .u64 ((nth A (o + (m + 1)) : Nat) : Int)) rfl (fun w hS => ?_) ?_; (focus (have hc := (HW.out.l.below hS HW.out.l.lt).cell (k := o + (m + 1)) (by rw [HL.out.len]; omega); go_simp; done)); go_simp; refine hK _ ?_; clear hK K') | (refine O_read rfl (by assumption) (fun K' hK => ?_); refine R_read (.int .u64 ((nth A (o + m) : Nat) : Int)) rfl (fun w hS => ?_) ?_; (focus (have hc := (HW.out.l.below hS HW.out.l.lt).cell (k := o + m) (by rw [HL.out.len]; omega); go_simp; done)); go_simp; refine hK _ ?_; clear hK K') | (refine O_read rfl (by assumption) (fun K' hK => ?_); refine R_read (.int .u64 ((nth M m : Nat) : Int)) rfl (fun w hS => ?_) ?_; (focus (have hc := (HW.out.d.below hS (HW.out.d.lt HW.out.hM)).at (j := m) (by rw [HlM.out]; omega); go_simp; done)); go_simp; refine hK _ ?_; clear hK K') | (refine O_read rfl (by assumption) (fun K' hK => ?_); refine R_pure ?_ rfl (fun w => ?_) ?_; rotate_left; (focus (first | (go_simp; rfl) | (go_simp; done))); go_simp; refine hK _ ?_; clear hK K'))
      refine O_call rfl (fun K' hK => ?_)
      have hgs : val A / B ^ o / val M ≤ guessN (nth A (o + (m + 1))) (nth A (o + (m + 1) - 1)) (nth M (m + 1 - 1)) ∧ guessN (nth A (o + (m + 1))) (nth A (o + (m + 1) - 1)) (nth M (m + 1 - 1)) < B :=
        DivIn.guess (V := val X * 2 ^ s) (Q := Q) (by rw [HDD.out.1]; exact HL.out) HlM.out HdM.out (by omega) (by omega) HDD.out.2
      rw [Nat.add_sub_cancel, show o + (m + 1) - 1 = o + m by omega, HDD.out.1] at hgs
      refine R_callc 50 _ rfl (fun w => ?_) (guess_any (nth A (o + (m + 1))) (nth A (o + m)) (nth M m) (HL.out.dig.get _) (HdM.out.get _) _) ?_
      · go_simp; done
      rintro e w1 ⟨rfl, hb1⟩
      have q1 : Kp wr w1 := bcall q0 hb1 (q0).size
      refine ⟨_, rfl, hK _ _ q1 ?_⟩
      clear hK K'
      go_simp
      generalize guessN (nth A (o + (m + 1))) (nth A (o + m)) (nth M m) = x at *
      repeat (refine O_read rfl (by assumption) (fun K' hK => ?_); refine R_pure ?_ rfl (fun w => ?_) ?_; rotate_left; (focus (first | (go_simp; rfl) | (go_simp; done))); go_simp; refine hK _ ?_; clear hK K')
      refine O_nil ?_
      have HW1 := Lib.hid (HW.out.keep q1)
      have Hg := Lib.hid hgs
      clear q0 q1 hb1 hgs
      have hD0 : 0 < val Y * 2 ^ s := by
        rw [← HDD.out.1]
        have h1 := val_ge HdM.out (k := m) (by rw [HlM.out]; omega)
        have h2 := Nat.mul_pos HDD.out.2 (Bpow_pos m)
        omega
      have hDB : val Y * 2 ^ s ≤ B ^ (m + 1) := by
        rw [← HDD.out.1]
        have h1 := val_lt HdM.out
        rw [HlM.out] at h1
        omega
      have HTop := Lib.hid (fun (p : Nat) (hp : o + (m + 1) < p) => nth_top HL.out.dig (HL.out.under hDB) (show o + (m + 1) + 1 ≤ p from hp))
      go_wp2_with (go_at_call 51; fail)
      refine (take_any A M x gl o (9 - o) (9 - o) (N + 6) (m + 1) (m + 1 + 1) 22 HL.out.dig HdM.out Hg.out.2 HlM.out (by rw [HL.out.len]; omega) (by omega) (by omega) (by have := HW1.out.hg; have := HW1.out.hl; omega) w1 HW1.out.l HW1.out.d).mono ?_
      rintro e w2 ⟨br, hbr, rfl, ho2, A1, hA1, hlA1, hdA1, hvA1, hrA1⟩
      have HW2 := Lib.hid (HW1.out.turn ho2 hA1)
      have HT := Lib.hid (show TakenIn (val A) (val Y * 2 ^ s) o (m + 1) x br A1 from
        ⟨by rw [hlA1, HL.out.len], hdA1, hbr, Hg.out.2, by rw [← HDD.out.1]; exact hvA1, Hg.out.1, fun p hp => by rw [hrA1 p hp]; exact HTop.out p hp⟩)
      clear ho2 hA1 hlA1 hdA1 hvA1 hrA1 hbr HW1 HW HTop Hg
      go_wp2
      go_loopw [14, 15, 16] (fun xx ov _ wr2 => ∃ (x' br : Nat) (A1 : List Nat), xx = .int .u64 x' ∧ ov = .bool (br == 1) ∧ TakenIn (val A) (val Y * 2 ^ s) o (m + 1) x' br A1 ∧ DivW w N (N + 6) gl M A1 Q wr2) (fun xx _ _ _ => (intOf xx).toNat)
      case atStart => exact ⟨x, br, A1, rfl, rfl, HT.out, HW2.out⟩
      case round =>
        obtain ⟨x', br, A1, rfl, rfl, hT, hW⟩ := hrel
        have HT := Lib.hid hT; have HW := Lib.hid hW
        clear hT hW HW2 
        by_cases hb1 : br = 1
        · subst hb1
          have hb2 : ((1 : Nat) == 1) = true := rfl
          have hc1 := HW.out.l.cell (k := o + (m + 1)) (by rw [HT.out.len]; omega)
          have hne : N + 6 ≠ gl := by have := HW.out.hl; omega
          have hxB := HT.out.xlt
          go_wp2_with (go_at_call 52; fail)
          refine (give_any A1 M gl o (9 - o) (9 - o) (N + 6) (m + 1) (m + 1 + 1) 22 HT.out.dig HdM.out HlM.out (by rw [HT.out.len]; omega) (by omega) (by omega) hne wr HW.out.l HW.out.d).mono ?_
          rintro e w3 ⟨rfl, ho3, A2, hA2, hlA2, hdA2, hvA2, hrA2⟩
          have HW3 := Lib.hid (HW.out.turn ho3 hA2)
          obtain ⟨hx1, hT3⟩ := HT.out.give hD0 hlA2 hdA2 (by rw [← HDD.out.1]; exact hvA2) hrA2
          have HT3 := Lib.hid hT3
          have hwp := wrap_pred hx1 hxB
          have HM := Lib.hid (show x' - 1 < x' by omega)
          have hc2 := hA2.cell (k := o + (m + 1)) (by rw [hlA2, HT.out.len]; omega)
          clear hT3 hx1 ho3 hA2 hlA2 hdA2 hvA2 hrA2 hne hxB
          generalize x' - 1 = x2 at *
          go_wp2
          refine ⟨⟨x2, if nth A1 (o + (m + 1)) ≤ nth A2 (o + (m + 1)) then 1 else 0, A2, rfl, ?_, HT3.out, HW3.out⟩, by have := HM.out; simp only [intOf, Int.toNat_natCast]; exact this⟩
          split <;> simp_all
        · obtain rfl : br = 0 := by have := HT.out.bor; omega
          have hb2 : ((0 : Nat) == 1) = false := rfl
          have hc1 := HW.out.q.cell (k := o) (by rw [HL.out.qlen]; omega)
          have hc2 := HW.out.q.free o
          have ho8i : (o : Int) < 8 := by omega
          have HE := Lib.hid (TakenIn.done HL.out HT.out hD0 (by omega))
          have HQ := Lib.hid (HW.out.setQ o x')
          go_wp2
          exact ⟨⟨o, A1, Q.set o x', by omega, rfl, HE.out, HQ.out⟩, by simp [intOf]⟩
end Go.Proofs.Ytbklepgbieohiaa
