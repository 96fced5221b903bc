/- LimbTexts, the given statement: whatever the number and the text are, the function returns true, and both read as before. No condition. -/
import Derived.Test.YtbklepgbieohiaaF2
import Derived.Test.YtbklepgbieohiaaA8
namespace Go.Proofs.Ytbklepgbieohiaa
open Go.ChangeShapes Go.WideShapes Go.ChangeAt Go.RowKit

theorem psOut_cases (L : List Nat) : (∃ e, psOut L = .tuple #[A4 0, .int .i64 e] ∧ e ≠ 0) ∨ (psOut L = .tuple #[A4 (numH L), .int .i64 0] ∧ headBad L = false ∧ allHex L = true ∧ L.length ≤ 64) := by
  unfold psOut
  split
  · exact Or.inl ⟨2, rfl, by decide⟩
  · rename_i h
    split
    · exact Or.inl ⟨3, rfl, by decide⟩
    · rename_i h2
      simp at h
      exact Or.inr ⟨rfl, h.1, h.2, by omega⟩

theorem limbTexts_any (x : Nat) (hx : x < B ^ 4) (M : List Nat) (hM : Byt M) (w : World) :
    Calls Try.prog 6 #[A4 x, .string (str M)] w fun e w' => e = .returned (.bool true) ∧ Below w.heap.size w w' := by
  have hMt : Byt (M.take (min M.length 200)) := fun y hy => hM y (List.mem_of_mem_take hy)
  have hlm : (M.take (min M.length 200)).length ≤ 1000 := by rw [List.length_take]; omega
  have hk : min ((str M).size : Int) 200 = ((min M.length 200 : Nat) : Int) := by rw [str_size]; omega
  have hs := slice_to M .i64 (min M.length 200) (by omega)
  have h29 : ∀ w' v, BV w' v (bytesOf (digs 4 x) 32) → Calls Try.prog 29 #[v] w' fun e w'' => e = .returned (.tuple #[A4 x, .int .i64 0]) ∧ Below w'.heap.size w' w'' := fun w' v h => by
    rw [← rdOut_bytes x hx]; exact read_any v _ (bytes_byt _ _) w' h
  have hlen : (textN x (hexn (nlen x))).length ≤ 1000 := by
    rw [textN_len]
    apply Nat.le_of_not_lt
    intro h
    have h2 := hexn_le (x := x) (by omega)
    have hB : B ^ 4 = 16 ^ 64 := by decide
    have h4 : (16 : Nat) ^ 64 ≤ 16 ^ (hexn (nlen x) - 1) := Nat.pow_le_pow_right (by decide) (by omega)
    omega
  have hbt : Byt (textN x (hexn (nlen x))) := fun y hy => by
    obtain ⟨j, hj, rfl⟩ := List.mem_iff_getElem.1 hy
    rw [textN_len] at hj
    rw [← nth_lt, textN_nth hj]
    unfold hexd
    have := Nat.mod_lt (x / 16 ^ (hexn (nlen x) - 1 - j)) (show 0 < 16 by decide)
    split <;> omega
  have h32 : ∀ w', Calls Try.prog 32 #[.string (str (textN x (hexn (nlen x))))] w' fun e w'' => e = .returned (.tuple #[A4 x, .int .i64 0]) ∧ Below w'.heap.size w' w'' := fun w' => by
    rw [← psOut_text x hx]; exact parse_any _ hbt hlen w'
  have hp : ∀ w', Calls Try.prog 32 #[.string (str (M.take (min M.length 200)))] w' fun e w'' => e = .returned (psOut (M.take (min M.length 200))) ∧ Below w'.heap.size w' w'' := fun w' => parse_any _ hMt hlm w'
  rcases psOut_cases (M.take (min M.length 200)) with ⟨e, he, hne⟩ | ⟨he, hh, ha, hl⟩
  · rw [he] at hp
    exact texts_bad (digs 4 x) (digs 4 0) _ (str M) _ _ e _ (digs_length 4 _) (digs_length 4 _) hk hs (bytes_core _ (digs_length 4 x) (digs_dig 4 x)) h29 (text_any x hx) h32 hp hne w
  · rw [he] at hp
    have hn := numH_lt (allHex_iff.1 ha) _ (Nat.le_refl _)
    rw [List.take_length] at hn
    have hB : B ^ 4 = 16 ^ 64 := by decide
    have hz := text_any (numH (M.take (min M.length 200))) (by rw [hB]; exact Nat.lt_of_lt_of_le hn (Nat.pow_le_pow_right (by decide) hl))
    rw [text_of_read hh ha] at hz
    exact texts_good (digs 4 x) (digs 4 _) _ (str M) _ _ 0 _ (digs_length 4 _) (digs_length 4 _) hk hs (bytes_core _ (digs_length 4 x) (digs_dig 4 x)) h29 (text_any x hx) h32 hp rfl hz w

set_option maxRecDepth 100000 in
theorem limbTexts_lifted (os : Os) (started : os.Started) (H : Type) (enc : TypeId × Value → H) :
    ReturnsInHanded {} Try.checked os 6 .any (Rows.limbTextsSpec.pre6 enc Try.prog Try.f6 Rows.limbTextsRow.domain false) (Rows.limbTextsSpec.post enc Try.prog Try.f6 false true false false) := by
  refine returnsInHanded_of_change (C := Try.checked) Try.own started (by kernel_rfl) Try.func6
    (ChangeSpec.witness6 (enc := enc) (C := Try.checked) false ⟨#[], #[.agg #[.int .u64 0, .int .u64 0, .int .u64 0, .int .u64 0], .string ByteArray.empty], []⟩ 8 (by kernel_rfl) (by kernel_rfl) (by kernel_rfl) (by kernel_rfl)) ?_
  intro W base args ds gs before hval0 hW hcnd _
  have hval : ∀ (j : Nat) t v, Try.f6.params[j]? = some t → args[j]? = some v → Value.okWide Try.prog W .any base t v := hval0
  have hW' := hW
  obtain ⟨p, q, hA0, hV, rfl, hfz, hnd⟩ := hW
  have hA : DataW.TrodAll enc Try.prog W 0 (fun _ => true) true Try.f6.params.toList args.toList ds p := hA0
  rw [Try.params6] at hA hval
  obtain ⟨v0, v1, d0, d1, p0, p1, rfl, rfl, rfl, h0, h1⟩ := trodAll_two hA
  obtain ⟨rfl, rfl⟩ := trodVars_none hV
  have l0 : ∀ x ∈ p0, x.block < W.heap.size := by obtain ⟨m, hm⟩ := h0; exact DataW.trod_lt m _ _ _ hm
  have l1 : ∀ x ∈ p1, x.block < W.heap.size := by obtain ⟨m, hm⟩ := h1; exact DataW.trod_lt m _ _ _ hm
  obtain ⟨x0, hx0, rfl⟩ := open_digits und24 cells24 (hval 0 24 v0 rfl rfl) h0
  obtain ⟨s1, rfl, hs1⟩ := open_str (hval 1 9 v1 rfl rfl) h1
  clear hA0 hval0
  refine (limbTexts_any x0 hx0 s1 hs1 W).mono fun e W' ⟨he, bel⟩ => ?_
  subst he
  exact ⟨_, rfl, _, _, _, [], _, [], hW', trodAll_mk1 (shut_bool Try.underlying4 _), (trodAll_cons_mk (Below.trod Try.laidOut (by kernel_rfl) (of_decide_eq_true (by kernel_rfl)) h0 bel l0) (trodAll_cons_mk (Below.trod Try.laidOut (by kernel_rfl) (of_decide_eq_true (by kernel_rfl)) h1 bel l1) trodAll_mk0)), rfl, bel.frame _, fun h => by cases h⟩

theorem limbTexts_holds : Rows.LimbTextsSaid :=
  OpenClaim.holds_of_wide 6 Try.f6 rfl rfl rfl rfl rfl rfl rfl ⟨rfl, rfl, rfl, rfl, rfl⟩ rfl rfl rfl rfl rfl (by kernel_rfl) Try.func6 (by kernel_rfl)
    (of_decide_eq_true (by kernel_rfl)) (by unfold Func.isWrapper; first | (rw [if_pos (by decide +kernel)]; kernel_rfl) | (rw [if_neg (by decide +kernel)]; exact ⟨rfl, rfl⟩))
    (fun os started H enc _ => limbTexts_lifted os started H enc)

#print axioms limbTexts_holds
end Go.Proofs.Ytbklepgbieohiaa
