/- LimbReads, the given statement: whatever the bytes and the text are, the function returns true, and both read as before. No condition. -/
import Derived.Test.YtbklepgbieohiaaF2
namespace Go.Proofs.Ytbklepgbieohiaa
open Go.ChangeShapes Go.WideShapes Go.ChangeAt Go.RowKit

theorem rdOut_form (L : List Nat) : ∃ X e, X.length = 4 ∧ rdOut L = .tuple #[.agg (u64s X), .int .i64 e] := by
  unfold rdOut
  split
  · exact ⟨_, _, digs_length 4 0, rfl⟩
  · exact ⟨_, _, digs_length 4 (rdn L), rfl⟩

theorem psOut_form (L : List Nat) : ∃ X e, X.length = 4 ∧ psOut L = .tuple #[.agg (u64s X), .int .i64 e] := by
  unfold psOut
  split
  · exact ⟨_, _, digs_length 4 0, rfl⟩
  · split
    · exact ⟨_, _, digs_length 4 0, rfl⟩
    · exact ⟨_, _, digs_length 4 (numH L), rfl⟩

theorem Byt.take {L : List Nat} (h : Byt L) (k : Nat) : Byt (L.take k) := fun x hx => h x (List.mem_of_mem_take hx)

theorem BX.cut {w : World} {a : Option Addr} {n c m : Nat} {L : List Nat} (h : BX w (.slice a n c) L) (hn : L.length = n) (hm : m ≤ n) : BX w (.slice a m c) (L.take m) := by
  by_cases h0 : m = 0
  · subst h0; exact Or.inr ⟨by simp, a, c, rfl⟩
  rcases h with (⟨h1, h2⟩ | ⟨b, off, c', h1, h2⟩) | ⟨h1, _⟩
  · subst h2; simp at hn; omega
  · simp only [Value.slice.injEq] at h1
    obtain ⟨rfl, _, rfl⟩ := h1
    refine Or.inl (Or.inr ⟨b, off, c, by rw [List.length_take, Nat.min_eq_left (by omega)], fun j hj => ?_⟩)
    rw [List.length_take] at hj
    rw [h2 j (by omega)]
    congr 3
    simp [nth, List.getElem?_take, show j < m by omega]
  · subst h1; simp at hn; omega

theorem limbReads_any (a : Option Addr) (n c : Nat) (L M : List Nat) (hb : Byt L) (hn : L.length = n) (hc : n ≤ c) (hM : Byt M) (w : World) (hv : BX w (.slice a n c) L) :
    Calls Try.prog 5 #[.slice a n c, .string (str M)] w fun e w' => e = .returned (.bool true) ∧ Below w.heap.size w w' := by
  obtain ⟨X, e1, hlx, hX⟩ := rdOut_form (L.take (min n 100))
  obtain ⟨Y, e2, hly, hY⟩ := psOut_form (M.take (min M.length 200))
  have hbt := hb.take (min n 100)
  have hMt := hM.take (min M.length 200)
  have hll : (L.take (min n 100)).length ≤ 1000 := by rw [List.length_take]; omega
  have hlm : (M.take (min M.length 200)).length ≤ 1000 := by rw [List.length_take]; omega
  refine reads_core X Y e1 e2 M (M.take (min M.length 200)) (L.take (min n 100)) a n c (min n 100) hlx hly rfl (by omega) rfl (fun w' h => copy_bx _ _ hll w' h) ?_ ?_ ?_ ?_ w (hv.cut hn (by omega))
  · intro w' v h; rw [← hX]; exact read_any v _ hbt w' h
  · intro w' v h; rw [← hX]; exact rread_bx v _ hbt w' h
  · intro w'; rw [← hY]; exact parse_any _ hMt hlm w'
  · intro w'; rw [← hY]; exact rparse_any _ hMt hlm w'

set_option maxRecDepth 100000 in
theorem limbReads_lifted (os : Os) (started : os.Started) (H : Type) (enc : TypeId × Value → H) :
    ReturnsInHanded {} Try.checked os 5 .any (Rows.limbReadsSpec.pre6 enc Try.prog Try.f5 Rows.limbReadsRow.domain false) (Rows.limbReadsSpec.post enc Try.prog Try.f5 false true false false) := by
  refine returnsInHanded_of_change (C := Try.checked) Try.own started (by kernel_rfl) Try.func5
    (ChangeSpec.witness6 (enc := enc) (C := Try.checked) false ⟨#[], #[.slice none 0 0, .string ByteArray.empty], []⟩ 8 (by kernel_rfl) (by kernel_rfl) (by kernel_rfl) (by kernel_rfl)) ?_
  intro W base args ds gs before hval0 hW hcnd _
  have hval : ∀ (j : Nat) t v, Try.f5.params[j]? = some t → args[j]? = some v → Value.okWide Try.prog W .any base t v := hval0
  have hW' := hW
  obtain ⟨p, q, hA0, hV, rfl, hfz, hnd⟩ := hW
  have hA : DataW.TrodAll enc Try.prog W 0 (fun _ => true) true Try.f5.params.toList args.toList ds p := hA0
  rw [Try.params5] at hA hval
  obtain ⟨v0, v1, d0, d1, p0, p1, rfl, rfl, rfl, h0, h1⟩ := trodAll_two hA
  obtain ⟨rfl, rfl⟩ := trodVars_none hV
  have l0 : ∀ x ∈ p0, x.block < W.heap.size := by obtain ⟨m, hm⟩ := h0; exact DataW.trod_lt m _ _ _ hm
  have l1 : ∀ x ∈ p1, x.block < W.heap.size := by obtain ⟨m, hm⟩ := h1; exact DataW.trod_lt m _ _ _ hm
  obtain ⟨a0, n0, c0, L0, rfl, hb0, hn0, hc0, hv0⟩ := open_byts (hval 0 28 v0 rfl rfl) h0
  obtain ⟨s1, rfl, hs1⟩ := open_str (hval 1 9 v1 rfl rfl) h1
  clear hA0 hval0
  refine (limbReads_any a0 n0 c0 L0 s1 hb0 hn0 hc0 hs1 W hv0).mono fun e W' ⟨he, bel⟩ => ?_
  subst he
  exact ⟨_, rfl, _, _, _, [], _, [], hW', trodAll_mk1 (shut_bool Try.underlying4 _), (trodAll_cons_mk (Below.trod Try.laidOut (by kernel_rfl) (of_decide_eq_true (by kernel_rfl)) h0 bel l0) (trodAll_cons_mk (Below.trod Try.laidOut (by kernel_rfl) (of_decide_eq_true (by kernel_rfl)) h1 bel l1) trodAll_mk0)), rfl, bel.frame _, fun h => by cases h⟩

theorem limbReads_holds : Rows.LimbReadsSaid :=
  OpenClaim.holds_of_wide 5 Try.f5 rfl rfl rfl rfl rfl rfl rfl ⟨rfl, rfl, rfl, rfl, rfl⟩ rfl rfl rfl rfl rfl (by kernel_rfl) Try.func5 (by kernel_rfl)
    (of_decide_eq_true (by kernel_rfl)) (by unfold Func.isWrapper; first | (rw [if_pos (by decide +kernel)]; kernel_rfl) | (rw [if_neg (by decide +kernel)]; exact ⟨rfl, rfl⟩))
    (fun os started H enc _ => limbReads_lifted os started H enc)

#print axioms limbReads_holds
end Go.Proofs.Ytbklepgbieohiaa
