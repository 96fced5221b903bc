/- append of bytes (from nil too) into one's own slice; the walk of wire.cut on its good way. -/
import Derived.Test.YtbmhmaejakjieaaDoorXa
import Derived.Test.YtbmhmaejakjieaaDoorGa
import Derived.Laws.OwnMore
namespace Go.Proofs.YtbmhmaejakjieaaDoor
open Go.RowKit

theorem run_app (w : World) (ty : TypeId) (N : Nat) (v x : Value) (L M : List Nat) (hown : OwnB w N v L) (hx : BV w x M) (hlen : L.length + M.length ≤ 1099511627776) (hbase : N ≤ w.heap.size) :
    ∃ v' w', (Builtin.append_ #[23, 23] ty #[v, x]).run Tryd.prog w = .ok v' w' ∧ OwnB w' N v' (L ++ M) ∧ w.grownBy w' v.ownBlock := by
  obtain ⟨i0, hi, hz0, hz1, hz2⟩ := info_parts info5
  rcases hx with ⟨rfl, rfl⟩ | ⟨g, off, c, rfl, hseg⟩
  · refine ⟨v, w, run_append_owned_none (P := Tryd.prog) w N 23 ty 5 i0 1 und23 hi v L.length _ hown, ?_, ⟨rfl, rfl, rfl, Nat.le_refl _, fun _ _ _ => rfl⟩⟩
    rw [List.append_nil]; exact hown
  · have hnews : ∀ j u, (M.map fun n => Value.int .u8 ((n : Nat) : Int))[j]? = some u → w.cell? ((⟨g, off, none⟩ : Addr).add j) = some u := by
      intro j u hu
      have hj : j < M.length := by
        rcases Nat.lt_or_ge j M.length with h1 | h1
        · exact h1
        · simp [List.getElem?_eq_none (show (M.map fun n => Value.int .u8 ((n : Nat) : Int)).length ≤ j by simpa using h1)] at hu
      have hadd : (⟨g, off, none⟩ : Addr).add j = ⟨g, off + j, none⟩ := by unfold Addr.add; split <;> simp_all
      rw [hadd, hseg j hj]
      simp [nth, List.getElem?_eq_getElem hj] at hu ⊢
      exact hu
    have hone : ∀ u ∈ (M.map fun n => Value.int .u8 ((n : Nat) : Int)), u.oneCell' = true := by
      intro u hu
      obtain ⟨n, _, rfl⟩ := List.mem_map.1 hu
      rfl
    obtain ⟨v', w', hr, h2, h3, _⟩ := run_append_own (P := Tryd.prog) w N 23 ty 5 i0 (.int .u8 0) 1 1 und23 hi hz0 hz1 hz2 rfl (by decide) v L.length _ hown ⟨g, off, none⟩ M.length c
      (M.map fun n => Value.int .u8 ((n : Nat) : Int)) (by simp) hnews hone (by unfold maxLen; omega) (by omega) hbase
    refine ⟨v', w', hr, ?_, h3⟩
    unfold OwnB
    rw [List.length_append, List.map_append]
    exact h2

section
variable {ops : Array Oper} {rest : List Oper} {o : Oper} {a : Act} {w : World} {Q : Exit → Act → World → Prop} {K' : Act → World → Prop}

theorem appB (hgd : o.guard = none) (s x : Operand) (ho : o.op = .call { callee := .builtin .append, args := #[s, x], argTypes := #[23, 23] })
    (N : Nat) (v u : Value) (L M : List Nat) (hs : a.eval s = v) (hx : a.eval x = u) (hown : OwnB w N v L) (hu : BV w u M) (hlen : L.length + M.length ≤ 1099511627776) (hbase : N ≤ w.heap.size)
    (h : ∀ v' w', OwnB w' N v' (L ++ M) → w.grownBy w' v.ownBlock → wpList Tryd.prog ops Q rest (a.put o.dst v') w') : wpList Tryd.prog ops Q (o :: rest) a w := by
  obtain ⟨v', w', hr, h2, h3⟩ := run_app w o.type N v u L M hown hu hlen hbase
  refine wpList_plain hgd fun K hK => ?_
  unfold Oper.wp execOp
  simp only [ho, resolve, invoke, builtin, Sem.run_bind, Sem.run_pure, Result.andThen_ok, List.map_toArray, List.map_cons, List.map_nil, hs, hx, hr]
  exact hK _ _ (h v' w' h2 h3)

theorem R_appB (hw : Region.wanted o (yielded ops a.tmps) = true) (s x : Operand) (ho : o.op = .call { callee := .builtin .append, args := #[s, x], argTypes := #[23, 23] })
    (N : Nat) (v u : Value) (L M : List Nat) (hs : a.eval s = v) (hx : a.eval x = u) (hown : OwnB w N v L) (hu : BV w u M) (hlen : L.length + M.length ≤ 1099511627776) (hbase : N ≤ w.heap.size)
    (h : ∀ v' w', OwnB w' N v' (L ++ M) → w.grownBy w' v.ownBlock → K' (a.put o.dst v') w') : opS Tryd.prog ops o K' a w := by
  obtain ⟨v', w', hr, h2, h3⟩ := run_app w o.type N v u L M hown hu hlen hbase
  refine .inl ⟨hw, ?_⟩
  unfold execOp
  simp only [ho, resolve, invoke, builtin, Sem.run_bind, Sem.run_pure, Result.andThen_ok, List.map_toArray, List.map_cons, List.map_nil, hs, hx, hr, RunsTo]
  exact h v' w' h2 h3
end

theorem BV.below {w w' : World} {v : Value} {L : List Nat} (h : BV w v L) (hb : Below w.heap.size w w') : BV w' v L := by
  rcases h with h | ⟨b, off, c, h1, h2⟩
  · exact Or.inl h
  · refine Or.inr ⟨b, off, c, h1, ?_⟩
    intro j hj
    have hb2 : b < w.heap.size := h2.lt (by omega)
    rw [hb.cell (p := ⟨b, off + j, none⟩) hb2]
    exact h2 j hj

theorem OwnB.lit0 (w : World) (N : Nat) (h : N ≤ w.heap.size) : OwnB (w.alloc (.cells #[] 5)) N (.slice (some ⟨w.heap.size, 0, none⟩) 0 0) [] := by
  have := World.ownsRow_lit (e := 5) (size := 1) (base := N) w #[] 0 h (by decide) rfl
  exact this

/-- Bytes that may be cut further. -/
def Sl (w : World) (N : Nat) (v : Value) (L : List Nat) : Prop := ∃ b off c, v = .slice (some ⟨b, off, none⟩) L.length c ∧ L.length ≤ c ∧ b < N ∧ SegB w b off L

theorem SegB.drop {w : World} {b off : Nat} {L : List Nat} (h : SegB w b off L) (m : Nat) : SegB w b (off + m) (L.drop m) := by
  intro j hj
  rw [List.length_drop] at hj
  rw [Nat.add_assoc, h (m + j) (by omega)]
  simp [nth, List.getD_eq_getElem?_getD]

theorem SegB.take {w : World} {b off : Nat} {L : List Nat} (h : SegB w b off L) (m : Nat) : SegB w b off (L.take m) := by
  intro j hj
  rw [List.length_take] at hj
  rw [h j (by omega)]
  simp [nth, List.getD_eq_getElem?_getD, show j < m by omega]

theorem elem23 : Tryd.prog.underlying 23 = some (.slice (Tryd.prog.elem 23)) := by kernel_rfl
theorem elem23e : Tryd.prog.elem 23 = 5 := by kernel_rfl
theorem size5 (w : World) : (sizeOf 5).run Tryd.prog w = .ok 1 w := by
  obtain ⟨i0, hi, hz0, hz1, hz2⟩ := info_parts info5
  simp [sizeOf, typeInfo, hi, hz1]

theorem Sl.lo {w : World} {N : Nat} {v : Value} {L : List Nat} (h : Sl w N v L) (k : IntKind) (m : Nat) (hm : m ≤ L.length) :
    ∃ v', (Instr.sliceAt 23 v (some (.int k (m : Int))) none none).run Tryd.prog w = .ok v' w ∧ Sl w N v' (L.drop m) := by
  obtain ⟨b, off, c, rfl, h1, h2, h3⟩ := h
  refine ⟨sliced (some ⟨b, off, none⟩) m L.length c 1, ?_, ?_⟩
  · rw [run_sliceAt_slice (P := Tryd.prog) w 23 _ _ _ _ elem23, run_slice_l (P := Tryd.prog) w 23 (some ⟨b, off, none⟩) L.length c elem23 k m (by omega) (by omega), elem23e, size5]
    simp
  · unfold sliced
    by_cases e : c = m
    · have e2 : L.length = m := by omega
      refine ⟨b, off, c - m, by simp [e, e2], by simp [e2], h2, fun j hj => ?_⟩
      simp [e2] at hj
    · refine ⟨b, off + m, c - m, ?_, by simp; omega, h2, h3.drop m⟩
      have hadd : (⟨b, off, none⟩ : Addr).add (m * 1) = ⟨b, off + m, none⟩ := by unfold Addr.add; split <;> simp_all
      simp only [if_neg e, Option.map_some, hadd, List.length_drop]

theorem Sl.hi {w : World} {N : Nat} {v : Value} {L : List Nat} (h : Sl w N v L) (k : IntKind) (m : Nat) (hm : m ≤ L.length) :
    ∃ v', (Instr.sliceAt 23 v none (some (.int k (m : Int))) none).run Tryd.prog w = .ok v' w ∧ Sl w N v' (L.take m) := by
  obtain ⟨b, off, c, rfl, h1, h2, h3⟩ := h
  refine ⟨sliced (some ⟨b, off, none⟩) 0 m c 1, ?_, ?_⟩
  · rw [run_sliceAt_slice (P := Tryd.prog) w 23 _ _ _ _ elem23, run_slice_h (P := Tryd.prog) w 23 (some ⟨b, off, none⟩) L.length c elem23 k m (by omega) (by omega), elem23e, size5]
    simp
  · unfold sliced
    have hadd : (⟨b, off, none⟩ : Addr).add (0 * 1) = ⟨b, off, none⟩ := by unfold Addr.add; split <;> simp_all
    refine ⟨b, off, c, ?_, by simp; omega, h2, h3.take m⟩
    simp only [Option.map_some, hadd, List.length_take, Nat.min_eq_left hm, Nat.sub_zero]
    split <;> rfl

theorem Sl.bv {w : World} {N : Nat} {v : Value} {L : List Nat} (h : Sl w N v L) : BV w v L := by
  obtain ⟨b, off, c, rfl, h1, h2, h3⟩ := h
  exact Or.inr ⟨b, off, c, rfl, h3⟩

theorem Sl.below {w w' : World} {N n : Nat} {v : Value} {L : List Nat} (h : Sl w N v L) (hb : Below n w w') (hn : N ≤ n) : Sl w' N v L := by
  obtain ⟨b, off, c, rfl, h1, h2, h3⟩ := h
  exact ⟨b, off, c, rfl, h1, h2, h3.below hb (by omega)⟩

section
variable {ops : Array Oper} {rest : List Oper} {o : Oper} {a : Act} {w : World} {Q : Exit → Act → World → Prop} {K' : Act → World → Prop} {S : World → Prop}

theorem stepLo (hgd : o.guard = none) (s x : Operand) (ho : o.op = .slice 23 s (some x) none none) (N : Nat) (v : Value) (L : List Nat) (k : IntKind) (m : Nat) (hs : a.eval s = v) (hx : a.eval x = .int k (m : Int)) (hv : Sl w N v L) (hm : m ≤ L.length)
    (h : ∀ v', Sl w N v' (L.drop m) → wpList Tryd.prog ops Q rest (a.put o.dst v') w) : wpList Tryd.prog ops Q (o :: rest) a w := by
  obtain ⟨v', hr, h2⟩ := hv.lo k m hm
  refine wpList_plain hgd fun K hK => ?_
  unfold Oper.wp execOp
  simp only [ho, Sem.run_bind, Sem.run_pure, Result.andThen_ok, Option.map_some, Option.map_none, hs, hx, hr]
  exact hK _ _ (h v' h2)

theorem R_empty (hw : Region.wanted o (yielded ops a.tmps) = true) (ho : o.op = .buildSlice 23 0 #[])
    (h : K' (a.put o.dst (.slice (some ⟨w.heap.size, 0, none⟩) 0 0)) (w.alloc (.cells #[] 5))) : opS Tryd.prog ops o K' a w := by
  have hr : (Instr.buildSlice 23 0 #[]).run Tryd.prog w = .ok (.slice (some ⟨w.heap.size, 0, none⟩) 0 0) (w.alloc (.cells #[] 5)) := by go_simp
  refine .inl ⟨hw, ?_⟩
  unfold execOp
  simp only [ho, Sem.run_bind, Sem.run_pure, Result.andThen_ok, List.map_toArray, List.map_nil, hr, RunsTo]
  exact h

/-- What a cut leaves does not hang on the world beyond the bytes' block. -/
theorem R_lo (hw : Region.wanted o (yielded ops a.tmps) = true) (s x : Operand) (ho : o.op = .slice 23 s (some x) none none) (N : Nat) (v : Value) (L : List Nat) (k : IntKind) (m : Nat) (hs : a.eval s = v) (hx : a.eval x = .int k (m : Int)) (hv : Sl w N v L) (hm : m ≤ L.length)
    (h : ∀ v', Sl w N v' (L.drop m) → K' (a.put o.dst v') w) : stepR Tryd.prog ops S o a w K' := by
  have hv2 : ∃ v', Sl w N v' (L.drop m) ∧ ∀ w', (Instr.sliceAt 23 v (some (.int k (m : Int))) none none).run Tryd.prog w' = .ok v' w' := by
    obtain ⟨v', hr, h2⟩ := hv.lo k m hm
    obtain ⟨b, off, c, rfl, h1, _, _⟩ := hv
    refine ⟨v', h2, fun w' => ?_⟩
    have hr2 := hr
    rw [run_sliceAt_slice (P := Tryd.prog) _ 23 _ _ _ _ elem23, run_slice_l (P := Tryd.prog) _ 23 (some ⟨b, off, none⟩) L.length c elem23 k m (by omega) (by omega), elem23e, size5] at hr2 ⊢
    simp only [Result.andThen, Result.ok.injEq, and_true] at hr2 ⊢
    exact hr2
  obtain ⟨v', h2, hr⟩ := hv2
  refine R_pure v' hw (fun w' => ?_) (h v' h2)
  unfold execOp
  simp only [ho, Sem.run_bind, Sem.run_pure, Result.andThen_ok, Option.map_some, Option.map_none, hs, hx, hr]

theorem R_hi (hw : Region.wanted o (yielded ops a.tmps) = true) (s x : Operand) (ho : o.op = .slice 23 s none (some x) none) (N : Nat) (v : Value) (L : List Nat) (k : IntKind) (m : Nat) (hs : a.eval s = v) (hx : a.eval x = .int k (m : Int)) (hv : Sl w N v L) (hm : m ≤ L.length)
    (h : ∀ v', Sl w N v' (L.take m) → K' (a.put o.dst v') w) : stepR Tryd.prog ops S o a w K' := by
  have hv2 : ∃ v', Sl w N v' (L.take m) ∧ ∀ w', (Instr.sliceAt 23 v none (some (.int k (m : Int))) none).run Tryd.prog w' = .ok v' w' := by
    obtain ⟨v', hr, h2⟩ := hv.hi k m hm
    obtain ⟨b, off, c, rfl, h1, _, _⟩ := hv
    refine ⟨v', h2, fun w' => ?_⟩
    have hr2 := hr
    rw [run_sliceAt_slice (P := Tryd.prog) _ 23 _ _ _ _ elem23, run_slice_h (P := Tryd.prog) _ 23 (some ⟨b, off, none⟩) L.length c elem23 k m (by omega) (by omega), elem23e, size5] at hr2 ⊢
    simp only [Result.andThen, Result.ok.injEq, and_true] at hr2 ⊢
    exact hr2
  obtain ⟨v', h2, hr⟩ := hv2
  refine R_pure v' hw (fun w' => ?_) (h v' h2)
  unfold execOp
  simp only [ho, Sem.run_bind, Sem.run_pure, Result.andThen_ok, Option.map_some, Option.map_none, hs, hx, hr]
end

set_option maxHeartbeats 4000000 in
set_option maxRecDepth 100000 in
theorem cut_good (b off c x y : Nat) (r : List Nat) (at_ : Int) (hc : r.length + 2 ≤ c) (hx : x < 256) (hy : y < 256) (hr : x * 256 + y ≤ r.length) (hlen : r.length ≤ 1000000) (w : World) (N : Nat) (hN : N ≤ w.heap.size) (hbl : b < N)
    (hseg : SegB w b off (x :: y :: r)) :
    Calls Tryd.prog 34 #[.slice (some ⟨b, off, none⟩) (r.length + 2) c, .int .i64 at_] w fun e w' => ∃ p q, e = .returned (.tuple #[p, q, .nilIface]) ∧ Below w.heap.size w w' ∧
      OwnB w' w.heap.size p (r.take (x * 256 + y)) ∧ Sl w' N q (r.drop (x * 256 + y)) := by
  have c0 : w.cell? ⟨b, off, none⟩ = some (.int .u8 ((x : Nat) : Int)) := by simpa [nth] using hseg 0 (by simp)
  have c1 : w.cell? ⟨b, off + 1, none⟩ = some (.int .u8 ((y : Nat) : Int)) := by simpa [nth] using hseg 1 (by simp)
  have hS : Sl w N (.slice (some ⟨b, off, none⟩) (r.length + 2) c) (x :: y :: r) := ⟨b, off, c, rfl, by simpa using hc, hbl, hseg⟩
  have HS := Lib.hid hS
  have hd : decide (((r.length + 2 : Nat) : Int) < 2) = false := by simp; omega
  have ho := or_len hx hy
  have hxi : (x : Int) < 256 := by omega
  have hn0 : (0 : Int) < ((r.length + 2 : Nat) : Int) := by omega
  have hn1 : (1 : Int) < ((r.length + 2 : Nat) : Int) := by omega
  generalize hnn : r.length + 2 = n at *
  clear hS hseg
  generalize x * 256 + y = m at *
  have hd2 : decide (r.length < m) = false := by simp; omega
  go_enter Tryd.func34, Tryd.ntmps34
  go_wp2
  go_region
  have HS1 := Lib.hid (show Sl w.drew N (.slice (some ⟨b, off, none⟩) n c) (x :: y :: r) from HS.out)
  go_wp2_with (refine stepLo rfl _ _ rfl N (.slice (some ⟨b, off, none⟩) n c) (x :: y :: r) .i64 2 rfl rfl HS1.out (by simp) ?_; rintro v' hv'; obtain ⟨b2, off2, c2, rfl, hl2, hb2, hs2⟩ := hv'; simp only [List.drop_succ_cons, List.drop_zero] at hl2 hs2 ⊢)
  refine wp_region_ord (fun _ => True) [(true,1),(true,2),(true,3),(true,5),(true,6),(true,7),(false,0),(false,4),(true,8),(true,9),(true,10)] (by kernel_rfl) (by kernel_rfl) rfl (by kernel_rfl) ?_
  have hsl : Sl w.drew.drew N (.slice (some ⟨b2, off2, none⟩) r.length c2) r := ⟨b2, off2, c2, rfl, hl2, hb2, hs2⟩
  have HR := Lib.hid hsl; have Hr := Lib.hid hr; have Hl := Lib.hid hlen
  clear hsl hs2 hl2 hr hlen
  have hb0 : Below w.heap.size w w.drew.drew := (Below.refl _ w).drew.drew
  have ho0 : OwnB (w.drew.drew.alloc (.cells #[] 5)) w.heap.size (.slice (some ⟨w.heap.size, 0, none⟩) 0 0) [] := OwnB.lit0 _ _ hb0.size
  iterate 2 (refine O_read rfl trivial (fun K' hK => ?_); refine R_pure ?_ rfl (fun w => ?_) ?_; rotate_left; (focus (first | (go_simp; rfl) | (go_simp; done))); go_simp; refine hK _ ?_; clear hK K')
  refine O_read rfl trivial (fun K' hK => ?_); refine R_hi rfl _ _ rfl N _ r .i64 m rfl rfl HR.out Hr.out ?_; intro p hp; go_simp; refine hK _ ?_; clear hK K'
  iterate 2 (refine O_read rfl trivial (fun K' hK => ?_); refine R_pure ?_ rfl (fun w => ?_) ?_; rotate_left; (focus (first | (go_simp; rfl) | (go_simp; done))); go_simp; refine hK _ ?_; clear hK K')
  refine O_read rfl trivial (fun K' hK => ?_); refine R_lo rfl _ _ rfl N _ r .i64 m rfl rfl HR.out Hr.out ?_; intro q hq; go_simp; refine hK _ ?_; clear hK K'
  have hp0 : BV (w.drew.drew.alloc (.cells #[] 5)) p (r.take m) := hp.bv.below ((Below.refl _ w.drew.drew).alloc (Nat.le_refl _) _)
  refine O_call rfl (fun K' hK => ?_); refine R_empty rfl rfl ?_; go_simp; refine hK _ _ trivial ?_; clear hK K'
  refine O_call rfl (fun K' hK => ?_); refine R_appB rfl (.tmp 35) (.tmp 38) rfl w.heap.size (.slice (some ⟨w.heap.size, 0, none⟩) 0 0) p [] (r.take m) rfl rfl ho0 hp0 ?_ ?_ ?_
  · have := Hl.out; simp only [List.length_take, List.length_nil]; omega
  · exact (hb0.alloc hb0.size _).size
  intro v' w' hv' hg'
  have hb1 : Below w.heap.size w w' := by
    refine Below.grown (w := w.drew.drew.alloc (.cells #[] 5)) (hb0.alloc hb0.size _) hg' (hb0.alloc hb0.size _).size ?_
    intro k hk
    simp [Value.ownBlock] at hk
    omega
  go_simp; refine hK _ _ trivial ?_; clear hK K'
  iterate 3 (refine O_read rfl trivial (fun K' hK => ?_); refine R_pure ?_ rfl (fun w => ?_) ?_; rotate_left; (focus (first | (go_simp; rfl) | (go_simp; done))); go_simp; refine hK _ ?_; clear hK K')
  refine O_nil ?_
  have HV := Lib.hid hv'; have HB := Lib.hid hb1
  have HQ := Lib.hid (hq.below (n := w.heap.size) (w' := w') ⟨hb1.os, hb1.tape, hb1.output, hb1.size, hb1.block⟩ hN)
  clear hv' hb1 hq hp hg' ho0 hp0 hb0
  go_wp2
  exact bodyPost_ret (results_tmp3 rfl _ _ _) rfl ⟨_, _, rfl, HB.out, HV.out, HQ.out⟩

/-- wire.cut of bytes that are read. -/
theorem cut_any (L : List Nat) (hL : Byt L) (hlen : L.length ≤ 1000000) (at_ : Int) (w : World) (N : Nat) (hN : N ≤ w.heap.size) (v : Value) (hv : Sl w N v L) :
    Calls Tryd.prog 34 #[v, .int .i64 at_] w fun e w' => ∃ p q E, e = .returned (.tuple #[p, q, E]) ∧ Below w.heap.size w w' ∧
      (((∃ x y r, L = x :: y :: r ∧ x * 256 + y ≤ r.length ∧ E = .nilIface ∧ OwnB w' w.heap.size p (r.take (x * 256 + y)) ∧ Sl w' N q (r.drop (x * 256 + y)))) ∨
       ((L.length < 2 ∨ ∃ x y r, L = x :: y :: r ∧ r.length < x * 256 + y) ∧ FaultV w' w.heap.size E 80)) := by
  obtain ⟨b, off, c, rfl, hc, hb, hs⟩ := hv
  by_cases h2 : L.length < 2
  · refine (cut_short L.length c at_ h2 w (some ⟨b, off, none⟩)).mono ?_
    rintro e w' ⟨v, rfl, hbel, hf⟩
    exact ⟨_, _, _, rfl, hbel, Or.inr ⟨Or.inl h2, hf⟩⟩
  · match L, h2 with
    | [], h2 => simp at h2
    | [_], h2 => simp at h2
    | x :: y :: r, _ =>
      have hx : x < 256 := hL x (by simp)
      have hy : y < 256 := hL y (by simp)
      simp only [List.length_cons] at hc hlen
      by_cases h3 : x * 256 + y ≤ r.length
      · refine (cut_good b off c x y r at_ (by omega) hx hy h3 (by omega) w N hN hb hs).mono ?_
        rintro e w' ⟨p, q, rfl, hbel, ho, hq⟩
        exact ⟨_, _, _, rfl, hbel, Or.inl ⟨x, y, r, rfl, h3, rfl, ho, hq⟩⟩
      · have c0 : w.cell? ⟨b, off, none⟩ = some (.int .u8 ((x : Nat) : Int)) := by simpa [nth] using hs 0 (by simp)
        have c1 : w.cell? ⟨b, off + 1, none⟩ = some (.int .u8 ((y : Nat) : Int)) := by simpa [nth] using hs 1 (by simp)
        refine (cut_fail b off (r.length + 2) c x y at_ (by omega) hx hy (by omega) w c0 c1).mono ?_
        rintro e w' ⟨v, rfl, hbel, hf⟩
        exact ⟨_, _, _, rfl, hbel, Or.inr ⟨Or.inr ⟨x, y, r, rfl, by omega⟩, hf⟩⟩
end Go.Proofs.YtbmhmaejakjieaaDoor
