/- Slices that came in, lists of bytes in memory; the walks of Bytes and short. -/
import Derived.Test.YtbmhmaejakjieaaDoorWb
namespace Go.Proofs.YtbmhmaejakjieaaDoor
open Go.RowKit

/-- A slice of bytes that came in: of one without elements no address is asked. -/
def In (w : World) (v : Value) (L : List Nat) : Prop := ∃ a c, v = .slice a L.length c ∧ (L.length ≤ c ∧ (a = none → c = 0)) ∧ (L = [] ∨ ∃ b off, a = some ⟨b, off, none⟩ ∧ SegB w b off L)

theorem In.below {w w' : World} {v : Value} {L : List Nat} (h : In w v L) (hb : Below w.heap.size w w') : In w' v L := by
  obtain ⟨a, c, h1, h2, h3⟩ := h
  refine ⟨a, c, h1, h2, ?_⟩
  rcases h3 with h3 | ⟨b, off, rfl, h4⟩
  · exact Or.inl h3
  · rcases Nat.eq_zero_or_pos L.length with h0 | h0
    · exact Or.inl (List.eq_nil_of_length_eq_zero h0)
    · exact Or.inr ⟨b, off, rfl, h4.below hb (h4.lt h0)⟩

theorem OwnB.in {w : World} {N : Nat} {v : Value} {L : List Nat} (h : OwnB w N v L) : In w v L := by
  rcases h.form with ⟨rfl, rfl⟩ | ⟨g, c, rfl, _, h2, h3, _, h4, _⟩
  · exact ⟨none, 0, rfl, ⟨Nat.le_refl _, fun _ => rfl⟩, Or.inl rfl⟩
  · exact ⟨_, c, rfl, ⟨h3, fun h => by cases h⟩, Or.inr ⟨g, 0, rfl, h4⟩⟩

theorem In.bv {w : World} {v : Value} {L : List Nat} (h : In w v L) (hn : L ≠ []) : BV w v L := by
  obtain ⟨a, c, rfl, h2, h3⟩ := h
  rcases h3 with h3 | ⟨b, off, rfl, h4⟩
  · exact absurd h3 hn
  · exact Or.inr ⟨b, off, c, rfl, h4⟩

theorem addr_id (a : Option Addr) : a.map (fun x => x.add (0 * 1)) = a := by
  cases a with
  | none => rfl
  | some x => cases x with | mk b o s => simp [Addr.add]

theorem In.hi {w : World} {v : Value} {L : List Nat} (h : In w v L) (k : IntKind) (m : Nat) (hm : m ≤ L.length) :
    ∃ v', (Instr.sliceAt 23 v none (some (.int k (m : Int))) none).run Tryd.prog w = .ok v' w ∧ In w v' (L.take m) := by
  obtain ⟨a, c, rfl, ⟨h1, h0⟩, h3⟩ := h
  refine ⟨sliced a 0 m c 1, ?_, ?_⟩
  · rw [run_sliceAt_slice (P := Tryd.prog) w 23 _ _ _ _ elem23, run_slice_h (P := Tryd.prog) w 23 a L.length c elem23 k m (by omega) (by omega), elem23e, size5]
    simp
  · unfold sliced
    refine ⟨a, c, ?_, ⟨by rw [List.length_take]; omega, h0⟩, ?_⟩
    · rw [addr_id, List.length_take, Nat.min_eq_left hm, Nat.sub_zero, Nat.sub_zero, ite_self]
    · rcases h3 with rfl | ⟨b, off, rfl, h4⟩
      · exact Or.inl (by simp)
      · exact Or.inr ⟨b, off, rfl, h4.take m⟩

theorem run_appI (w : World) (ty : TypeId) (N : Nat) (v x : Value) (L M : List Nat) (hown : OwnB w N v L) (hx : In w x M) (hlen : L.length + M.length ≤ 1099511627776) (hbase : N ≤ w.heap.size) :
    ∃ v' w', (Builtin.append_ #[23, 23] ty #[v, x]).run Tryd.prog w = .ok v' w' ∧ OwnB w' N v' (L ++ M) ∧ w.grownBy w' v.ownBlock := by
  by_cases h0 : M = []
  · subst h0
    obtain ⟨a, c, rfl, ⟨_, hc⟩, _⟩ := hx
    cases a with
    | none => rw [hc rfl]; exact run_app w ty N v _ L [] hown (Or.inl ⟨rfl, rfl⟩) hlen hbase
    | some ad =>
      obtain ⟨i0, hi, hz0, hz1, hz2⟩ := info_parts info5
      obtain ⟨v', w', hr, h2, h3, _⟩ := run_append_own (P := Tryd.prog) w N 23 ty 5 i0 (.int .u8 0) 1 1 und23 hi hz0 hz1 hz2 rfl (by decide) v L.length _ hown ad 0 c [] rfl
        (fun j u hu => by simp at hu) (fun u hu => by simp at hu) (by unfold maxLen; simp at hlen; omega) (by simp at hlen; omega) hbase
      refine ⟨v', w', hr, ?_, h3⟩
      simpa [OwnB] using h2
  · exact run_app w ty N v x L M hown (hx.bv h0) hlen hbase

section
variable {ops : Array Oper} {rest : List Oper} {o : Oper} {a : Act} {w : World} {Q : Exit → Act → World → Prop} {K' : Act → World → Prop}

theorem appI (hgd : o.guard = none) (s x : Operand) (ho : o.op = .call { callee := .builtin .append, args := #[s, x], argTypes := #[23, 23] })
    (N : Nat) (v u : Value) (L M : List Nat) (hs : a.eval s = v) (hx : a.eval x = u) (hown : OwnB w N v L) (hu : In w u M) (hlen : L.length + M.length ≤ 1099511627776) (hbase : N ≤ w.heap.size)
    (h : ∀ v' w', OwnB w' N v' (L ++ M) → w.grownBy w' v.ownBlock → wpList Tryd.prog ops Q rest (a.put o.dst v') w') : wpList Tryd.prog ops Q (o :: rest) a w := by
  obtain ⟨v', w', hr, h2, h3⟩ := run_appI w o.type N v u L M hown hu hlen hbase
  refine wpList_plain hgd fun K hK => ?_
  unfold Oper.wp execOp
  simp only [ho, resolve, invoke, builtin, Sem.run_bind, Sem.run_pure, Result.andThen_ok, List.map_toArray, List.map_cons, List.map_nil, hs, hx, hr]
  exact hK _ _ (h v' w' h2 h3)
end

theorem bytes_zero (a : Option Addr) (c : Nat) (w : World) : Calls Tryd.prog 27 #[.slice a 0 c] w fun e w' => ∃ v, e = .returned v ∧ Below w.heap.size w w' ∧ OwnB w' w.heap.size v [] := by
  cases a <;>
  (go_enter Tryd.func27, Tryd.ntmps27
   go_wp2
   go_ret
   exact ⟨_, rfl, (Below.refl _ _).alloc (Nat.le_refl _) _, OwnB.lit0 _ _ (Nat.le_refl _)⟩)

theorem bytes_any (v : Value) (L : List Nat) (hn : L.length ≤ 100000) (w : World) (hv : In w v L) :
    Calls Tryd.prog 27 #[v] w fun e w' => ∃ v', e = .returned v' ∧ Below w.heap.size w w' ∧ OwnB w' w.heap.size v' L := by
  by_cases h0 : L = []
  · subst h0
    obtain ⟨a, c, rfl, _⟩ := hv
    exact bytes_zero a c w
  · have hb := hv.bv h0
    clear hv h0
    have HB := Lib.hid (hb.below ((Below.refl _ w).alloc (Nat.le_refl _) (.cells #[] 5)))
    have b0 := Lib.hid ((Below.refl w.heap.size w).alloc (Nat.le_refl _) (.cells #[] 5))
    have Hn := Lib.hid hn
    clear hb hn
    go_enter Tryd.func27, Tryd.ntmps27
    go_wp2_with (refine appB rfl _ _ rfl w.heap.size (.slice (some ⟨w.heap.size, 0, none⟩) 0 0) v [] L rfl rfl (OwnB.lit0 _ _ (Nat.le_refl _)) HB.out ?_ ?_ ?_
                 · have := Hn.out; simp only [List.length_nil]; omega
                 · simp
                 intro v2 w2 ho2 hg2
                 have hb2 : Below w.heap.size w w2 := Below.grown b0.out hg2 b0.out.size (fun k hk => by simp [Value.ownBlock] at hk; omega)
                 have HO2 : Hid (OwnB w2 w.heap.size v2 L) := Lib.hid ho2
                 have HB2 := Lib.hid hb2
                 clear ho2 hg2 hb2)
    exact bodyPost_ret (results_tmp rfl _ _ _) rfl ⟨v2, rfl, HB2.out, HO2.out⟩

section
variable {ops : Array Oper} {rest : List Oper} {o : Oper} {a : Act} {w : World} {Q : Exit → Act → World → Prop}

theorem stepHi (hgd : o.guard = none) (s x : Operand) (ho : o.op = .slice 23 s none (some x) none) (v : Value) (L : List Nat) (k : IntKind) (m : Nat) (hs : a.eval s = v) (hx : a.eval x = .int k (m : Int)) (hv : In w v L) (hm : m ≤ L.length)
    (h : ∀ v', In w v' (L.take m) → wpList Tryd.prog ops Q rest (a.put o.dst v') w) : wpList Tryd.prog ops Q (o :: rest) a w := by
  obtain ⟨v', hr, h2⟩ := hv.hi k m hm
  refine wpList_plain hgd fun K hK => ?_
  unfold Oper.wp execOp
  simp only [ho, Sem.run_bind, Sem.run_pure, Result.andThen_ok, Option.map_some, Option.map_none, hs, hx, hr]
  exact hK _ _ (h v' h2)
end

theorem short_any (v : Value) (L : List Nat) (w : World) (hv : In w v L) :
    Calls Tryd.prog 11 #[v] w fun e w' => ∃ v', e = .returned v' ∧ w = w' ∧ In w v' (L.take 4097) := by
  obtain ⟨a, c, rfl, h2⟩ := hv
  have HV : Hid (In w (.slice a L.length c) L) := Lib.hid ⟨a, c, rfl, h2⟩
  clear h2
  by_cases hq : L.length ≤ 4097
  · have hle : (L.length : Int) ≤ 4097 := by omega
    have HQ : Hid (L.take 4097 = L.take L.length) := Lib.hid (by rw [List.take_of_length_le hq, List.take_length])
    clear hq
    go_enter Tryd.func11, Tryd.ntmps11
    go_wp2_with (refine stepHi rfl _ _ rfl (.slice a L.length c) L .i64 L.length rfl rfl HV.out (Nat.le_refl _) ?_; intro v1 h1; have H1 := Lib.hid h1; clear h1)
    exact bodyPost_ret (results_tmp rfl _ _ _) rfl ⟨_, rfl, rfl, by rw [HQ.out]; exact H1.out⟩
  · have hle : ¬ (L.length : Int) ≤ 4097 := by omega
    have HQ : Hid (4097 ≤ L.length) := Lib.hid (by omega)
    clear hq
    go_enter Tryd.func11, Tryd.ntmps11
    go_wp2_with (refine stepHi rfl _ _ rfl (.slice a L.length c) L .i64 4097 rfl (by first | rfl | (go_simp; done) | (simp; done)) HV.out HQ.out ?_; intro v1 h1; have H1 := Lib.hid h1; clear h1)
    exact bodyPost_ret (results_tmp rfl _ _ _) rfl ⟨v1, rfl, rfl, H1.out⟩

/-! Lists of bytes. -/
theorem info23 : (Tryd.prog.info? 23).map (fun i => (i.zero, i.size, i.bytes)) = some (some (.slice none 0 0), 1, 24) := by kernel_rfl
theorem und44 : Tryd.prog.underlying 44 = some (.slice 23) := by kernel_rfl

def nthL (l : List (List Nat)) (k : Nat) : List Nat := l.getD k []

def SegL (w : World) (b off : Nat) (l : List (List Nat)) : Prop := ∀ j, j < l.length → ∃ u, w.cell? ⟨b, off + j, none⟩ = some u ∧ In w u (nthL l j)

def LV (w : World) (v : Value) (l : List (List Nat)) : Prop :=
  ∃ a c, v = .slice a l.length c ∧ (l = [] ∨ ∃ b off, a = some ⟨b, off, none⟩ ∧ b < w.heap.size ∧ SegL w b off l)

theorem LV.below {w w' : World} {v : Value} {l : List (List Nat)} (h : LV w v l) (hb : Below w.heap.size w w') : LV w' v l := by
  obtain ⟨a, c, h1, h3⟩ := h
  refine ⟨a, c, h1, ?_⟩
  rcases h3 with h3 | ⟨b, off, rfl, hl, h4⟩
  · exact Or.inl h3
  · refine Or.inr ⟨b, off, rfl, Nat.lt_of_lt_of_le hl hb.size, fun j hj => ?_⟩
    obtain ⟨u, h5, h6⟩ := h4 j hj
    exact ⟨u, by rw [hb.cell (p := ⟨b, off + j, none⟩) hl]; exact h5, h6.below hb⟩

/-- A list in a slice of one's own, each part of its own. -/
def OwnL (w : World) (N : Nat) (v : Value) (l : List (List Nat)) : Prop :=
  ∃ R : List (List Nat × Value), R.map (·.1) = l ∧ w.ownsRow N 23 1 v R.length (R.map (·.2)) ∧ ∀ r ∈ R, OwnB w N r.2 r.1

theorem OwnL.nil (w : World) (N : Nat) : OwnL w N (.slice none 0 0) [] := ⟨[], rfl, World.ownsRow_nil w N 23 1, fun r hr => by simp at hr⟩

theorem OwnL.lit0 (w : World) (N : Nat) (h : N ≤ w.heap.size) : OwnL (w.alloc (.cells #[] 23)) N (.slice (some ⟨w.heap.size, 0, none⟩) 0 0) [] :=
  ⟨[], rfl, World.ownsRow_lit (e := 23) (size := 1) (base := N) w #[] 0 h (by decide) rfl, fun r hr => by simp at hr⟩

theorem OwnL.below {w w' : World} {N : Nat} {v : Value} {l : List (List Nat)} (h : OwnL w N v l) (hb : Below w.heap.size w w') : OwnL w' N v l := by
  obtain ⟨R, h1, h2, h3⟩ := h
  exact ⟨R, h1, World.ownsRow.kept h2 (Below.grown_none hb) (by cases hv : v.ownBlock <;> simp), fun r hr => (h3 r hr).below hb⟩

theorem OwnL.alloc {w : World} {N : Nat} {v : Value} {l : List (List Nat)} (h : OwnL w N v l) (o : Obj) : OwnL (w.alloc o) N v l := h.below ((Below.refl _ w).alloc (Nat.le_refl _) o)

theorem OwnL.lt {w : World} {N : Nat} {v : Value} {l : List (List Nat)} (h : OwnL w N v l) : ∀ k, v.ownBlock = some k → N ≤ k ∧ k < w.heap.size := by
  obtain ⟨R, h1, h2, h3⟩ := h
  exact World.ownsRow.lt h2

theorem OwnL.form {w : World} {N : Nat} {v : Value} {l : List (List Nat)} (h : OwnL w N v l) : ∃ a c, v = .slice a l.length c := by
  obtain ⟨R, rfl, h2, _⟩ := h
  rw [List.length_map]
  rcases h2.2 with ⟨h, h0⟩ | ⟨g, cap, cur, h, _⟩
  · exact ⟨none, 0, by rw [h, h0]⟩
  · exact ⟨_, _, h⟩

theorem nthL_map {R : List (List Nat × Value)} {j : Nat} (h : j < R.length) : nthL (R.map (·.1)) j = (R[j]).1 := by
  simp [nthL, List.getD_eq_getElem?_getD, List.getElem?_eq_getElem h]

theorem OwnL.lv {w : World} {N : Nat} {v : Value} {l : List (List Nat)} (h : OwnL w N v l) : LV w v l := by
  obtain ⟨R, rfl, h2, h3⟩ := h
  rcases h2.2 with ⟨h, h0⟩ | ⟨g, cap, cur, h, _, hg, _⟩
  · exact ⟨none, 0, by rw [h, List.length_map, h0], Or.inl (by rw [List.eq_nil_of_length_eq_zero h0]; rfl)⟩
  · refine ⟨_, cap, by rw [h, List.length_map], Or.inr ⟨g, 0, rfl, (Array.getElem?_eq_some_iff.1 hg).1, fun j hj => ?_⟩⟩
    rw [List.length_map] at hj
    rw [h] at h2
    rw [nthL_map hj, Nat.zero_add]
    refine ⟨(R[j]).2, ?_, (h3 _ (List.getElem_mem hj)).in⟩
    rw [World.ownsRow.cellAt h2 j (by omega)]
    simp [List.getElem?_eq_getElem hj]

/-- A block of slices is no block of bytes. -/
theorem own_neL {w : World} {N M : Nat} {v u : Value} {n : Nat} {xs : List Value} {L : List Nat} (h : w.ownsRow N 23 1 v n xs) (h2 : OwnB w M u L) : u.ownBlock = none ∨ u.ownBlock ≠ v.ownBlock := by
  rcases h.2 with ⟨rfl, _⟩ | ⟨g, cap, cur, rfl, _, hg, _⟩
  · cases hu : u.ownBlock <;> simp [Value.ownBlock]
  · rcases h2.2 with ⟨rfl, _⟩ | ⟨g2, cap2, cur2, rfl, _, hg2, _⟩
    · exact Or.inl rfl
    · right
      simp only [Value.ownBlock, ne_eq, Option.some.injEq]
      intro e
      subst e
      rw [hg] at hg2
      simp at hg2

theorem run_appL (w : World) (ty : TypeId) (N : Nat) (v u : Value) (l : List (List Nat)) (M : List Nat) (g c : Nat) (hown : OwnL w N v l) (hg : Has w g 23 #[u]) (hu : OwnB w N u M) (hlen : l.length ≤ 1000000) (hbase : N ≤ w.heap.size) :
    ∃ v' w', (Builtin.append_ #[44, 44] ty #[v, .slice (some ⟨g, 0, none⟩) 1 c]).run Tryd.prog w = .ok v' w' ∧ OwnL w' N v' (l ++ [M]) ∧ w.grownBy w' v.ownBlock := by
  obtain ⟨i0, hi, hz0, hz1, hz2⟩ := info_parts info23
  obtain ⟨R, rfl, h2, h3⟩ := hown
  rw [List.length_map] at hlen
  have hnews : ∀ j x, ([u] : List Value)[j]? = some x → w.cell? ((⟨g, 0, none⟩ : Addr).add j) = some x := by
    intro j x hx
    have hadd : (⟨g, 0, none⟩ : Addr).add j = ⟨g, j, none⟩ := by unfold Addr.add; split <;> simp_all
    unfold Has at hg
    rw [hadd]
    simp only [World.cell?, hg]
    rw [← hx]
    match j with
    | 0 => rfl
    | j + 1 => rfl
  have hone : ∀ x ∈ ([u] : List Value), x.oneCell' = true := by
    intro x hx
    simp only [List.mem_cons, List.not_mem_nil, or_false] at hx
    subst hx
    exact hu.one
  obtain ⟨v', w', hr, h4, h5, _⟩ := run_append_own (P := Tryd.prog) w N 44 ty 23 i0 _ 1 24 und44 hi hz0 hz1 hz2 rfl (by decide) v R.length _ h2 ⟨g, 0, none⟩ 1 c
    [u] rfl hnews hone (by unfold maxLen; omega) (by omega) hbase
  refine ⟨v', w', hr, ⟨R ++ [(M, u)], by simp, ?_, ?_⟩, h5⟩
  · rw [List.length_append, List.map_append]
    exact h4
  · intro r hr
    simp only [List.mem_append, List.mem_cons, List.not_mem_nil, or_false] at hr
    rcases hr with hr | rfl
    · exact (h3 r hr).grown h5 (own_neL h2 (h3 r hr))
    · exact hu.grown h5 (own_neL h2 hu)

section
variable {ops : Array Oper} {rest : List Oper} {o : Oper} {a : Act} {w : World} {Q : Exit → Act → World → Prop} {K' : Act → World → Prop}

theorem appL (hgd : o.guard = none) (s x : Operand) (ho : o.op = .call { callee := .builtin .append, args := #[s, x], argTypes := #[44, 44] })
    (N : Nat) (v u : Value) (l : List (List Nat)) (M : List Nat) (g c : Nat) (hs : a.eval s = v) (hx : a.eval x = .slice (some ⟨g, 0, none⟩) 1 c) (hown : OwnL w N v l) (hg : Has w g 23 #[u]) (hu : OwnB w N u M) (hlen : l.length ≤ 1000000) (hbase : N ≤ w.heap.size)
    (h : ∀ v' w', OwnL w' N v' (l ++ [M]) → w.grownBy w' v.ownBlock → wpList Tryd.prog ops Q rest (a.put o.dst v') w') : wpList Tryd.prog ops Q (o :: rest) a w := by
  obtain ⟨v', w', hr, h2, h3⟩ := run_appL w o.type N v u l M g c hown hg hu hlen hbase
  refine wpList_plain hgd fun K hK => ?_
  unfold Oper.wp execOp
  simp only [ho, resolve, invoke, builtin, Sem.run_bind, Sem.run_pure, Result.andThen_ok, List.map_toArray, List.map_cons, List.map_nil, hs, hx, hr]
  exact hK _ _ (h v' w' h2 h3)
end
end Go.Proofs.YtbmhmaejakjieaaDoor
