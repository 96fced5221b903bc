/- Laws of this program's memory: whole arrays out of and into blocks, results that lie in blocks. -/
import Derived.Test.YtbklepgbieohiaaV
import Derived.Test.YtbklepgbieohiaaProg
import Derived.Lib.Hide
import Derived.Deep.WholeRow
import Derived.Laws.StructEq
namespace Go.Proofs.Ytbklepgbieohiaa
open Go.RowKit

/-- A number of 256 bits as a value. -/
abbrev A4 (n : Nat) : Value := .agg (u64s (digs 4 n))
/-- A number of 512 bits as a value. -/
abbrev A8 (n : Nat) : Value := .agg (u64s (digs 8 n))

/-- Of w1 the block g alone may be another one than in w. -/
structure Only (g : Nat) (w w1 : World) : Prop where
  os : w1.os = w.os
  tape : w1.tape = w.tape
  output : w1.output = w.output
  size : w1.heap.size = w.heap.size
  block : ∀ k, k ≠ g → w1.heap[k]? = w.heap[k]?

theorem Only.below {g N : Nat} {v w w1 : World} (h : Only g w w1) (hb : Below N v w) (hg : N ≤ g) : Below N v w1 :=
  hb.trans ⟨h.os, h.tape, h.output, Nat.le_of_eq h.size.symm, fun k hk => h.block k (by omega)⟩

theorem Has.only {w w1 : World} {b T g : Nat} {c : Array Value} (h : Has w b T c) (o : Only g w w1) (hne : b ≠ g) : Has w1 b T c := by
  unfold Has at *
  rw [o.block b hne]; exact h

theorem Only.setRow (w : World) (g : Nat) (cs : Array Value) : Only g w (w.setRow g cs) :=
  ⟨rfl, rfl, rfl, by simp, fun k hk => setRow_other w g k cs hk⟩

theorem Has.setRow {w : World} {g T : Nat} {c : Array Value} (h : Has w g T c) (cs : Array Value) : Has (w.setRow g cs) g T cs := by
  unfold Has at *
  exact setRow_heap w g c cs T (0, 0) h

theorem u64s_one (L : List Nat) : (u64s L).all (·.oneCell') = true := by
  simp [u64s, Value.oneCell']

section
variable {ops : Array Oper} {rest : List Oper} {o : Oper} {a : Act} {w : World} {Q : Exit → Act → World → Prop}

theorem info24 : (Try.prog.info? 24).map (·.size) = some 4 := by kernel_rfl
theorem info37 : (Try.prog.info? 37).map (·.size) = some 8 := by kernel_rfl
theorem und24 : Try.prog.underlying 24 = some (.array 4 22) := by kernel_rfl
theorem und37 : Try.prog.underlying 37 = some (.array 8 22) := by kernel_rfl

/-- A whole Nat out of its block. -/
theorem load4 (hgd : o.guard = none) (x : Operand) (ho : o.op = .load 24 x) (g : Nat) (hx : a.eval x = .pointer (some ⟨g, 0, none⟩))
    (t : TypeId) (L : List Nat) (hg : Has w g t (u64s L)) (hl : L.length = 4)
    (h : wpList Try.prog ops Q rest (a.put o.dst (.agg (u64s L))) w) : wpList Try.prog ops Q (o :: rest) a w :=
  wpList_load_row hgd 24 x ho g hx t _ (0, 0) _ hg und24 rfl (by rw [info24, u64s_size, hl]) h

theorem load8 (hgd : o.guard = none) (x : Operand) (ho : o.op = .load 37 x) (g : Nat) (hx : a.eval x = .pointer (some ⟨g, 0, none⟩))
    (t : TypeId) (L : List Nat) (hg : Has w g t (u64s L)) (hl : L.length = 8)
    (h : wpList Try.prog ops Q rest (a.put o.dst (.agg (u64s L))) w) : wpList Try.prog ops Q (o :: rest) a w :=
  wpList_load_row hgd 37 x ho g hx t _ (0, 0) _ hg und37 rfl (by rw [info37, u64s_size, hl]) h

/-- The same where the operation has a guard that lets it. -/
theorem load4w (hw : Region.wanted o (yielded ops a.tmps) = true) (x : Operand) (ho : o.op = .load 24 x) (g : Nat) (hx : a.eval x = .pointer (some ⟨g, 0, none⟩))
    (t : TypeId) (L : List Nat) (hg : Has w g t (u64s L)) (hl : L.length = 4)
    (h : wpList Try.prog ops Q rest (a.put o.dst (.agg (u64s L))) w) : wpList Try.prog ops Q (o :: rest) a w := by
  unfold wpList
  rw [if_pos hw]
  exact .inl (wp_load_row 24 x ho g hx t _ (0, 0) _ hg und24 rfl (by rw [info24, u64s_size, hl]) h)

/-- A whole Nat into its block. -/
theorem store4 (hgd : o.guard = none) (x y : Operand) (ho : o.op = .store 24 x y) (g : Nat) (hx : a.eval x = .pointer (some ⟨g, 0, none⟩))
    (L : List Nat) (hy : a.eval y = .agg (u64s L)) (t : TypeId) (M : List Nat) (hg : Has w g t (u64s M)) (hl : L.length = 4) (hm : M.length = 4)
    (h : ∀ w1, Has w1 g t (u64s L) → Only g w w1 → wpList Try.prog ops Q rest (a.put o.dst undef) w1) : wpList Try.prog ops Q (o :: rest) a w :=
  wpList_store_row hgd 24 x y ho g _ hx hy t _ hg (by rw [info24, u64s_size, hl]) (by rw [u64s_size, u64s_size, hl, hm]) (u64s_one L)
    (h _ (hg.setRow _) (Only.setRow w g _))

theorem store8 (hgd : o.guard = none) (x y : Operand) (ho : o.op = .store 37 x y) (g : Nat) (hx : a.eval x = .pointer (some ⟨g, 0, none⟩))
    (L : List Nat) (hy : a.eval y = .agg (u64s L)) (t : TypeId) (M : List Nat) (hg : Has w g t (u64s M)) (hl : L.length = 8) (hm : M.length = 8)
    (h : ∀ w1, Has w1 g t (u64s L) → Only g w w1 → wpList Try.prog ops Q rest (a.put o.dst undef) w1) : wpList Try.prog ops Q (o :: rest) a w :=
  wpList_store_row hgd 37 x y ho g _ hx hy t _ hg (by rw [info37, u64s_size, hl]) (by rw [u64s_size, u64s_size, hl, hm]) (u64s_one L)
    (h _ (hg.setRow _) (Only.setRow w g _))
end

section
variable {fn : Func} {tmps : Array Value} {w : World}

theorem loadVar4 {g : Nat} {t : TypeId} {L : List Nat} (hg : Has w g t (u64s L)) (hl : L.length = 4) :
    (loadVar 24 ⟨g, 0, none⟩).run Try.prog w = .ok (.agg (u64s L)) w :=
  run_loadVar_row w g t 24 _ (0, 0) _ hg und24 rfl (by rw [info24, u64s_size, hl])

theorem loadVar8 {g : Nat} {t : TypeId} {L : List Nat} (hg : Has w g t (u64s L)) (hl : L.length = 8) :
    (loadVar 37 ⟨g, 0, none⟩).run Try.prog w = .ok (.agg (u64s L)) w :=
  run_loadVar_row w g t 37 _ (0, 0) _ hg und37 rfl (by rw [info37, u64s_size, hl])

theorem res4 {p : Tmp} (hr : fn.results = #[.cell p 24]) {g : Nat} (hp : tmps.getD p undef = .pointer (some ⟨g, 0, none⟩)) {t : TypeId} {L : List Nat}
    (hg : Has w g t (u64s L)) (hl : L.length = 4) : (results fn tmps).run Try.prog w = .ok (.agg (u64s L)) w := by
  have hp' : tmps[p]?.getD undef = .pointer (some ⟨g, 0, none⟩) := by simpa using hp
  simp [results, hr, hp', asAddr, loadVar4 hg hl]

theorem res8 {p : Tmp} (hr : fn.results = #[.cell p 37]) {g : Nat} (hp : tmps.getD p undef = .pointer (some ⟨g, 0, none⟩)) {t : TypeId} {L : List Nat}
    (hg : Has w g t (u64s L)) (hl : L.length = 8) : (results fn tmps).run Try.prog w = .ok (.agg (u64s L)) w := by
  have hp' : tmps[p]?.getD undef = .pointer (some ⟨g, 0, none⟩) := by simpa using hp
  simp [results, hr, hp', asAddr, loadVar8 hg hl]

theorem res4t {p q : Tmp} (hr : fn.results = #[.cell p 24, .tmp q]) {g : Nat} (hp : tmps.getD p undef = .pointer (some ⟨g, 0, none⟩)) {t : TypeId} {L : List Nat}
    (hg : Has w g t (u64s L)) (hl : L.length = 4) : (results fn tmps).run Try.prog w = .ok (.tuple #[.agg (u64s L), tmps.getD q undef]) w := by
  have hp' : tmps[p]?.getD undef = .pointer (some ⟨g, 0, none⟩) := by simpa using hp
  simp [results, hr, hp', asAddr, loadVar4 hg hl]

theorem res84t {p q r : Tmp} (hr : fn.results = #[.cell p 37, .cell q 24, .tmp r]) {g h : Nat} (hp : tmps.getD p undef = .pointer (some ⟨g, 0, none⟩))
    (hq : tmps.getD q undef = .pointer (some ⟨h, 0, none⟩)) {t s : TypeId} {L M : List Nat}
    (hg : Has w g t (u64s L)) (hl : L.length = 8) (hh : Has w h s (u64s M)) (hm : M.length = 4) :
    (results fn tmps).run Try.prog w = .ok (.tuple #[.agg (u64s L), .agg (u64s M), tmps.getD r undef]) w := by
  have hp' : tmps[p]?.getD undef = .pointer (some ⟨g, 0, none⟩) := by simpa using hp
  have hq' : tmps[q]?.getD undef = .pointer (some ⟨h, 0, none⟩) := by simpa using hq
  simp [results, hr, hp', hq', asAddr, loadVar8 hg hl, loadVar4 hh hm]
end

section
variable {ops : Array Oper} {rest : List Oper} {o : Oper} {a : Act} {w : World} {Q : Exit → Act → World → Prop}

/-- A whole Nat into the block that was made last. -/
theorem store4new (hgd : o.guard = none) (x y : Operand) (ho : o.op = .store 24 x y) (hx : a.eval x = .pointer (some ⟨w.heap.size, 0, none⟩))
    (L : List Nat) (hy : a.eval y = .agg (u64s L)) (hl : L.length = 4) (c : Array Value) (hc : c.size = 4)
    (h : wpList Try.prog ops Q rest (a.put o.dst undef) (w.alloc (.cells (u64s L) 24))) : wpList Try.prog ops Q (o :: rest) a (w.alloc (.cells c 24)) :=
  wpList_store_row hgd 24 x y ho w.heap.size _ hx hy 24 c (heap_alloc_new w _) (by rw [info24, u64s_size, hl]) (by rw [u64s_size, hl, hc]) (u64s_one L)
    (by rw [World.setRow_alloc_new]; exact h)

theorem store8new (hgd : o.guard = none) (x y : Operand) (ho : o.op = .store 37 x y) (hx : a.eval x = .pointer (some ⟨w.heap.size, 0, none⟩))
    (L : List Nat) (hy : a.eval y = .agg (u64s L)) (hl : L.length = 8) (c : Array Value) (hc : c.size = 8)
    (h : wpList Try.prog ops Q rest (a.put o.dst undef) (w.alloc (.cells (u64s L) 37))) : wpList Try.prog ops Q (o :: rest) a (w.alloc (.cells c 37)) :=
  wpList_store_row hgd 37 x y ho w.heap.size _ hx hy 37 c (heap_alloc_new w _) (by rw [info37, u64s_size, hl]) (by rw [u64s_size, hl, hc]) (u64s_one L)
    (by rw [World.setRow_alloc_new]; exact h)
end

/-- A slice of numbers of 64 bits that lies in a block of its own, from block N on. -/
def Own (w : World) (N : Nat) (v : Value) (L : List Nat) : Prop := w.ownsRow N 22 1 v L.length (L.map fun n => Value.int .u64 ((n : Nat) : Int))

theorem Own.nil (w : World) (N : Nat) : Own w N (.slice none 0 0) [] := World.ownsRow_nil w N 22 1

/-- The slice as a value, and what lies there. -/
theorem Own.form {w : World} {N : Nat} {v : Value} {L : List Nat} (h : Own w N v L) :
    (v = .slice none 0 0 ∧ L = []) ∨ ∃ g c, v = .slice (some ⟨g, 0, none⟩) L.length c ∧ N ≤ g ∧ g < w.heap.size ∧ L.length ≤ c ∧ c ≤ maxLen ∧ Seg w g 0 L ∧ (∀ j, w.frozen? ⟨g, j, none⟩ = false) := by
  rcases h.2 with ⟨h1, h2⟩ | ⟨g, cap, cur, h1, h2, h3, h4, h5, h6, h7⟩
  · exact Or.inl ⟨h1, List.eq_nil_of_length_eq_zero h2⟩
  · refine Or.inr ⟨g, cap, h1, h2, (Array.getElem?_eq_some_iff.1 h3).1, h4, h5, ?_, fun j => frozen_of_row w g j cur 22 h3⟩
    intro j hj
    have := World.ownsRow.cells h (g := g) (by rw [h1]; rfl) j (.int .u64 ((nth L j : Nat) : Int)) (by simp [nth, List.getElem?_eq_getElem hj])
    have hadd : (⟨g, 0, none⟩ : Addr).add j = ⟨g, 0 + j, none⟩ := by unfold Addr.add; split <;> simp_all
    rwa [hadd] at this

theorem info22 : (Try.prog.info? 22).map (fun i => (i.zero, i.size, i.bytes)) = some (some (.int .u64 0), 1, 8) := by kernel_rfl
theorem und53 : Try.prog.underlying 53 = some (.slice 22) := by kernel_rfl

section
variable {ops : Array Oper} {rest : List Oper} {o : Oper} {a : Act} {w : World} {K : Act → World → Prop} {Q : Exit → Act → World → Prop}

theorem wp_app53 (s x : Operand) (ho : o.op = .call { callee := .builtin .append, args := #[s, x], argTypes := #[53, 53] })
    (N : Nat) (v : Value) (L : List Nat) (hs : a.eval s = v) (hown : Own w N v L) (g off m c : Nat) (M : List Nat) (hx : a.eval x = .slice (some ⟨g, off, none⟩) m c)
    (hm : M.length = m) (hseg : Seg w g off M) (hlen : L.length + M.length ≤ 1099511627776) (hbase : N ≤ w.heap.size)
    (h : ∀ v' w', Own w' N v' (L ++ M) → w.grownBy w' v.ownBlock → K (a.put o.dst v') w') : o.wp Try.prog a w K Q := by
  obtain ⟨i0, hi, hz0, hz1, hz2⟩ := info_parts info22
  refine wp_append_own w s x 53 ho N 22 i0 (.int .u64 0) 1 8 und53 hi hz0 hz1 hz2 rfl (by decide) v L.length _ hs hown ⟨g, off, none⟩ m c (M.map fun n => Value.int .u64 ((n : Nat) : Int)) hx (by simp [hm]) ?_ ?_ ?_ ?_ hbase ?_
  · intro j u hu
    have hj : j < M.length := by
      rcases Nat.lt_or_ge j M.length with h1 | h1
      · exact h1
      · simp [List.getElem?_eq_none (show (M.map fun n => Value.int .u64 ((n : Nat) : Int)).length ≤ j by simpa using h1)] at hu
    have hadd : (⟨g, off, none⟩ : Addr).add j = ⟨g, off + j, none⟩ := by unfold Addr.add; split <;> simp_all
    rw [hadd, hseg j hj]
    simp [nth, List.getElem?_eq_getElem hj] at hu ⊢
    exact hu
  · intro u hu
    obtain ⟨n, _, rfl⟩ := List.mem_map.1 hu
    rfl
  · unfold maxLen; omega
  · omega
  · intro v' w' h1 h2 _
    refine h v' w' ?_ h2
    unfold Own
    rw [List.length_append, List.map_append, hm]; exact h1

theorem app53 (hgd : o.guard = none) (s x : Operand) (ho : o.op = .call { callee := .builtin .append, args := #[s, x], argTypes := #[53, 53] })
    (N : Nat) (v : Value) (L : List Nat) (hs : a.eval s = v) (hown : Own w N v L) (g off m c : Nat) (M : List Nat) (hx : a.eval x = .slice (some ⟨g, off, none⟩) m c)
    (hm : M.length = m) (hseg : Seg w g off M) (hlen : L.length + M.length ≤ 1099511627776) (hbase : N ≤ w.heap.size)
    (h : ∀ v' w', Own w' N v' (L ++ M) → w.grownBy w' v.ownBlock → wpList Try.prog ops Q rest (a.put o.dst v') w') : wpList Try.prog ops Q (o :: rest) a w :=
  wpList_plain hgd fun _ hK => wp_app53 s x ho N v L hs hown g off m c M hx hm hseg hlen hbase fun v' w' h1 h2 => hK _ _ (h v' w' h1 h2)

/-- The same as a step of a region that draws its order. -/
theorem step53 {E : Prop} (hgd : o.guard = none) (s x : Operand) (ho : o.op = .call { callee := .builtin .append, args := #[s, x], argTypes := #[53, 53] })
    (N : Nat) (v : Value) (L : List Nat) (hs : a.eval s = v) (hown : Own w N v L) (g off m c : Nat) (M : List Nat) (hx : a.eval x = .slice (some ⟨g, off, none⟩) m c)
    (hm : M.length = m) (hseg : Seg w g off M) (hlen : L.length + M.length ≤ 1099511627776) (hbase : N ≤ w.heap.size)
    (h : ∀ v' w', Own w' N v' (L ++ M) → w.grownBy w' v.ownBlock → K (a.put o.dst v') w') : if Region.wanted o (yielded ops a.tmps) = true then o.wp Try.prog a w K Q else E := by
  rw [if_pos (by simp [Region.wanted, hgd])]
  exact wp_app53 s x ho N v L hs hown g off m c M hx hm hseg hlen hbase h
end

theorem Own.grown {w w' : World} {N : Nat} {v : Value} {L : List Nat} (h : Own w N v L) {row : Option Nat} (hg : w.grownBy w' row) (hne : v.ownBlock = none ∨ v.ownBlock ≠ row) : Own w' N v L :=
  World.ownsRow.kept h hg hne
theorem Own.drew {w : World} {N : Nat} {v : Value} {L : List Nat} (h : Own w N v L) : Own w.drew N v L := h
theorem Own.alloc {w : World} {N : Nat} {v : Value} {L : List Nat} (h : Own w N v L) (o : Obj) : Own (w.alloc o) N v L := World.ownsRow.alloc h o
theorem Own.lt {w : World} {N : Nat} {v : Value} {L : List Nat} (h : Own w N v L) : ∀ k, v.ownBlock = some k → N ≤ k ∧ k < w.heap.size := World.ownsRow.lt h
/-- What such a slice does not touch. -/
theorem Own.ne {w : World} {N : Nat} {v : Value} {L : List Nat} (h : Own w N v L) {b : Nat} (hb : b < N) : some b ≠ v.ownBlock := fun e => by
  have := (h.lt b e.symm).1
  omega

/-- Has at a block number that is spelled otherwise. -/
theorem Has.newAt {w : World} (c : Array Value) (T : Nat) {n : Nat} (h : n = w.heap.size) : Has (w.alloc (.cells c T)) n T c := by
  subst h; exact Has.new w c T

theorem all_range_nth : ∀ (xs ys : List Nat), xs.length = ys.length → ((List.range xs.length).all fun i => nth xs i == nth ys i) = (xs == ys)
  | [], [], _ => rfl
  | x :: xs, y :: ys, h => by
    have ih := all_range_nth xs ys (by simpa using h)
    rw [List.length_cons, List.range_succ_eq_map, List.all_cons, List.all_map]
    have e : ((fun i => nth (x :: xs) i == nth (y :: ys) i) ∘ Nat.succ) = fun i => nth xs i == nth ys i := by
      funext i; simp [nth]
    rw [e, ih]
    simp [nth, List.cons_beq_cons]
  | [], _ :: _, h => by simp at h
  | _ :: _, [], h => by simp at h

theorem und22 : Try.prog.underlying 22 = some (.int .u64) := by kernel_rfl
theorem size22 (w : World) : (sizeOf 22).run Try.prog w = .ok 1 w := by kernel_rfl

theorem equalIn_u64s (w : World) (d : Nat) (t n : Nat) (ht : Try.prog.underlying t = some (.array n 22)) (xs ys : List Nat) (hx : xs.length = n) (hy : ys.length = n) :
    (Op.equalIn (d + 2) t (.agg (u64s xs)) (.agg (u64s ys))).run Try.prog w = .ok (xs == ys) w := by
  rw [← all_range_nth xs ys (hx.trans hy.symm), hx, List.range_eq_range', Op.equalIn]
  simp only [Sem.run_bind, run_underlying ht, Result.andThen_ok, size22, Std.Legacy.Range.forIn_eq_forIn_range', Std.Legacy.Range.size, Nat.sub_zero, Nat.add_sub_cancel, Nat.div_one]
  have hl : ∀ i ∈ List.range' 0 n 1, i < n := fun i hi => by simpa using (List.mem_range'_1.1 hi).2
  generalize List.range' 0 n 1 = l at hl ⊢
  induction l with
  | nil => simp
  | cons i l ih =>
    have hi : i < n := hl i (by simp)
    have px : (part 22 (u64s xs) (i * 1)).run Try.prog w = .ok (.int .u64 ((nth xs i : Nat) : Int)) w := by
      simp [part, isAgg, run_underlying und22, u64s, nth, List.getElem?_eq_getElem (show i < xs.length by omega)]
    have py : (part 22 (u64s ys) (i * 1)).run Try.prog w = .ok (.int .u64 ((nth ys i : Nat) : Int)) w := by
      simp [part, isAgg, run_underlying und22, u64s, nth, List.getElem?_eq_getElem (show i < ys.length by omega)]
    have pe : (Op.equalIn (d + 1) 22 (.int .u64 ((nth xs i : Nat) : Int)) (.int .u64 ((nth ys i : Nat) : Int))).run Try.prog w = .ok (nth xs i == nth ys i) w := by
      rw [run_equalIn_int w d 22 .u64 .u64 _ _ und22]
      congr 1
      rw [Bool.eq_iff_iff]
      simp only [beq_iff_eq]
      omega
    simp only [List.forIn_cons, Sem.run_bind, px, py, pe, Result.andThen_ok, List.all_cons]
    cases hb : (nth xs i == nth ys i)
    · simp
    · simp only [Bool.not_true, Bool.false_eq_true, if_false, Sem.run_pure, Result.andThen_ok, Bool.true_and]
      exact ih fun j hj => hl j (by simp [hj])

/-- '==' between two numbers of 256 bits. -/
theorem eql4 (xs ys : List Nat) (hx : xs.length = 4) (hy : ys.length = 4) (w : World) :
    (binOp .eql 24 (.agg (u64s xs)) (.agg (u64s ys))).run Try.prog w = .ok (.bool (xs == ys)) w := by
  rw [run_eql_struct, equalIn_u64s w 9998 24 4 und24 xs ys hx hy]; rfl
theorem eql8 (xs ys : List Nat) (hx : xs.length = 8) (hy : ys.length = 8) (w : World) :
    (binOp .eql 37 (.agg (u64s xs)) (.agg (u64s ys))).run Try.prog w = .ok (.bool (xs == ys)) w := by
  rw [run_eql_struct, equalIn_u64s w 9998 37 8 und37 xs ys hx hy]; rfl
theorem neq4 (xs ys : List Nat) (hx : xs.length = 4) (hy : ys.length = 4) (w : World) :
    (binOp .neq 24 (.agg (u64s xs)) (.agg (u64s ys))).run Try.prog w = .ok (.bool (!(xs == ys))) w := by
  rw [run_neq_struct, equalIn_u64s w 9998 24 4 und24 xs ys hx hy]; rfl

/-- The answer of a comparison of lists of digits, by the numbers. -/
theorem digs_beq {k m n : Nat} (hm : m < B ^ k) (hn : n < B ^ k) : (digs k m == digs k n) = decide (m = n) := by
  by_cases h : m = n
  · subst h; simp
  · have h2 : ¬ digs k m = digs k n := fun e => h (digs_inj hm hn e)
    simp [h, h2]

theorem seg_new (w : World) (M : List Nat) (T : Nat) {n : Nat} (h : n = w.heap.size) : Seg (w.alloc (.cells (u64s M) T)) n 0 M := (Has.newAt (u64s M) T h).seg

end Go.Proofs.Ytbklepgbieohiaa
