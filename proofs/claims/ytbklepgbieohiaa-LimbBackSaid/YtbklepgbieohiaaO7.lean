/- A region that draws its order and makes memory beside calls: each order that may come is walked, what reads alone is taken first. -/
import Derived.Test.YtbklepgbieohiaaQ3
namespace Go.Proofs.Ytbklepgbieohiaa
open Go Go.RowKit

/-- The orders: what reads (read), then whichever is ready (fork over a chain of alt). -/
inductive Tr where
  | leaf : Tr
  | read : Nat → Tr → Tr
  | fork : Tr → Tr
  | alt : Nat → Tr → Tr → Tr
  | stop : Tr

def Tr.heads : Tr → List Nat
  | .alt k _ m => k :: m.heads
  | _ => []

def Tr.main : Tr → Bool
  | .alt .. => false
  | .stop => false
  | _ => true

section
variable {P : Program} {ops : Array Oper} {Q : Exit → Act → World → Prop} {md : Region.Mode} {S : World → Prop}

/-- Are these the orders that may come, n operations long? -/
def allT (md : Region.Mode) (ops : Array Oper) : Tr → Nat → Array Bool → Bool
  | .leaf, n, listed => n == 0 && (Region.ready md ops listed).isEmpty
  | .read k t, n, listed => match n with
    | 0 => false
    | n + 1 => (Region.ready md ops listed).contains k && Region.free md ops listed k && t.main && allT md ops t n (listed.setIfInBounds k true)
  | .fork t, n, listed => (Region.ready md ops listed == t.heads) && !t.heads.isEmpty && allT md ops t n listed
  | .alt k t m, n, listed => (match n with
    | 0 => false
    | n' + 1 => t.main && allT md ops t n' (listed.setIfInBounds k true)) && allT md ops m n listed
  | .stop, _, _ => true

def ordT (P : Program) (ops : Array Oper) (S : World → Prop) (K : Act → World → Prop) : Tr → Act → World → Prop
  | .leaf, a, w => K a w
  | .read k t, a, w => ∃ o, ops[k]? = some o ∧ S w ∧ ∃ v, Reads P ops S o v a ∧ ordT P ops S K t (a.put o.dst v) w
  | .fork t, a, w => ordT P ops S K t a w
  | .alt k t m, a, w => (∃ o, ops[k]? = some o ∧ opS P ops o (fun a' w' => S w' ∧ ordT P ops S K t a' w') a w) ∧ ordT P ops S K m a w
  | .stop, _, _ => True

/-- Along a chain: each operation at its head. -/
theorem alt_each {K : Act → World → Prop} {n : Nat} {listed : Array Bool} {a : Act} {w : World} : ∀ (t : Tr), allT md ops t n listed = true → ordT P ops S K t a w → ∀ k ∈ t.heads,
    ∃ n' t', n = n' + 1 ∧ t'.main = true ∧ allT md ops t' n' (listed.setIfInBounds k true) = true ∧ (∃ o, ops[k]? = some o ∧ opS P ops o (fun a' w' => S w' ∧ ordT P ops S K t' a' w') a w)
  | .alt k t m, hB, h, i, hi => by
    cases n with
    | zero => simp [allT] at hB
    | succ n =>
      simp only [allT, Bool.and_eq_true] at hB
      simp only [ordT] at h
      simp only [Tr.heads, List.mem_cons] at hi
      rcases hi with rfl | hi
      · exact ⟨n, t, rfl, hB.1.1, hB.1.2, h.1⟩
      · exact alt_each m hB.2 h.2 i hi
  | .leaf, _, _, _, hi => by simp [Tr.heads] at hi
  | .read _ _, _, _, _, hi => by simp [Tr.heads] at hi
  | .fork _, _, _, _, hi => by simp [Tr.heads] at hi
  | .stop, _, _, _, hi => by simp [Tr.heads] at hi

theorem wpAnyS_tree {K : Act → World → Prop} (hsel : Region.noSelect ops = true) :
    ∀ (n : Nat) (t : Tr) (listed : Array Bool) (a : Act) (w : World), t.main = true →
    allT md ops t n listed = true → ordT P ops S K t a w → wpAnyS P md ops S K n listed a w := by
  intro n
  induction n with
  | zero =>
    intro t listed a w hm hB h
    cases t with
    | leaf =>
      simp only [allT, Bool.and_eq_true] at hB
      exact ⟨by simpa using hB.2, h⟩
    | read k t => simp [allT] at hB
    | fork t =>
      simp only [allT, Bool.and_eq_true] at hB
      obtain ⟨⟨_, hne⟩, hB'⟩ := hB
      cases t with
      | alt k t m => simp [allT] at hB'
      | leaf => simp [Tr.heads] at hne
      | read k t => simp [Tr.heads] at hne
      | fork t => simp [Tr.heads] at hne
      | stop => simp [Tr.heads] at hne
    | alt k t m => simp [Tr.main] at hm
    | stop => simp [Tr.main] at hm
  | succ n ih =>
    intro t listed a w hm hB h
    cases t with
    | leaf => simp [allT] at hB
    | read k t =>
      simp only [allT, Bool.and_eq_true] at hB
      obtain ⟨⟨⟨hr, hf⟩, hm'⟩, hB'⟩ := hB
      obtain ⟨o, h0, hS, v, hy, hn⟩ := h
      exact wpAnyS_first h0 (Region.noSelect_spec hsel) n listed a w hS (Region.free_spec h0 hf) (by simpa using hr) hy (ih t _ _ _ hm' hB' hn)
    | fork t =>
      simp only [allT, Bool.and_eq_true, beq_iff_eq] at hB
      obtain ⟨⟨hr, hne⟩, hB'⟩ := hB
      refine ⟨fun h0 => by rw [h0] at hr; rw [← hr] at hne; simp at hne, fun i hi oi hoi => ?_⟩
      rw [hr] at hi
      obtain ⟨n', t', e, hm', b, o, h0, c⟩ := alt_each t hB' h i hi
      obtain rfl : n = n' := by omega
      obtain rfl : oi = o := Option.some.inj (hoi.symm.trans h0)
      exact opS_mono c fun a' w' ⟨hS', hk⟩ => ⟨hS', ih t' _ a' w' hm' b hk⟩
    | alt k t m => simp [Tr.main] at hm
    | stop => simp [Tr.main] at hm

theorem wp_region_tree {id : Nat} {a : Act} {w : World} (S : World → Prop) (t : Tr) (hm : P.follows .mixedOrders = true) (hsel : Region.noSelect ops = true)
    (hB : (t.main && allT .any ops t ops.size (Array.replicate ops.size false)) = true)
    (h : ordT P ops S (fun a' w' => Q .normal a' w') t a w.drew) : (Code.region id ops true).wp P Q a w := by
  refine wp_region_any hm ?_
  rw [Bool.and_eq_true] at hB
  exact wpAny_of_S (Q := Q) (fun _ _ hK => hK) ops.size _ a w.drew (wpAnyS_tree (md := .any) hsel ops.size t _ a w.drew hB.1 hB.2 h)

variable {K K' : Act → World → Prop} {o : Oper} {k : Nat} {t m : Tr} {a : Act} {w : World}

theorem T_read (ho : ops[k]? = some o) (hS : S w) (h : ∀ K' : Act → World → Prop, (∀ a, ordT P ops S K t a w → K' a w) → stepR P ops S o a w K') : ordT P ops S K (.read k t) a w :=
  ⟨o, ho, hS, h _ (fun _ h => h)⟩
theorem T_fork (h : ordT P ops S K t a w) : ordT P ops S K (.fork t) a w := h
theorem T_alt (ho : ops[k]? = some o) (h : ∀ K' : Act → World → Prop, (∀ a w, S w → ordT P ops S K t a w → K' a w) → opS P ops o K' a w) (h2 : ordT P ops S K m a w) : ordT P ops S K (.alt k t m) a w :=
  ⟨⟨o, ho, h _ (fun _ _ hS h => ⟨hS, h⟩)⟩, h2⟩
theorem T_stop : ordT P ops S K .stop a w := trivial
theorem T_leaf (h : K a w) : ordT P ops S K .leaf a w := h
end

section
variable {ops : Array Oper} {K' : Act → World → Prop} {o : Oper} {a : Act} {w : World}

theorem R_alloc8 (hw : Region.wanted o (yielded ops a.tmps) = true) (ho : o.op = .alloc 37) (h : ∀ g w1, Has w1 g 37 (u64s [0, 0, 0, 0, 0, 0, 0, 0]) → Below w.heap.size w w1 → w.heap.size ≤ g → K' (a.put o.dst (.pointer (some ⟨g, 0, none⟩))) w1) : opS Try.prog ops o K' a w := by
  refine .inl ⟨hw, ?_⟩
  unfold execOp
  rw [ho]
  go_simp
  exact h _ _ (Has.new _ _ _) ((Below.refl _ _).alloc (Nat.le_refl _) _) (Nat.le_refl _)

theorem R_alloc4 (hw : Region.wanted o (yielded ops a.tmps) = true) (ho : o.op = .alloc 24) (h : ∀ g w1, Has w1 g 24 (u64s [0, 0, 0, 0]) → Below w.heap.size w w1 → w.heap.size ≤ g → K' (a.put o.dst (.pointer (some ⟨g, 0, none⟩))) w1) : opS Try.prog ops o K' a w := by
  refine .inl ⟨hw, ?_⟩
  unfold execOp
  rw [ho]
  go_simp
  exact h _ _ (Has.new _ _ _) ((Below.refl _ _).alloc (Nat.le_refl _) _) (Nat.le_refl _)
end

section
variable {ops : Array Oper} {rest : List Oper} {o : Oper} {a : Act} {w : World} {Q : Exit → Act → World → Prop}

theorem guard24 : Try.prog.eqGuardType Try.prog.depth 24 = false := by kernel_rfl

/-- Two Nats held against each other. -/
theorem neq4w (hw : Region.wanted o (yielded ops a.tmps) = true) (x y : Operand) (t : TypeId) (ho : o.op = .binOp .neq 24 x y t) (xs ys : List Nat) (hx : a.eval x = .agg (u64s xs)) (hy : a.eval y = .agg (u64s ys))
    (hlx : xs.length = 4) (hly : ys.length = 4) (h : wpList Try.prog ops Q rest (a.put o.dst (.bool (!(xs == ys)))) w) : wpList Try.prog ops Q (o :: rest) a w := by
  unfold wpList
  rw [if_pos hw]
  refine .inl ?_
  unfold Oper.wp execOp
  simp only [ho, hx, hy, Sem.run_bind, Sem.run_pure, run_eqGuard_agg (hm := guard24), neq4 xs ys hlx hly w, Result.andThen_ok]
  exact h
end

/-- What has been made so far. -/
structure Ev (W : World) (b9 b10 : Bool) (u9 u10 : Value) (w : World) : Prop where
  keep : Kp W w
  p9 : b9 = true → ∃ g, u9 = .pointer (some ⟨g, 0, none⟩) ∧ W.heap.size ≤ g ∧ Has w g 37 (u64s [0, 0, 0, 0, 0, 0, 0, 0])
  p10 : b10 = true → ∃ g, u10 = .pointer (some ⟨g, 0, none⟩) ∧ W.heap.size ≤ g ∧ Has w g 24 (u64s [0, 0, 0, 0])

section
variable {W w v : World} {b9 b10 : Bool} {u9 u10 : Value}

theorem Ev.start (W : World) (u9 u10 : Value) : Ev W false false u9 u10 W.drew := ⟨Kp.start W, fun h => by simp at h, fun h => by simp at h⟩

theorem Ev.call (h : Ev W b9 b10 u9 u10 w) (hb : Below w.heap.size w v) : Ev W b9 b10 u9 u10 v :=
  ⟨bcall h.keep hb h.keep.size, fun e => by obtain ⟨g, a, b, c⟩ := h.p9 e; exact ⟨g, a, b, c.below hb c.lt⟩, fun e => by obtain ⟨g, a, b, c⟩ := h.p10 e; exact ⟨g, a, b, c.below hb c.lt⟩⟩

theorem Ev.a9 {g : Nat} (h : Ev W b9 b10 u9 u10 w) (hg : Has v g 37 (u64s [0, 0, 0, 0, 0, 0, 0, 0])) (hb : Below w.heap.size w v) (hl : w.heap.size ≤ g) : Ev W true b10 (.pointer (some ⟨g, 0, none⟩)) u10 v :=
  ⟨bcall h.keep hb h.keep.size, fun _ => ⟨g, rfl, Nat.le_trans h.keep.size hl, hg⟩, fun e => by obtain ⟨g, a, b, c⟩ := h.p10 e; exact ⟨g, a, b, c.below hb c.lt⟩⟩

theorem Ev.a10 {g : Nat} (h : Ev W b9 b10 u9 u10 w) (hg : Has v g 24 (u64s [0, 0, 0, 0])) (hb : Below w.heap.size w v) (hl : w.heap.size ≤ g) : Ev W b9 true u9 (.pointer (some ⟨g, 0, none⟩)) v :=
  ⟨bcall h.keep hb h.keep.size, fun e => by obtain ⟨g, a, b, c⟩ := h.p9 e; exact ⟨g, a, b, c.below hb c.lt⟩, fun _ => ⟨g, rfl, Nat.le_trans h.keep.size hl, hg⟩⟩

theorem Ev.h9 {g : Nat} (h : Ev W true b10 (.pointer (some ⟨g, 0, none⟩)) u10 w) : Has w g 37 (u64s [0, 0, 0, 0, 0, 0, 0, 0]) ∧ W.heap.size ≤ g := by
  obtain ⟨g', a, b, c⟩ := h.p9 rfl
  injection a with a; injection a with a; injection a with a
  subst a
  exact ⟨c, b⟩

theorem Ev.h10 {g : Nat} (h : Ev W b9 true u9 (.pointer (some ⟨g, 0, none⟩)) w) : Has w g 24 (u64s [0, 0, 0, 0]) ∧ W.heap.size ≤ g := by
  obtain ⟨g', a, b, c⟩ := h.p10 rfl
  injection a with a; injection a with a; injection a with a
  subst a
  exact ⟨c, b⟩

theorem has_ne {g h : Nat} {c d : Array Value} (a : Has w g 37 c) (b : Has w h 24 d) : g ≠ h := by
  rintro rfl
  unfold Has at a b
  rw [a] at b
  injection b with b
  injection b with _ b
  exact absurd b (by decide)

/-- The first store. -/
theorem Ev.st8 {g h : Nat} {L : List Nat} (e : Ev W true true (.pointer (some ⟨g, 0, none⟩)) (.pointer (some ⟨h, 0, none⟩)) w) (hw : Has v g 37 (u64s L)) (o : Only g w v) :
    Kp W v ∧ Has v g 37 (u64s L) ∧ Has v h 24 (u64s [0, 0, 0, 0]) ∧ W.heap.size ≤ h :=
  ⟨o.below e.keep e.h9.2, hw, e.h10.1.only o (has_ne e.h9.1 e.h10.1).symm, e.h10.2⟩

/-- The second store. -/
theorem st4 {g h : Nat} {L M : List Nat} (s : Kp W w ∧ Has w g 37 (u64s L) ∧ Has w h 24 (u64s [0, 0, 0, 0]) ∧ W.heap.size ≤ h) (hw : Has v h 24 (u64s M)) (o : Only h w v) :
    Kp W v ∧ Has v g 37 (u64s L) ∧ Has v h 24 (u64s M) :=
  ⟨o.below s.1 s.2.2.2, s.2.1.only o (has_ne s.2.1 s.2.2.1), hw⟩
end
end Go.Proofs.Ytbklepgbieohiaa
