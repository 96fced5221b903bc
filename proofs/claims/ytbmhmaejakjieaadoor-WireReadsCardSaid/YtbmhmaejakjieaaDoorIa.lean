/- A region that draws its order, whose operations read, reckon, and call what makes memory alone: one walk in the text's order, under an invariant of the world. -/
import Derived.Orders
import Derived.Tactics
import Derived.KernelRfl
namespace Go.Proofs.YtbmhmaejakjieaaDoor
open Go

section
variable {P : Program} {ops : Array Oper} {Q : Exit → Act → World → Prop} {md : Region.Mode} {S : World → Prop}

/-- What an operation that is run under S comes to: the value v, and a world under S. -/
def ComesTo (P : Program) (S : World → Prop) (v : Value) : Result Next → Prop
  | .ok (.value u) w => u = v ∧ S w
  | .ok .skip w => v = undef ∧ S w
  | .ok (.enter f args) w => Calls P f args w fun e w' => e = .returned v ∧ S w'
  | _ => False

/-- In state a, in every world under S, operation o leaves v, and a world under S. -/
def YieldsTo (P : Program) (ops : Array Oper) (S : World → Prop) (o : Oper) (v : Value) (a : Act) : Prop :=
  (Region.wanted o (yielded ops a.tmps) = true ∧ ∀ w, S w → ComesTo P S v ((execOp a.eval o).run P w)) ∨
  (Region.wanted o (yielded ops a.tmps) = false ∧ v = undef)

theorem YieldsTo.of_same {o : Oper} {v : Value} {a a' : Act} (hy : YieldsTo P ops S o v a) (he : execOp a'.eval o = execOp a.eval o)
    (hw : Region.wanted o (yielded ops a'.tmps) = Region.wanted o (yielded ops a.tmps)) : YieldsTo P ops S o v a' := by
  unfold YieldsTo at *
  rw [he, hw]
  exact hy

theorem YieldsTo.wpOp {i : Nat} {o : Oper} {v : Value} {a : Act} (hi : ops[i]? = some o) (hy : YieldsTo P ops S o v a)
    {K : Act → World → Prop} {w : World} (hS : S w) (h : ∀ w', S w' → K (a.put o.dst v) w') : wpOp P ops Q i K a w := by
  unfold Go.wpOp
  simp only [hi]
  rcases hy with ⟨hw, hv⟩ | ⟨hw, rfl⟩
  · simp only [hw, if_true, Oper.wp]
    refine .inl ?_
    have h1 := hv w hS
    generalize (execOp a.eval o).run P w = r at *
    cases r with
    | ok n w' =>
      cases n <;> simp only [ComesTo] at h1
      case value u => obtain ⟨rfl, h2⟩ := h1; exact h w' h2
      case skip => obtain ⟨rfl, h2⟩ := h1; exact h w' h2
      case enter f args =>
        refine Calls.mono h1 fun e w'' he => ?_
        obtain ⟨rfl, h2⟩ := he
        exact h w'' h2
    | halt x w' => simp only [ComesTo] at h1
  · simp only [hw, Bool.false_eq_true, if_false]; exact h w hS

/-- Whatever order is picked from here on. -/
def wpAnyI (P : Program) (md : Region.Mode) (ops : Array Oper) (S : World → Prop) (K : Act → Prop) : Nat → Array Bool → Act → Prop
  | 0, listed, a => Region.ready md ops listed = [] ∧ K a
  | fuel + 1, listed, a =>
    (Region.ready md ops listed = [] → K a) ∧
    ∀ i ∈ Region.ready md ops listed, ∀ o, ops[i]? = some o → ∃ v, YieldsTo P ops S o v a ∧ wpAnyI P md ops S K fuel (listed.setIfInBounds i true) (a.put o.dst v)

theorem wpAny_of_I {K : Act → Prop} (hK : ∀ a, K a → ∀ w, S w → Q .normal a w) : ∀ (fuel : Nat) (listed : Array Bool) (a : Act) (w : World), S w →
    wpAnyI P md ops S K fuel listed a → wpAny P md ops Q fuel listed a w
  | 0, _, _, w, hS, h => ⟨h.1, hK _ h.2 w hS⟩
  | fuel + 1, listed, a, w, hS, h => ⟨fun h0 => hK _ (h.1 h0) w hS, fun i hi => by
      obtain ⟨_, o, ho, _⟩ := mem_ready.1 hi
      obtain ⟨v, hy, hn⟩ := h.2 i hi o ho
      exact hy.wpOp ho hS fun w' hS' => wpAny_of_I hK fuel _ _ w' hS' hn⟩

theorem wpAnyI_first {K : Act → Prop} {i : Nat} {oi : Oper} {v : Value} (hi : ops[i]? = some oi) (hsel : ∀ (j : Nat) (o : Oper) cs b, ops[j]? = some o → o.op ≠ .select cs b) :
    ∀ (fuel : Nat) (listed : Array Bool) (a : Act),
      (∀ j oj, ops[j]? = some oj → j ≠ i → listed.getD j true = false → (∀ e ∈ oj.after, Region.binds md e = true → e.on ≠ i) → oi.apart ops oj = true) →
      i ∈ Region.ready md ops listed → YieldsTo P ops S oi v a →
      wpAnyI P md ops S K fuel (listed.setIfInBounds i true) (a.put oi.dst v) → wpAnyI P md ops S K (fuel + 1) listed a := by
  intro fuel
  induction fuel with
  | zero =>
    intro listed a _ hr hy H
    refine ⟨fun h => (by rw [h] at hr; cases hr), fun j hj oj hoj => ?_⟩
    by_cases hji : j = i
    · subst hji
      obtain rfl : oi = oj := Option.some.inj (hi.symm.trans hoj)
      exact ⟨v, hy, H⟩
    · have := ready_mono hj hji
      rw [H.1] at this
      cases this
  | succ fuel ih =>
    intro listed a hfree hr hy H
    refine ⟨fun h => (by rw [h] at hr; cases hr), fun j hj oj hoj => ?_⟩
    by_cases hji : j = i
    · subst hji
      obtain rfl : oi = oj := Option.some.inj (hi.symm.trans hoj)
      exact ⟨v, hy, H⟩
    · obtain ⟨hjun, oj', hoj', hall⟩ := mem_ready.1 hj
      obtain rfl : oj' = oj := Option.some.inj (hoj'.symm.trans hoj)
      have hnot : ∀ e ∈ oj'.after, Region.binds md e = true → e.on ≠ i := fun e he hb heq => by
        have h1 := hall e he hb
        have h0 := (mem_ready.1 hr).1
        rw [heq] at h1
        rcases Nat.lt_or_ge i listed.size with h' | h'
        · simp [h'] at h0 h1; rw [h0] at h1; cases h1
        · simp [Array.getElem?_eq_none h'] at h1
      have hap := hfree j oj' hoj hji hjun hnot
      obtain ⟨h1, h2, h3⟩ := Oper.apart_spec hap
      obtain ⟨u, hu, hn⟩ := H.2 j (ready_mono hj hji) oj' hoj
      have hu' : YieldsTo P ops S oj' u a := hu.of_same (execOp_put oj' (fun cs b => hsel j oj' cs b hoj) a oi.dst v h1).symm (wanted_put oj' a oi.dst v h1).symm
      refine ⟨u, hu', ?_⟩
      have hy' : YieldsTo P ops S oi v (a.put oj'.dst u) := hy.of_same (execOp_put oi (fun cs b => hsel i oi cs b hi) a oj'.dst u h3) (wanted_put oi a oj'.dst u h3)
      have hfree' : ∀ k ok, ops[k]? = some ok → k ≠ i → (listed.setIfInBounds j true).getD k true = false →
          (∀ e ∈ ok.after, Region.binds md e = true → e.on ≠ i) → oi.apart ops ok = true := fun k ok hk hki hun hno => by
        refine hfree k ok hk hki ?_ hno
        by_cases hjk : j = k
        · subst hjk; exact hjun
        · rw [getD_set_ne true hjk] at hun; exact hun
      refine ih (listed.setIfInBounds j true) _ hfree' (ready_mono hr (Ne.symm hji)) hy' ?_
      rw [Array.setIfInBounds_comm _ _ hji, ← Act.put_comm a v u h2]
      exact hn

/-- May the operations be taken in the text's order? -/
def lexAll (md : Region.Mode) (ops : Array Oper) : Nat → Nat → Array Bool → Bool
  | 0, _, listed => (Region.ready md ops listed).isEmpty
  | f + 1, k, listed => (Region.ready md ops listed).contains k && Region.free md ops listed k && lexAll md ops f (k + 1) (listed.setIfInBounds k true)

/-- The walk in the text's order. -/
def lexI (P : Program) (ops : Array Oper) (S : World → Prop) (K : Act → Prop) : List Oper → Act → Prop
  | [], a => K a
  | o :: l, a => ∃ v, YieldsTo P ops S o v a ∧ lexI P ops S K l (a.put o.dst v)

theorem wpAnyI_lex {K : Act → Prop} (hsel : Region.noSelect ops = true) :
    ∀ (l : List Oper) (k : Nat) (listed : Array Bool) (a : Act), (∀ j, j < l.length → l[j]? = ops[k + j]?) →
    lexAll md ops l.length k listed = true → lexI P ops S K l a → wpAnyI P md ops S K l.length listed a
  | [], _, _, _, _, hB, h => ⟨by simpa [lexAll] using hB, h⟩
  | o :: l, k, listed, a, hl, hB, h => by
    have h0 : ops[k]? = some o := by simpa using (hl 0 (by simp)).symm
    simp only [List.length_cons, lexAll, Bool.and_eq_true] at hB
    obtain ⟨⟨hr, hf⟩, hB'⟩ := hB
    obtain ⟨v, hy, hn⟩ := h
    exact wpAnyI_first h0 (Region.noSelect_spec hsel) l.length listed a (Region.free_spec h0 hf) (by simpa using hr) hy
      (wpAnyI_lex hsel l (k + 1) _ _ (fun j hj => by have := hl (j + 1) (by simp; omega); simpa [Nat.add_assoc, Nat.add_comm 1 j] using this) hB' hn)

/-- The region. -/
theorem wp_region_inv {id : Nat} {a : Act} {w : World} {l : List Oper} (S : World → Prop) (hm : P.follows .mixedOrders = true) (hsel : Region.noSelect l.toArray = true)
    (hB : lexAll .any l.toArray l.length 0 (Array.replicate l.toArray.size false) = true) (hS : S w.drew)
    (h : lexI P l.toArray S (fun a' => ∀ w', S w' → Q .normal a' w') l a) : (Code.region id l.toArray true).wp P Q a w := by
  refine wp_region_any hm ?_
  have h1 := wpAnyI_lex (md := .any) hsel l 0 (Array.replicate l.toArray.size false) a (fun j _ => by simp) hB h
  have h2 := wpAny_of_I (Q := Q) (fun _ hK => hK) l.length (Array.replicate l.toArray.size false) a w.drew hS h1
  simpa using h2

/-! The steps: one operation, what follows hidden behind a name. -/
variable {K K' : Act → Prop} {o : Oper} {l : List Oper} {a : Act}

def stepI (P : Program) (ops : Array Oper) (S : World → Prop) (o : Oper) (a : Act) (K' : Act → Prop) : Prop := ∃ v, YieldsTo P ops S o v a ∧ K' (a.put o.dst v)

theorem I_step (h : ∀ K' : Act → Prop, (∀ a, lexI P ops S K l a → K' a) → stepI P ops S o a K') : lexI P ops S K (o :: l) a :=
  h _ (fun _ h => h)

/-- An operation that reckons. -/
theorem I_pure (v : Value) (hw : Region.wanted o (yielded ops a.tmps) = true) (hv : ∀ w, (execOp a.eval o).run P w = .ok (.value v) w)
    (h : K' (a.put o.dst v)) : stepI P ops S o a K' :=
  ⟨v, Or.inl ⟨hw, fun w hS => by rw [hv w]; exact ⟨rfl, hS⟩⟩, h⟩

/-- An operation that reads under S. -/
theorem I_read (v : Value) (hw : Region.wanted o (yielded ops a.tmps) = true) (hv : ∀ w, S w → (execOp a.eval o).run P w = .ok (.value v) w)
    (h : K' (a.put o.dst v)) : stepI P ops S o a K' :=
  ⟨v, Or.inl ⟨hw, fun w hS => by rw [hv w hS]; exact ⟨rfl, hS⟩⟩, h⟩

/-- A call. -/
theorem I_call (v : Value) (f : FuncId) (args : Array Value) (hw : Region.wanted o (yielded ops a.tmps) = true) (hv : ∀ w, (execOp a.eval o).run P w = .ok (.enter f args) w)
    (hc : ∀ w, S w → Calls P f args w fun e w' => e = .returned v ∧ S w')
    (h : K' (a.put o.dst v)) : stepI P ops S o a K' :=
  ⟨v, Or.inl ⟨hw, fun w hS => by rw [hv w]; exact hc w hS⟩, h⟩

/-- An operation whose guard shuts it out. -/
theorem I_skip (hw : Region.wanted o (yielded ops a.tmps) = false) (h : K' (a.put o.dst undef)) : stepI P ops S o a K' :=
  ⟨undef, Or.inr ⟨hw, rfl⟩, h⟩

theorem I_nil (h : K a) : lexI P ops S K [] a := h
end
end Go.Proofs.YtbmhmaejakjieaaDoor
