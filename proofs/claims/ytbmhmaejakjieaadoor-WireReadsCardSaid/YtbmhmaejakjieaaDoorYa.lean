/- A region that draws its order: what reads alone is taken first, a call when nothing else is ready; what a call answers need not be known ahead. -/
import Derived.Test.YtbmhmaejakjieaaDoorJa
namespace Go.Proofs.YtbmhmaejakjieaaDoor
open Go

section
variable {P : Program} {ops : Array Oper} {Q : Exit → Act → World → Prop} {md : Region.Mode} {S : World → Prop}

/-- One operation, run; behind it K'. -/
def RunsTo (P : Program) (K' : Value → World → Prop) : Result Next → Prop
  | .ok (.value v) w => K' v w
  | .ok .skip w => K' undef w
  | .ok (.enter f args) w => Calls P f args w fun e w' => ∃ v, e = .returned v ∧ K' v w'
  | _ => False

def opS (P : Program) (ops : Array Oper) (o : Oper) (K : Act → World → Prop) (a : Act) (w : World) : Prop :=
  (Region.wanted o (yielded ops a.tmps) = true ∧ RunsTo P (fun v w' => K (a.put o.dst v) w') ((execOp a.eval o).run P w)) ∨
  (Region.wanted o (yielded ops a.tmps) = false ∧ K (a.put o.dst undef) w)

theorem RunsTo.mono {K K' : Value → World → Prop} {r : Result Next} (hh : RunsTo P K r) (h : ∀ v w, K v w → K' v w) : RunsTo P K' r := by
  cases r with
  | ok n w' =>
    cases n <;> simp only [RunsTo] at hh ⊢
    case value v => exact h _ _ hh
    case skip => exact h _ _ hh
    case enter f args => exact Calls.mono hh fun e w'' ⟨v, he, hk⟩ => ⟨v, he, h _ _ hk⟩
  | halt x w' => exact hh

theorem opS_mono {o : Oper} {K K' : Act → World → Prop} {a : Act} {w : World} (hh : opS P ops o K a w) (h : ∀ a w, K a w → K' a w) : opS P ops o K' a w := by
  rcases hh with ⟨h1, h2⟩ | ⟨h1, h2⟩
  · exact .inl ⟨h1, h2.mono fun v w => h _ _⟩
  · exact .inr ⟨h1, h _ _ h2⟩

theorem opS.wpOp {i : Nat} {o : Oper} {K : Act → World → Prop} {a : Act} {w : World} (hi : ops[i]? = some o) (h : opS P ops o K a w) : wpOp P ops Q i K a w := by
  unfold Go.wpOp
  simp only [hi]
  rcases h with ⟨hw, hv⟩ | ⟨hw, hv⟩
  · simp only [hw, if_true, Oper.wp]
    refine .inl ?_
    generalize (execOp a.eval o).run P w = r at *
    cases r with
    | ok n w' =>
      cases n <;> simp only [RunsTo] at hv <;> simp only [Oper.upon]
      case value v => exact hv
      case skip => exact hv
      case enter f args =>
        refine Calls.mono hv fun e w'' he => ?_
        obtain ⟨v, rfl, h2⟩ := he
        exact h2
    | halt x w' => exact absurd hv (by simp [RunsTo])
  · simp only [hw, Bool.false_eq_true, if_false]; exact hv

/-- An operation that under S leaves v, and the world as it is. -/
def Reads (P : Program) (ops : Array Oper) (S : World → Prop) (o : Oper) (v : Value) (a : Act) : Prop :=
  (Region.wanted o (yielded ops a.tmps) = true ∧ ∀ w, S w → (execOp a.eval o).run P w = .ok (.value v) w) ∨
  (Region.wanted o (yielded ops a.tmps) = false ∧ v = undef)

theorem Reads.of_same {o : Oper} {v : Value} {a a' : Act} (hy : Reads P ops S o v a) (he : execOp a'.eval o = execOp a.eval o)
    (hw : Region.wanted o (yielded ops a'.tmps) = Region.wanted o (yielded ops a.tmps)) : Reads P ops S o v a' := by
  unfold Reads at *
  rw [he, hw]
  exact hy

theorem Reads.opS {o : Oper} {v : Value} {a : Act} (hy : Reads P ops S o v a) {K : Act → World → Prop} {w : World} (hS : S w) (h : K (a.put o.dst v) w) : opS P ops o K a w := by
  rcases hy with ⟨hw, hv⟩ | ⟨hw, rfl⟩
  · exact .inl ⟨hw, by rw [hv w hS]; exact h⟩
  · exact .inr ⟨hw, h⟩

/-- What reads goes ahead of another operation. -/
theorem opS_swap {oi oj : Oper} {v : Value} {K : Act → World → Prop} {a : Act} {w : World} (hsi : ∀ cs b, oi.op ≠ .select cs b) (hsj : ∀ cs b, oj.op ≠ .select cs b)
    (hap : oi.apart ops oj = true) (hy : Reads P ops S oi v a) (h : opS P ops oj (fun a' w' => S w' ∧ K a' w') (a.put oi.dst v) w) :
    opS P ops oj (fun a' w' => S w' ∧ Reads P ops S oi v a' ∧ K (a'.put oi.dst v) w') a w := by
  obtain ⟨h1, h2, h3⟩ := Oper.apart_spec hap
  have keep : ∀ u, Reads P ops S oi v (a.put oj.dst u) := fun u =>
    hy.of_same (execOp_put oi hsi a oj.dst u h3) (wanted_put oi a oj.dst u h3)
  unfold opS at *
  rw [wanted_put oj a oi.dst v h1, execOp_put oj hsj a oi.dst v h1] at h
  rcases h with ⟨hw, hv⟩ | ⟨hw, hS, hk⟩
  · exact .inl ⟨hw, hv.mono fun u w' ⟨hS, hk⟩ => ⟨hS, keep u, by rw [← Act.put_comm a v u h2]; exact hk⟩⟩
  · exact .inr ⟨hw, hS, keep undef, by rw [← Act.put_comm a v undef h2]; exact hk⟩

/-- Whatever order is picked from here on. -/
def wpAnyS (P : Program) (md : Region.Mode) (ops : Array Oper) (S : World → Prop) (K : Act → World → Prop) : Nat → Array Bool → Act → World → Prop
  | 0, listed, a, w => Region.ready md ops listed = [] ∧ K a w
  | fuel + 1, listed, a, w =>
    (Region.ready md ops listed = [] → K a w) ∧
    ∀ i ∈ Region.ready md ops listed, ∀ o, ops[i]? = some o → opS P ops o (fun a' w' => S w' ∧ wpAnyS P md ops S K fuel (listed.setIfInBounds i true) a' w') a w

theorem wpAny_of_S {K : Act → World → Prop} (hK : ∀ a w, K a w → Q .normal a w) : ∀ (fuel : Nat) (listed : Array Bool) (a : Act) (w : World),
    wpAnyS P md ops S K fuel listed a w → wpAny P md ops Q fuel listed a w
  | 0, _, _, _, h => ⟨h.1, hK _ _ h.2⟩
  | fuel + 1, listed, a, w, h => ⟨fun h0 => hK _ _ (h.1 h0), fun i hi => by
      obtain ⟨_, o, ho, _⟩ := mem_ready.1 hi
      exact (opS_mono (h.2 i hi o ho) fun a' w' h' => wpAny_of_S hK fuel _ a' w' h'.2).wpOp ho⟩

theorem wpAnyS_first {K : Act → World → Prop} {i : Nat} {oi : Oper} {v : Value} (hi : ops[i]? = some oi) (hsel : ∀ (j : Nat) (o : Oper) cs b, ops[j]? = some o → o.op ≠ .select cs b) :
    ∀ (fuel : Nat) (listed : Array Bool) (a : Act) (w : World), S w →
      (∀ j oj, ops[j]? = some oj → j ≠ i → listed.getD j true = false → (∀ e ∈ oj.after, Region.binds md e = true → e.on ≠ i) → oi.apart ops oj = true) →
      i ∈ Region.ready md ops listed → Reads P ops S oi v a →
      wpAnyS P md ops S K fuel (listed.setIfInBounds i true) (a.put oi.dst v) w → wpAnyS P md ops S K (fuel + 1) listed a w := by
  intro fuel
  induction fuel with
  | zero =>
    intro listed a w hS _ hr hy H
    refine ⟨fun h => (by rw [h] at hr; cases hr), fun j hj oj hoj => ?_⟩
    by_cases hji : j = i
    · subst hji
      obtain rfl : oi = oj := Option.some.inj (hi.symm.trans hoj)
      exact hy.opS hS ⟨hS, H⟩
    · have := ready_mono hj hji
      rw [H.1] at this
      cases this
  | succ fuel ih =>
    intro listed a w hS hfree hr hy H
    refine ⟨fun h => (by rw [h] at hr; cases hr), fun j hj oj hoj => ?_⟩
    by_cases hji : j = i
    · subst hji
      obtain rfl : oi = oj := Option.some.inj (hi.symm.trans hoj)
      exact hy.opS hS ⟨hS, H⟩
    · obtain ⟨hjun, oj', hoj', hall⟩ := mem_ready.1 hj
      obtain rfl : oj' = oj := Option.some.inj (hoj'.symm.trans hoj)
      have hnot : ∀ e ∈ oj'.after, Region.binds md e = true → e.on ≠ i := fun e he hb heq => by
        have h1 := hall e he hb
        have h0 := (mem_ready.1 hr).1
        rw [heq] at h1
        rcases Nat.lt_or_ge i listed.size with h' | h'
        · simp [h'] at h0 h1; rw [h0] at h1; cases h1
        · simp [Array.getElem?_eq_none h'] at h1
      have hap := hfree j oj' hoj hji hjun hnot
      have hfree' : ∀ k ok, ops[k]? = some ok → k ≠ i → (listed.setIfInBounds j true).getD k true = false →
          (∀ e ∈ ok.after, Region.binds md e = true → e.on ≠ i) → oi.apart ops ok = true := fun k ok hk hki hun hno => by
        refine hfree k ok hk hki ?_ hno
        by_cases hjk : j = k
        · subst hjk; exact hjun
        · rw [getD_set_ne true hjk] at hun; exact hun
      refine opS_mono (opS_swap (fun cs b => hsel i oi cs b hi) (fun cs b => hsel j oj' cs b hoj) hap hy (H.2 j (ready_mono hj hji) oj' hoj)) fun a' w' ⟨hS', hy', hk'⟩ => ⟨hS', ?_⟩
      refine ih (listed.setIfInBounds j true) a' w' hS' hfree' (ready_mono hr (Ne.symm hji)) hy' ?_
      rw [Array.setIfInBounds_comm _ _ hji]
      exact hk'

/-- May the operations be taken in this order? true: it reads; false: it stands alone. -/
def ordAll (md : Region.Mode) (ops : Array Oper) : List (Bool × Nat) → Array Bool → Bool
  | [], listed => (Region.ready md ops listed).isEmpty
  | (true, k) :: l, listed => (Region.ready md ops listed).contains k && Region.free md ops listed k && ordAll md ops l (listed.setIfInBounds k true)
  | (false, k) :: l, listed => (Region.ready md ops listed == [k]) && ordAll md ops l (listed.setIfInBounds k true)

/-- The walk in that order. -/
def ordS (P : Program) (ops : Array Oper) (S : World → Prop) (K : Act → World → Prop) : List (Bool × Nat) → Act → World → Prop
  | [], a, w => K a w
  | (true, k) :: l, a, w => ∃ o, ops[k]? = some o ∧ S w ∧ ∃ v, Reads P ops S o v a ∧ ordS P ops S K l (a.put o.dst v) w
  | (false, k) :: l, a, w => ∃ o, ops[k]? = some o ∧ opS P ops o (fun a' w' => S w' ∧ ordS P ops S K l a' w') a w

theorem wpAnyS_ord {K : Act → World → Prop} (hsel : Region.noSelect ops = true) :
    ∀ (l : List (Bool × Nat)) (listed : Array Bool) (a : Act) (w : World),
    ordAll md ops l listed = true → ordS P ops S K l a w → wpAnyS P md ops S K l.length listed a w
  | [], _, _, _, hB, h => ⟨by simpa [ordAll] using hB, h⟩
  | (true, k) :: l, listed, a, w, hB, h => by
    simp only [ordAll, Bool.and_eq_true] at hB
    obtain ⟨⟨hr, hf⟩, hB'⟩ := hB
    obtain ⟨o, h0, hS, v, hy, hn⟩ := h
    exact wpAnyS_first h0 (Region.noSelect_spec hsel) l.length listed a w hS (Region.free_spec h0 hf) (by simpa using hr) hy
      (wpAnyS_ord hsel l _ _ _ hB' hn)
  | (false, k) :: l, listed, a, w, hB, h => by
    simp only [ordAll, Bool.and_eq_true, beq_iff_eq] at hB
    obtain ⟨hr, hB'⟩ := hB
    obtain ⟨o, h0, h⟩ := h
    refine ⟨fun h' => by rw [h'] at hr; (cases hr), fun i hi oi hoi => ?_⟩
    rw [hr, List.mem_singleton] at hi
    subst hi
    obtain rfl : oi = o := Option.some.inj (hoi.symm.trans h0)
    exact opS_mono h fun a' w' ⟨hS', hk⟩ => ⟨hS', wpAnyS_ord hsel l _ a' w' hB' hk⟩

/-- An order: what reads as soon as it is ready, a call when nothing else is. -/
def isCall (o : Oper) : Bool := match o.op with | .call _ => true | _ => false

def mkOrd (md : Region.Mode) (ops : Array Oper) : Nat → Array Bool → List (Bool × Nat)
  | 0, _ => []
  | f + 1, listed =>
    match (Region.ready md ops listed).find? (fun k => ((ops[k]?).map (fun o => !isCall o)).getD false) with
    | some k => (true, k) :: mkOrd md ops f (listed.setIfInBounds k true)
    | none => match Region.ready md ops listed with
      | k :: _ => (false, k) :: mkOrd md ops f (listed.setIfInBounds k true)
      | [] => []

/-- The region, walked in the order l. -/
theorem wp_region_ord {id : Nat} {a : Act} {w : World} (S : World → Prop) (l : List (Bool × Nat)) (hm : P.follows .mixedOrders = true) (hsel : Region.noSelect ops = true) (hn : l.length = ops.size)
    (hB : ordAll .any ops l (Array.replicate ops.size false) = true)
    (h : ordS P ops S (fun a' w' => Q .normal a' w') l a w.drew) : (Code.region id ops true).wp P Q a w := by
  refine wp_region_any hm ?_
  have h1 := wpAnyS_ord (md := .any) hsel l (Array.replicate ops.size false) a w.drew hB h
  rw [hn] at h1
  exact wpAny_of_S (Q := Q) (fun _ _ hK => hK) ops.size _ a w.drew h1

/-! The steps. -/
variable {K K' : Act → World → Prop} {o : Oper} {k : Nat} {l : List (Bool × Nat)} {a : Act} {w : World}

def stepR (P : Program) (ops : Array Oper) (S : World → Prop) (o : Oper) (a : Act) (w : World) (K' : Act → World → Prop) : Prop := ∃ v, Reads P ops S o v a ∧ K' (a.put o.dst v) w

theorem O_read (ho : ops[k]? = some o) (hS : S w) (h : ∀ K' : Act → World → Prop, (∀ a, ordS P ops S K l a w → K' a w) → stepR P ops S o a w K') : ordS P ops S K ((true, k) :: l) a w :=
  ⟨o, ho, hS, h _ (fun _ h => h)⟩

theorem O_call (ho : ops[k]? = some o) (h : ∀ K' : Act → World → Prop, (∀ a w, S w → ordS P ops S K l a w → K' a w) → opS P ops o K' a w) : ordS P ops S K ((false, k) :: l) a w :=
  ⟨o, ho, h _ (fun _ _ h1 h2 => ⟨h1, h2⟩)⟩

theorem O_nil (h : K a w) : ordS P ops S K [] a w := h

/-- An operation that reckons. -/
theorem R_pure (v : Value) (hw : Region.wanted o (yielded ops a.tmps) = true) (hv : ∀ w, (execOp a.eval o).run P w = .ok (.value v) w)
    (h : K' (a.put o.dst v) w) : stepR P ops S o a w K' :=
  ⟨v, Or.inl ⟨hw, fun w _ => hv w⟩, h⟩

/-- An operation that reads under S. -/
theorem R_read (v : Value) (hw : Region.wanted o (yielded ops a.tmps) = true) (hv : ∀ w, S w → (execOp a.eval o).run P w = .ok (.value v) w)
    (h : K' (a.put o.dst v) w) : stepR P ops S o a w K' :=
  ⟨v, Or.inl ⟨hw, hv⟩, h⟩

/-- An operation that its guard shuts out. -/
theorem R_skip (hw : Region.wanted o (yielded ops a.tmps) = false) (h : K' (a.put o.dst undef) w) : stepR P ops S o a w K' :=
  ⟨undef, Or.inr ⟨hw, rfl⟩, h⟩

/-- A call. -/
theorem R_call (f : FuncId) (args : Array Value) (hw : Region.wanted o (yielded ops a.tmps) = true) (hv : ∀ w, (execOp a.eval o).run P w = .ok (.enter f args) w)
    (hc : Calls P f args w fun e w' => ∃ v, e = .returned v ∧ K' (a.put o.dst v) w') : opS P ops o K' a w :=
  .inl ⟨hw, by rw [hv w]; exact hc⟩

theorem R_callc {Post : Ending → World → Prop} (f : FuncId) (args : Array Value) (hw : Region.wanted o (yielded ops a.tmps) = true) (hv : ∀ w, (execOp a.eval o).run P w = .ok (.enter f args) w)
    (hc : Calls P f args w Post) (h : ∀ e w', Post e w' → ∃ v, e = .returned v ∧ K' (a.put o.dst v) w') : opS P ops o K' a w :=
  .inl ⟨hw, by rw [hv w]; exact hc.mono h⟩

/-- A call that its guard shuts out. -/
theorem R_callskip (hw : Region.wanted o (yielded ops a.tmps) = false) (h : K' (a.put o.dst undef) w) : opS P ops o K' a w :=
  .inr ⟨hw, h⟩
end

section
open Go.RowKit
variable {ops : Array Oper} {K' : Act → World → Prop} {o : Oper} {a : Act} {W w : World}

end
end Go.Proofs.YtbmhmaejakjieaaDoor
