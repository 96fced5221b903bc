/- How an argument of the given rows is opened: an array of bytes. A world that meets the rows' condition. -/
import Derived.Test.YtbmhmaejakjieaaDoorRows
import Derived.Test.YtbmhmaejakjieaaDoorTie
import Derived.Test.YtbmhmaejakjieaaDoorTa
import Derived.ChangeSame
import Derived.ChangeVars
import Derived.JoinedOf
import Derived.RowKit
import Derived.RowKitTokens
import Derived.LaidLaws
import Derived.LaidHandle
import Derived.Stop.Joined
import Derived.SevenTiedAt
import Derived.ProofKit
import Derived.Laws.IdiomArrays
import Derived.Lib.SmallJoins
namespace Go.Proofs.YtbmhmaejakjieaaDoor
open Go.ChangeShapes Go.WideShapes Go.ChangeAt Go.RowKit

theorem Tryd.own : ownKnob Tryd.prog.godebug = none := by kernel_rfl
theorem Tryd.lies : laidOutB Tryd.prog = true := by kernel_rfl
theorem cells5 : Tryd.prog.cellsOf 5 = 1 := by kernel_rfl
theorem cells39 : Tryd.prog.cellsOf 39 = 8 := by kernel_rfl
theorem und39 : Tryd.prog.underlying 39 = some (.array 8 5) := by kernel_rfl
theorem und3 : Tryd.prog.underlying 3 = some (.int .i64) := by kernel_rfl
theorem und4 : Tryd.prog.underlying 4 = some .bool := by kernel_rfl

section
variable {H : Type} {enc : TypeId × Value → H} {W : World} {base b0 : Nat} {spare : Nat → Bool} {held : Bool}

/-- Cells that read one by one as bytes are the cells of such a list. -/
theorem u8s_of : ∀ (cs : List Value), (∀ (i : Nat), i < cs.length → ∃ n : Nat, n < 256 ∧ cs[i]? = some (.int .u8 ((n : Nat) : Int))) → ∃ L : List Nat, Byt L ∧ L.length = cs.length ∧ cs.toArray = u8s L
  | [], _ => ⟨[], (fun x hx => by cases hx), rfl, rfl⟩
  | c :: cs, h => by
    obtain ⟨n, hn, he⟩ := h 0 (by simp)
    simp at he
    obtain ⟨L, hd, hl, hc⟩ := u8s_of cs fun i hi => by
      obtain ⟨m, hm, e⟩ := h (i + 1) (by simp; omega)
      exact ⟨m, hm, by simpa using e⟩
    refine ⟨n :: L, ?_, by simp [hl], ?_⟩
    · intro x hx
      rcases List.mem_cons.1 hx with rfl | hx
      · exact hn
      · exact hd x hx
    · subst he
      have : cs = L.map fun n => Value.int .u8 ((n : Nat) : Int) := by
        have := congrArg Array.toList hc
        simpa [u8s] using this
      simp [u8s, this]

set_option maxRecDepth 100000 in
theorem open_bytesA {t : TypeId} {k : Nat} (ht : Tryd.prog.underlying t = some (.array k 5)) (hk : Tryd.prog.cellsOf t = k) {v : Value} {d : DataW H} {p : List MemPlace}
    (hv : Value.okWide Tryd.prog W .any b0 t v) (h : DataW.Trod enc Tryd.prog W base spare held t v d p) : ∃ L : List Nat, L.length = k ∧ Byt L ∧ v = .agg (u8s L) := by
  obtain ⟨cs, rfl, hsz⟩ : ∃ cs, v = .agg cs ∧ cs.size = k := by
    obtain ⟨cs, h1, h2, _⟩ : ∃ cs, v = .agg cs ∧ cs.size = Tryd.prog.cellsOf t ∧ Row.okWide Tryd.prog W .any b0 t cs := by simpa [Value.okWide, ht] using hv
    exact ⟨cs, h1, h2.trans hk⟩
  obtain ⟨fuel, hf⟩ := h
  obtain ⟨xs, m, _, _, hlen, hxl, hel⟩ := DataW.trod_array ht hf
  simp only [Value.cells] at hlen hel
  obtain ⟨L, hd, hl, hc⟩ := u8s_of cs.toList fun i hi => by
    have hi' : i < k := by simpa [hsz] using hi
    have he := hel i hi'
    rw [cells5] at he
    have e1 : (cs.toList.drop (i * 1)).take 1 = [cs.toList[i]] := by
      rw [Nat.mul_one, List.drop_eq_getElem_cons hi]; rfl
    rw [e1, List.getElem?_eq_getElem (by omega)] at he
    obtain ⟨n, hn, _, hw⟩ := DataW.trod_int und5 he
    simp at hn
    have hb := bounds_u8 hw
    refine ⟨n.toNat, by omega, ?_⟩
    have hn' : cs.toList[i] = .int .u8 n := by simpa using hn
    rw [List.getElem?_eq_getElem hi, hn']; congr 2; omega
  refine ⟨L, ?_, hd, ?_⟩
  · rw [hl]; simpa using hsz
  · rw [← hc]
end

theorem Tryd.et : Tryd.prog.globalNamed "errors.errorType" = some 0 := by kernel_rfl
theorem Tryd.rt : (Tryd.prog.cutTypes.find? (·.1 == "internal/reflectlite.rtype")).map (·.2) = some 81 := by kernel_rfl
theorem Tryd.oneRow : ((List.range 124).filter fun t => Tryd.prog.rowNamed t [101, 114, 114, 111, 114]) = [56] := by kernel_rfl
theorem Tryd.size : Tryd.prog.types.size = 124 := by kernel_rfl

def laidList : List (String × DataW Unit) := [("errors.errorType", Rows.laid_errors_errorType)]

/-- What the condition gives a walk: the variable's one cell. -/
theorem handle_of_laid {W : World} (h : laidMetH Tryd.prog laidList W) : W.cell? ⟨0, 0, none⟩ = some (.iface 81 (.agg #[.pointer (some ⟨1, 56, none⟩)])) := by
  have h' : laidMet Tryd.prog [] W ∧ handlesMet Tryd.prog laidList W := h
  obtain ⟨name, u, ty, e1, e2, e3, e4, e5⟩ := h'.2 _ (List.mem_singleton.2 rfl)
  have en : name = [101, 114, 114, 111, 114] := (Option.some.inj e1).symm
  subst en
  obtain rfl := Option.some.inj (Tryd.rt.symm.trans e2)
  have hm : ty ∈ (List.range 124).filter fun t => Tryd.prog.rowNamed t [101, 114, 114, 111, 114] := List.mem_filter.2 ⟨List.mem_range.2 (by rw [← Tryd.size]; exact e3), e4⟩
  rw [Tryd.oneRow] at hm
  obtain rfl := List.mem_singleton.1 hm
  have hh : typeHandle Tryd.prog 56 = .pointer (some ⟨1, 56, none⟩) := by kernel_rfl
  rw [hh] at e5
  simpa using World.var?_cell Tryd.et e5 0

/-- A world that meets the condition: the settled one, the variable's cell laid. -/
noncomputable def laidWorld (os : Os) : World :=
  let w0 := World.holding Tryd.prog os ⟨#[], #[], []⟩
  { w0 with heap := w0.heap.modify 0 fun
      | .cells _ t frozen => .cells #[.iface 81 (.agg #[.pointer (some ⟨1, 56, none⟩)])] t frozen
      | o => o }

theorem laidWorld_met (os : Os) (args : Array Value) : laidMetH Tryd.prog laidList ((laidWorld os).forCall (fun _ _ => 0) ⟨#[], args, []⟩).memory :=
  laidMetH_of_parts (laidMet_nil _ _) (by kernel_rfl)
end Go.Proofs.YtbmhmaejakjieaaDoor
