/- How an argument of the given rows is opened: a number of four digits, one of eight, bytes, a text. -/
import Derived.Test.YtbklepgbieohiaaRows
import Derived.Test.YtbklepgbieohiaaW
import Derived.ProofKit
import Derived.Laws.IdiomArrays
import Derived.Lib.SmallJoins
namespace Go.Proofs.Ytbklepgbieohiaa
open Go.ChangeShapes Go.WideShapes Go.ChangeAt Go.RowKit

theorem Try.own : ownKnob Try.prog.godebug = none := by kernel_rfl
theorem Try.laidOut : laidOutB Try.prog = true := by kernel_rfl
theorem cells24 : Try.prog.cellsOf 24 = 4 := by kernel_rfl
theorem cells37 : Try.prog.cellsOf 37 = 8 := by kernel_rfl
theorem cells22 : Try.prog.cellsOf 22 = 1 := by kernel_rfl

section
variable {H : Type} {enc : TypeId × Value → H} {W : World} {base b0 : Nat} {spare : Nat → Bool} {held : Bool}

/-- Cells that read one by one as 64-bit numbers are the cells of such a list. -/
theorem u64s_of : ∀ (cs : List Value), (∀ (i : Nat), i < cs.length → ∃ n, n < B ∧ cs[i]? = some (.int .u64 ((n : Nat) : Int))) → ∃ L : List Nat, Dig L ∧ L.length = cs.length ∧ cs.toArray = u64s L
  | [], _ => ⟨[], Dig.nil, rfl, rfl⟩
  | c :: cs, h => by
    obtain ⟨n, hn, he⟩ := h 0 (by simp)
    simp at he
    obtain ⟨L, hd, hl, hc⟩ := u64s_of cs fun i hi => by
      obtain ⟨m, hm, e⟩ := h (i + 1) (by simp; omega)
      exact ⟨m, hm, by simpa using e⟩
    refine ⟨n :: L, Dig.cons hn hd, by simp [hl], ?_⟩
    subst he
    have : cs = L.map fun n => Value.int .u64 ((n : Nat) : Int) := by
      have := congrArg Array.toList hc
      simpa [u64s] using this
    simp [u64s, this]

theorem open_digits {t : TypeId} {k : Nat} (ht : Try.prog.underlying t = some (.array k 22)) (hk : Try.prog.cellsOf t = k) {v : Value} {d : DataW H} {p : List MemPlace}
    (hv : Value.okWide Try.prog W .any b0 t v) (h : DataW.Trod enc Try.prog W base spare held t v d p) : ∃ x, x < B ^ k ∧ v = .agg (u64s (digs k x)) := by
  obtain ⟨cs, rfl, hsz⟩ : ∃ cs, v = .agg cs ∧ cs.size = k := by
    have := hv
    simp only [Value.okWide, ht] at this
    obtain ⟨cs, h1, h2, _⟩ : ∃ cs, v = .agg cs ∧ cs.size = Try.prog.cellsOf t ∧ Row.okWide Try.prog W .any b0 t cs := by simpa [Value.okWide, ht] using hv
    exact ⟨cs, h1, h2.trans hk⟩
  obtain ⟨fuel, hf⟩ := h
  obtain ⟨xs, m, _, _, hlen, hxl, hel⟩ := DataW.trod_array ht hf
  simp only [Value.cells] at hlen hel
  obtain ⟨L, hd, hl, hc⟩ := u64s_of cs.toList fun i hi => by
    have hi' : i < k := by simpa [hsz] using hi
    have he := hel i hi'
    rw [cells22] at he
    have e1 : (cs.toList.drop (i * 1)).take 1 = [cs.toList[i]] := by
      rw [Nat.mul_one, List.drop_eq_getElem_cons hi]; rfl
    rw [e1, List.getElem?_eq_getElem (by omega)] at he
    obtain ⟨n, hn, _, hw⟩ := DataW.trod_int und22 he
    simp at hn
    have hb := bounds_u64 hw
    refine ⟨n.toNat, ?_, ?_⟩
    · unfold B; omega
    · have hn' : cs.toList[i] = .int .u64 n := by simpa using hn
      rw [List.getElem?_eq_getElem hi, hn']; congr 2; omega
  refine ⟨val L, ?_, ?_⟩
  · have := val_lt hd
    rwa [hl, show cs.toList.length = k by simpa using hsz] at this
  · rw [← eq_digs (k := k) (by rw [hl]; simpa using hsz) hd, ← hc]
end
end Go.Proofs.Ytbklepgbieohiaa
