/- append of bytes into one's own slice as a step of a drawn region. -/
import Derived.Test.YtbmhmaejakjieaaDoorBa
import Derived.Test.YtbmhmaejakjieaaDoorYa
namespace Go.Proofs.YtbmhmaejakjieaaDoor
open Go.RowKit

theorem R_app23 {ops : Array Oper} {o : Oper} {a : Act} {w : World} {K' : Act → World → Prop} (hw : Region.wanted o (yielded ops a.tmps) = true) (s x : Operand)
    (ho : o.op = .call { callee := .builtin .append, args := #[s, x], argTypes := #[23, 23] })
    (N : Nat) (v : Value) (L : List Nat) (hs : a.eval s = v) (hown : OwnB w N v L) (g off m c : Nat) (M : List Nat) (hx : a.eval x = .slice (some ⟨g, off, none⟩) m c)
    (hm : M.length = m) (hseg : SegB w g off M) (hlen : L.length + M.length ≤ 1099511627776) (hbase : N ≤ w.heap.size)
    (h : ∀ v' w', OwnB w' N v' (L ++ M) → w.grownBy w' v.ownBlock → K' (a.put o.dst v') w') : opS Tryd.prog ops o K' a w := by
  obtain ⟨i0, hi, hz0, hz1, hz2⟩ := info_parts info5
  have hnews : ∀ j u, (M.map fun n => Value.int .u8 ((n : Nat) : Int))[j]? = some u → w.cell? ((⟨g, off, none⟩ : Addr).add j) = some u := by
    intro j u hu
    have hj : j < M.length := by
      rcases Nat.lt_or_ge j M.length with h1 | h1
      · exact h1
      · simp [List.getElem?_eq_none (show (M.map fun n => Value.int .u8 ((n : Nat) : Int)).length ≤ j by simpa using h1)] at hu
    have hadd : (⟨g, off, none⟩ : Addr).add j = ⟨g, off + j, none⟩ := by unfold Addr.add; split <;> simp_all
    rw [hadd, hseg j hj]
    simp [nth, List.getElem?_eq_getElem hj] at hu ⊢
    exact hu
  have hone : ∀ u ∈ (M.map fun n => Value.int .u8 ((n : Nat) : Int)), u.oneCell' = true := by
    intro u hu
    obtain ⟨n, _, rfl⟩ := List.mem_map.1 hu
    rfl
  obtain ⟨v', w', hr, h2, h3, _⟩ := run_append_own (P := Tryd.prog) w N 23 o.type 5 i0 (.int .u8 0) 1 1 und23 hi hz0 hz1 hz2 rfl (by decide) v L.length _ hown ⟨g, off, none⟩ m c
    (M.map fun n => Value.int .u8 ((n : Nat) : Int)) (by simp [hm]) hnews hone (by unfold maxLen; omega) (by omega) hbase
  refine .inl ⟨hw, ?_⟩
  unfold execOp
  simp only [ho, resolve, invoke, builtin, Sem.run_bind, Sem.run_pure, Result.andThen_ok, List.map_toArray, List.map_cons, List.map_nil, hs, hx, hr, RunsTo]
  refine h v' w' ?_ h3
  unfold OwnB
  rw [List.length_append, List.map_append, hm]
  exact h2
end Go.Proofs.YtbmhmaejakjieaaDoor
