/- Steps of a region under 'nothing that stood has turned'. -/
import Derived.Test.YtbklepgbieohiaaI
import Derived.Test.YtbklepgbieohiaaW
namespace Go.Proofs.Ytbklepgbieohiaa
open Go.RowKit

section
variable {ops : Array Oper} {K' : Act → Prop} {o : Oper} {a : Act} {W : World}

/-- What stood in W stands as it was. -/
def Kp (W : World) (w : World) : Prop := Below W.heap.size W w

theorem Kp.start (W : World) : Kp W W.drew := (Below.refl _ _).drew

theorem I_load4 (hw : Region.wanted o (yielded ops a.tmps) = true) (x : Operand) (ho : o.op = .load 24 x) (g : Nat) (hx : a.eval x = .pointer (some ⟨g, 0, none⟩))
    (t : TypeId) (L : List Nat) (hg : Has W g t (u64s L)) (hl : L.length = 4)
    (h : K' (a.put o.dst (.agg (u64s L)))) : stepI Try.prog ops (Kp W) o a K' := by
  refine I_read _ hw (fun w hS => ?_) h
  have h1 := loadVar4 (hg.below hS hg.lt) hl
  unfold execOp
  simp only [ho, hx, Instr.loadAt, Instr.sureAddr, Sem.run_bind, Sem.run_pure, Result.andThen_ok, h1]

theorem I_load8 (hw : Region.wanted o (yielded ops a.tmps) = true) (x : Operand) (ho : o.op = .load 37 x) (g : Nat) (hx : a.eval x = .pointer (some ⟨g, 0, none⟩))
    (t : TypeId) (L : List Nat) (hg : Has W g t (u64s L)) (hl : L.length = 8)
    (h : K' (a.put o.dst (.agg (u64s L)))) : stepI Try.prog ops (Kp W) o a K' := by
  refine I_read _ hw (fun w hS => ?_) h
  have h1 := loadVar8 (hg.below hS hg.lt) hl
  unfold execOp
  simp only [ho, hx, Instr.loadAt, Instr.sureAddr, Sem.run_bind, Sem.run_pure, Result.andThen_ok, h1]

theorem I_calls {P : Program} (v : Value) (f : FuncId) (args : Array Value) (hw : Region.wanted o (yielded ops a.tmps) = true) (hv : ∀ w, (execOp a.eval o).run P w = .ok (.enter f args) w)
    (hc : ∀ w, Calls P f args w fun e w' => e = .returned v ∧ Below w.heap.size w w')
    (h : K' (a.put o.dst v)) : stepI P ops (Kp W) o a K' :=
  I_call v f args hw hv (fun w hS => (hc w).mono fun _ _ h1 => ⟨h1.1, bcall hS h1.2 hS.size⟩) h
end
end Go.Proofs.Ytbklepgbieohiaa
