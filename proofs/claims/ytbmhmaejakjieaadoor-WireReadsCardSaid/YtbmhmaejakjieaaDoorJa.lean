/- Steps of a region under 'nothing that stood has turned'. -/
import Derived.Test.YtbmhmaejakjieaaDoorIa
import Derived.Test.YtbmhmaejakjieaaDoorWa
namespace Go.Proofs.YtbmhmaejakjieaaDoor
open Go.RowKit

section
variable {ops : Array Oper} {K' : Act → Prop} {o : Oper} {a : Act} {W : World}

/-- What stood in W stands as it was. -/
def Kp (W : World) (w : World) : Prop := Below W.heap.size W w

theorem Kp.start (W : World) : Kp W W.drew := (Below.refl _ _).drew

theorem I_calls {P : Program} (v : Value) (f : FuncId) (args : Array Value) (hw : Region.wanted o (yielded ops a.tmps) = true) (hv : ∀ w, (execOp a.eval o).run P w = .ok (.enter f args) w)
    (hc : ∀ w, Calls P f args w fun e w' => e = .returned v ∧ Below w.heap.size w w')
    (h : K' (a.put o.dst v)) : stepI P ops (Kp W) o a K' :=
  I_call v f args hw hv (fun w hS => (hc w).mono fun _ _ h1 => ⟨h1.1, bcall hS h1.2 hS.size⟩) h
end
end Go.Proofs.YtbmhmaejakjieaaDoor
