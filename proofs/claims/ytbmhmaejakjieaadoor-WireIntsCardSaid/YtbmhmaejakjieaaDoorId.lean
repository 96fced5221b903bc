/- WireInts, the tied card: whatever the number and the bytes are, the function returns true, and both read as before. Condition: the one listed package variable, errors.errorType, holds what the program's text lays (the card ties it). -/
import Derived.Test.YtbmhmaejakjieaaDoorIc
namespace Go.Proofs.YtbmhmaejakjieaaDoor
open Go

theorem wireIntsCard_holds : Rows.WireIntsCardSaid :=
  Claim7.holds_tied_plain_at .later [] [.handle] true (true, "ac7c5bf24e251efa4993f8149a9597ad5a19dc23dfad15060b782f52767e500b") true
    wireInts_holds (fun _ h => by cases h) (by kernel_rfl) (fun _ h => by cases h) wireInts_row_tie rfl ⟨rfl, rfl⟩ (by kernel_rfl) rfl
    (fun f fn hf hfn => by
      obtain rfl : f = 6 := Option.some.inj ((show Tryd.prog.funcNamed "seneschal/seneschallaw08.WireInts" = some 6 by kernel_rfl).symm.trans hf) |>.symm
      obtain rfl : fn = Tryd.f6 := (Option.some.inj (Tryd.func6.symm.trans hfn)).symm
      exact ⟨by kernel_rfl, fun j t ht => by
        rw [Tryd.params6] at ht
        have h3 : t = 3 ∨ t = 39 := by
          rcases j with _ | j
          · left; simpa using ht.symm
          · rcases j with _ | j
            · right; simpa using ht.symm
            · simp at ht
        rcases h3 with rfl | rfl
        · exact (show Tryd.prog.wantsStandIn 3 = false by kernel_rfl)
        · exact (show Tryd.prog.wantsStandIn 39 = false by kernel_rfl)⟩)
    (by kernel_rfl)
#print axioms wireIntsCard_holds
end Go.Proofs.YtbmhmaejakjieaaDoor
