/-
  LimitOrder's tied card holds: whatever waits, whatever steps the law is handed, it answers true; the arguments read as they did.
  Conditions: errors.errorType reads as the program's text lays it (the card ties it); no other.
-/
import Derived.Test.YtmnahfonnljobaaGreatDoorSxLOproof
import Derived.Test.YtmnahfonnljobaaGreatDoorCards
import Derived.Test.YtmnahfonnljobaaGreatDoorTie
import Derived.SevenTiedAt
set_option maxRecDepth 100000
namespace Go.Proofs.YtmnahfonnljobaaGreatDoor

theorem limitOrder_card : Rows.LimitOrderCardSaid :=
  Claim7.holds_tied_plain_at .later [] [.handle] true (true, "ed99dcdec33e5e7f9100f48e5bbd5d8f43d757ae0ac036b1d25712d63c841dae") true
    limitOrder_holds (fun _ h => by cases h) (by kernel_rfl) (fun _ h => by cases h) limitOrder_row_tie rfl ⟨rfl, rfl⟩ (by kernel_rfl) rfl
    (fun f fn hf hfn => by
      obtain rfl : f = 6 := Option.some.inj ((show Tryz.prog.funcNamed "treadle/treadlelaw17.LimitOrder" = some 6 by kernel_rfl).symm.trans hf) |>.symm
      obtain rfl : fn = Tryz.f6 := (Option.some.inj (Tryz.func6.symm.trans hfn)).symm
      exact ⟨by kernel_rfl, fun j t ht => by
        rw [Tryz.params6] at ht
        rcases j with _ | _ | j
        · obtain rfl : t = 83 := by simpa using ht.symm
          exact (show Tryz.prog.wantsStandIn 83 = false by kernel_rfl)
        · obtain rfl : t = 37 := by simpa using ht.symm
          exact (show Tryz.prog.wantsStandIn 37 = false by kernel_rfl)
        · simp at ht⟩)
    (by kernel_rfl)
end Go.Proofs.YtmnahfonnljobaaGreatDoor
