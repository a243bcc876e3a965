/-
  LimitNone's tied card holds: whatever time the law is handed, over clocks, tokens and futures that are none, it answers true; the argument reads as it did.
  Conditions: errors.errorType reads as the program's text lays it (the card ties it); no other.
-/
import Derived.Test.YtmnahfonnljobaaGreatDoorSxLNproof
import Derived.Test.YtmnahfonnljobaaGreatDoorCards
import Derived.Test.YtmnahfonnljobaaGreatDoorTie
import Derived.SevenTiedAt
set_option maxRecDepth 100000
namespace Go.Proofs.YtmnahfonnljobaaGreatDoor

theorem limitNone_card : Rows.LimitNoneCardSaid :=
  Claim7.holds_tied_plain_at .later [] [.handle] true (true, "ed99dcdec33e5e7f9100f48e5bbd5d8f43d757ae0ac036b1d25712d63c841dae") true
    limitNone_holds (fun _ h => by cases h) (by kernel_rfl) (fun _ h => by cases h) limitNone_row_tie rfl ⟨rfl, rfl⟩ (by kernel_rfl) rfl
    (fun f fn hf hfn => by
      obtain rfl : f = 5 := Option.some.inj ((show Tryz.prog.funcNamed "treadle/treadlelaw17.LimitNone" = some 5 by kernel_rfl).symm.trans hf) |>.symm
      obtain rfl : fn = Tryz.f5 := (Option.some.inj (Tryz.func5.symm.trans hfn)).symm
      exact ⟨by kernel_rfl, fun j t ht => by
        rw [Tryz.params5] at ht
        have h3 : t = 2 := by
          rcases j with _ | j
          · simpa using ht.symm
          · simp at ht
        subst h3
        exact (show Tryz.prog.wantsStandIn 2 = false by kernel_rfl)⟩)
    (by kernel_rfl)

end Go.Proofs.YtmnahfonnljobaaGreatDoor
