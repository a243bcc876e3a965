/-
  JoinNone's tied card holds: whatever three numbers the law is handed, it answers true; they read as they did.
  Conditions: errors.errorType reads as the program's text lays it (the card ties it); no other.
-/
import Derived.Test.YtmnahfonnljobaaGreatDoorSxJNproof
import Derived.Test.YtmnahfonnljobaaGreatDoorCards
import Derived.Test.YtmnahfonnljobaaGreatDoorTie
import Derived.SevenTiedAt
set_option maxRecDepth 100000
namespace Go.Proofs.YtmnahfonnljobaaGreatDoor

theorem joinNone_card : Rows.JoinNoneCardSaid :=
  Claim7.holds_tied_plain_at .later [] [.handle] true (true, "ed99dcdec33e5e7f9100f48e5bbd5d8f43d757ae0ac036b1d25712d63c841dae") true
    joinNone_holds (fun _ h => by cases h) (by kernel_rfl) (fun _ h => by cases h) joinNone_row_tie rfl ⟨rfl, rfl⟩ (by kernel_rfl) rfl
    (fun f fn hf hfn => by
      obtain rfl : f = 4 := Option.some.inj ((show Tryz.prog.funcNamed "treadle/treadlelaw16.JoinNone" = some 4 by kernel_rfl).symm.trans hf) |>.symm
      obtain rfl : fn = Tryz.f4 := (Option.some.inj (Tryz.func4.symm.trans hfn)).symm
      exact ⟨by kernel_rfl, fun j t ht => by
        rw [Tryz.params4] at ht
        have h3 : t = 3 := by
          rcases j with _ | _ | _ | j
          · simpa using ht.symm
          · simpa using ht.symm
          · simpa using ht.symm
          · simp at ht
        subst h3
        exact (show Tryz.prog.wantsStandIn 3 = false by kernel_rfl)⟩)
    (by kernel_rfl)

end Go.Proofs.YtmnahfonnljobaaGreatDoor
