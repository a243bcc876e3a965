/-
  TaskNone's tied card holds: whatever number and reason the law is handed, over tasks that New did not make, it answers true; the arguments read as they did.
  Conditions: errors.errorType reads as the program's text lays it (the card ties it); no other.
-/
import Derived.Test.YtmnahfonnljobaaDoorSxTNproof
import Derived.Test.YtmnahfonnljobaaDoorCards
import Derived.Test.YtmnahfonnljobaaDoorTie
import Derived.SevenTiedAt
set_option maxRecDepth 100000
namespace Go.Proofs.YtmnahfonnljobaaDoor

theorem taskNone_card : Rows.TaskNoneCardSaid :=
  Claim7.holds_tied_plain_at .later [] [.handle] true (true, "2c9b560654e0b73da869e0634945b2345381d85fc5670e0f237763ccc59d3e7e") true
    taskNone_holds (fun _ h => by cases h) (by kernel_rfl) (fun _ h => by cases h) taskNone_row_tie rfl ⟨rfl, rfl⟩ (by kernel_rfl) rfl
    (fun f fn hf hfn => by
      obtain rfl : f = 3 := Option.some.inj ((show Tryd.prog.funcNamed "treadle/treadlelaw13.TaskNone" = some 3 by kernel_rfl).symm.trans hf) |>.symm
      obtain rfl : fn = Tryd.f3 := (Option.some.inj (Tryd.func3.symm.trans hfn)).symm
      exact ⟨by kernel_rfl, fun j t ht => by
        rw [Tryd.params3] at ht
        have h3 : t = 2 := by
          rcases j with _ | _ | j
          · simpa using ht.symm
          · simpa using ht.symm
          · simp at ht
        subst h3
        exact (show Tryd.prog.wantsStandIn 2 = false by kernel_rfl)⟩)
    (by kernel_rfl)

end Go.Proofs.YtmnahfonnljobaaDoor
