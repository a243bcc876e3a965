/-
  StealOrder's tied card holds: whatever the number of workers and one's own number the law is handed, it answers true; they read as they did.
  Conditions: math/bits.deBruijn32tab, math/bits.deBruijn64tab and internal/strconv.uint64pow10 read as the program's text lays them (the card ties them); no other.
-/
import Derived.Test.YtcpiafgkmakdiaaDoorSxOProof
import Derived.Test.YtcpiafgkmakdiaaDoorCards
import Derived.Test.YtcpiafgkmakdiaaDoorTie
import Derived.SevenTiedAt
set_option maxRecDepth 100000
set_option linter.unusedSimpArgs false
namespace Go.Proofs.YtcpiafgkmakdiaaDoor

theorem stealOrder_card : Rows.StealOrderCardSaid :=
  Claim7.holds_tied_plain_at .later [] [.data, .data, .data] true (true, "f60938a9f91e56ded4b35eeafe5f3e9c3c6e1400f3fe284e35d2755c754c4769") false
    stealOrder_holds (fun _ h => by cases h) (by kernel_rfl) (fun _ h => by cases h) stealOrder_row_tie rfl ⟨rfl, rfl⟩ (by kernel_rfl) rfl
    (fun f fn hf hfn => by
      obtain rfl : f = 3 := Option.some.inj ((show Tryd.prog.funcNamed "treadle/treadlelaw23.StealOrder" = some 3 by kernel_rfl).symm.trans hf) |>.symm
      obtain rfl : fn = Tryd.f3 := (Option.some.inj (Tryd.func3.symm.trans hfn)).symm
      exact ⟨by kernel_rfl, fun j t ht => by
        rw [Tryd.params3] at ht
        have h3 : t = 3 := by
          rcases j with _ | _ | j
          · simpa using ht.symm
          · simpa using ht.symm
          · simp at ht
        subst h3
        exact (show Tryd.prog.wantsStandIn 3 = false by kernel_rfl)⟩)
    (by kernel_rfl)
end Go.Proofs.YtcpiafgkmakdiaaDoor
