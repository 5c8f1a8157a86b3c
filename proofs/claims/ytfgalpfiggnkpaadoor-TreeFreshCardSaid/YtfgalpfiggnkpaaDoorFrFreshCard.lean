/- TreeFresh: over all that its row lets in, the program's law returns true and the input reads as it did; the listed table is tied to the program's text. Condition: the row's own, no other. -/
import Derived.Test.YtfgalpfiggnkpaaDoorFrFreshRow
import Derived.Test.YtfgalpfiggnkpaaDoorTie
import Derived.Test.YtfgalpfiggnkpaaDoorCards
import Derived.SevenTiedAt
set_option linter.unusedVariables false
set_option linter.unusedSimpArgs false
namespace Go.Proofs.YtfgalpfiggnkpaaDoor
open Go
theorem treeFresh_card : Rows.TreeFreshCardSaid :=
  Claim7.holds_tied_plain_at .later [] [.data] true (true, "ad7ebbf4e656603cfdae1e2c7b587827c0a60fce6925a415c658f0871b52c73f") false
    PT.treeFresh_holds (fun _ h => by cases h) (by kernel_rfl) (fun _ h => by cases h) treeFresh_row_tie rfl ⟨rfl, rfl⟩ (by kernel_rfl) rfl
    (fun f fn hf hfn => by
      obtain rfl : f = 7 := Option.some.inj ((show Tryd.prog.funcNamed "phratry/phratrylaw08.TreeFresh" = some 7 by kernel_rfl).symm.trans hf) |>.symm
      obtain rfl : fn = Tryd.f7 := (Option.some.inj (Tryd.func7.symm.trans hfn)).symm
      exact ⟨by kernel_rfl, fun j t ht => by
        rw [Tryd.params7] at ht
        have hm : t ∈ [24, 26, 3] := by simpa using Array.mem_of_getElem? ht
        have hall : ([24, 26, 3].all fun u => !Tryd.prog.wantsStandIn u) = true := by kernel_rfl
        exact (show Tryd.prog.wantsStandIn t = false by simpa using List.all_eq_true.1 hall t hm)⟩)
    (by kernel_rfl)
#print axioms treeFresh_card
end Go.Proofs.YtfgalpfiggnkpaaDoor
