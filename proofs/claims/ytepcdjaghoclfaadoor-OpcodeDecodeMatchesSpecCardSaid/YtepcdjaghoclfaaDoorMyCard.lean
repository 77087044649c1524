/- The tied card of OpcodeDecodeMatchesSpec: for all bytes the function returns true and leaves its argument as it was. Conditions: none but that the two listed variables of the library's hold what the program's text lays in them, which the card ties to that text. -/
import Derived.Test.YtepcdjaghoclfaaDoorMyRow
import Derived.Test.YtepcdjaghoclfaaDoorCards
import Derived.Test.YtepcdjaghoclfaaDoorTie
import Derived.SevenTiedAt
namespace Go.Proofs.YtepcdjaghoclfaaDoor
open Go

theorem opcodeDecodeMatchesSpec_holds : Rows.OpcodeDecodeMatchesSpecCardSaid :=
  Claim7.holds_tied_plain_at .later [] [.listed, .data] true (true, "fc36372fd873b677c2470cd47b885ae84efb4493afab5f54a23331eabafb5ab9") false
    My.row_holds (fun _ h => by cases h) (by kernel_rfl) (fun _ h => by cases h) opcodeDecodeMatchesSpec_row_tie rfl ⟨rfl, rfl⟩ (by kernel_rfl) rfl
    (fun f fn hf hfn => by
      obtain rfl : f = 3 := Option.some.inj ((show Tryd.prog.funcNamed "brindlewood/brindlewoodlaw8.OpcodeDecodeMatchesSpec" = some 3 by kernel_rfl).symm.trans hf) |>.symm
      obtain rfl : fn = Tryd.f3 := (Option.some.inj (Tryd.func3.symm.trans hfn)).symm
      exact ⟨by kernel_rfl, fun j t ht => by
        rw [Tryd.params3] at ht
        have hm : t ∈ [22] := by simpa using Array.mem_of_getElem? ht
        have hall : ([22].all fun u => !Tryd.prog.wantsStandIn u) = true := by kernel_rfl
        exact (show Tryd.prog.wantsStandIn t = false by simpa using List.all_eq_true.1 hall t hm)⟩)
    (by kernel_rfl)
#print axioms opcodeDecodeMatchesSpec_holds
end Go.Proofs.YtepcdjaghoclfaaDoor
