/- FormatReport of the program gives what FormatReport of the reference gives, for every report: the tied card. Conditions: the three tables of the library stand as the program's text lays them, which the card ties. -/
import Derived.Test.YtgeocanldpolpaaDoorMB
import Derived.Test.YtgeocanldpolpaaDoorCards
import Derived.Test.YtgeocanldpolpaaDoorTie
import Derived.SevenTiedAt
namespace Go.Proofs.YtgeocanldpolpaaDoor
open Go

theorem card_holds : Rows.FnExactFormatReportCardSaid :=
  Claim7.holds_tied_plain_at .later [] [.data, .data, .data] true (true, "0493cab331abb612a2ed95668705470152ed3b4447001e7391a9d2c2cb0cc2dd") false
    row_holds (fun _ h => by cases h) (by kernel_rfl) (fun _ h => by cases h) fnExactFormatReport_row_tie rfl ⟨rfl, rfl⟩ (by kernel_rfl) rfl
    (fun f fn hf hfn => by
      obtain rfl : f = 3 := Option.some.inj ((show Tryd.prog.funcNamed "loop.example/g01924/laws.FnExactFormatReport" = some 3 by kernel_rfl).symm.trans hf) |>.symm
      obtain rfl : fn = Tryd.f3 := (Option.some.inj (Tryd.func3.symm.trans hfn)).symm
      exact ⟨by kernel_rfl, fun j t ht => by
        rw [Tryd.params3] at ht
        have hm : t ∈ [24] := by simpa using Array.mem_of_getElem? ht
        have hall : ([24].all fun u => !Tryd.prog.wantsStandIn u) = true := by kernel_rfl
        exact (show Tryd.prog.wantsStandIn t = false by simpa using List.all_eq_true.1 hall t hm)⟩)
    (by kernel_rfl)
#print axioms card_holds
end Go.Proofs.YtgeocanldpolpaaDoor
