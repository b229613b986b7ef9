/- FormatReport of the program gives what FormatReport of the reference gives, for every report: the statement's own row. Conditions: the row's own. -/
import Derived.Test.YtgeocanldpolpaaDoorMA
import Derived.Test.YtgeocanldpolpaaDoorM3Row
import Derived.Test.YtgeocanldpolpaaDoorRows
import Derived.Test.YtgeocanldpolpaaDoorChecked
import Derived.ProofKit
import Derived.LaidMore
import Derived.LaidLaws
import Derived.OpenShut
import Derived.Stop.LaidErr
import Derived.Lib.LaidTab
import Derived.JoinedOf
import Derived.JoinedAt
set_option linter.unusedVariables false
namespace Go.Proofs.YtgeocanldpolpaaDoor
open Go.ChangeShapes Go.WideShapes Go.ChangeAt Go.RowKit

theorem own : ownKnob Tryd.prog.godebug = none := by kernel_rfl
theorem laidOut : laidOutB Tryd.prog = true := by kernel_rfl
abbrev laid3 : List (String × DataW Unit) := Rows.fnExactFormatReportRow.laid

theorem door_met (os : Os) (args : Array Value) : laidMet Tryd.prog laid3 ((World.doorLaid Tryd.prog 400 os).forCall (fun _ _ => 0) ⟨#[], args, []⟩).memory :=
  laidMet_of_run' 8 (by kernel_rfl) (by kernel_rfl)

theorem known {W : World} (h : laidMet Tryd.prog laid3 W) : M3.Known Tryd.prog W M3.noOwn := by
  have h2 : laidMet Tryd.prog [("internal/strconv.uint64pow10", Lib.tabData .u64 Lib.pow10Tab)] W := h.tail.tail
  have hg : Tryd.prog.globalNamed "internal/strconv.uint64pow10" = some 0 := by kernel_rfl
  have ht : Lib.TabIs Tryd.prog W "internal/strconv.uint64pow10" .u64 Lib.pow10Tab := Lib.tabIs_of_head (t := 49) (e := 42) (n := 20) hg (by kernel_rfl) (by kernel_rfl) Tryd.underlying42 (by kernel_rfl) (by kernel_rfl) h2
  intro p hp
  obtain rfl := List.mem_singleton.1 hp
  refine ⟨0, hg, ht, fun h => h, ?_⟩
  unfold Lib.TabIs World.var? at ht
  rw [hg] at ht
  simp only [Option.bind_some] at ht
  split at ht
  · rename_i hb; exact M3.arr_lt hb
  · cases ht

theorem wf_i64 {n : Int} (h : (Lit.int .i64 n).wf = true) : -9223372036854775808 ≤ n ∧ n ≤ 9223372036854775807 := by
  have e1 : IntKind.i64.min = -9223372036854775808 := rfl
  have e2 : IntKind.i64.max = 9223372036854775807 := rfl
  simpa [Lit.wf, e1, e2] using h

set_option maxRecDepth 100000 in
theorem lifted (os : Os) (started : os.Started) (H : Type) (enc : TypeId × Value → H) :
    ReturnsInHanded {} Tryd.checked os 3 .any (fun w args => (Rows.fnExactFormatReportSpec.pre enc Tryd.prog Tryd.f3 [] false w args ∧ laidMet Tryd.prog laid3 w) ∧ sizedMet enc Tryd.prog Tryd.f3 (OpenSpec.ofChange Rows.fnExactFormatReportSpec) false w args)
      (Rows.fnExactFormatReportSpec.post enc Tryd.prog Tryd.f3 false true false false) := by
  refine returnsInHanded_of_change_and (C := Tryd.checked) (X := fun w _ => laidMet Tryd.prog laid3 w) (fun _ _ _ hh h => h.of_heap hh) own started (by kernel_rfl) Tryd.func3
    (ChangeSpec.witness_shaped (enc := enc) (C := Tryd.checked) (os := os) (X := fun w _ => laidMet Tryd.prog laid3 w) false (World.doorLaid Tryd.prog 400 os) #[.agg #[.slice none 0 0, .slice none 0 0, .int .i64 0]] 8 rfl (World.shaped_of_RefB (by kernel_rfl) (by kernel_rfl)) (by kernel_rfl) (by kernel_rfl) (by kernel_rfl) (door_met os _)) ?_
  intro W base args ds gs before hval0 hW _ _ hL _
  have hval : ∀ (j : Nat) t v, Tryd.f3.params[j]? = some t → args[j]? = some v → Value.okWide Tryd.prog W .any base t v := hval0
  have hW' := hW
  have hlt := hW.lt
  obtain ⟨p, q, hA0, hV, rfl, hfz, hnd⟩ := hW
  have hA : DataW.TrodAll enc Tryd.prog W 0 (fun _ => true) true Tryd.f3.params.toList args.toList ds p := hA0
  rw [Tryd.params3] at hA hval
  obtain ⟨v0, d0, rfl, rfl, h0⟩ := trodAll_one hA
  obtain ⟨rfl, rfl⟩ := trodVars_none hV
  obtain ⟨cs, hty, hvr⟩ := M3.Trod_struct (n := 4) Tryd.underlying24 (by kernel_rfl) (hval 0 24 v0 rfl rfl) h0
  simp only [List.append_nil] at hW' hlt
  simp [M3.typed, M3.typedF] at hty
  obtain ⟨_, _, rfl, ⟨es, rfl, hes, hxs⟩, _, _, rfl, ⟨fs, rfl, hfs, hys⟩, k, rfl, hk⟩ := hty
  obtain ⟨l, rfl, hl⟩ := M3.typed_map (g := fun n => [M3.AV.int .i64 n]) hxs
  obtain ⟨m, rfl, hm⟩ := M3.typed_map (g := fun n => [M3.AV.int .i64 n]) hys
  have okl : Ok l := fun n hn => wf_i64 (hl n hn)
  have okm : Ok m := fun n hn => wf_i64 (hm n hn)
  rw [List.length_map] at hes hfs
  unfold maxLen at hes hfs
  have hcall := Law_ok l m k (by omega) (by omega) okl okm
  refine (hcall.calls (M3.Enters.of Tryd.func3 (by kernel_rfl) (by kernel_rfl)) (known hL) ⟨rfl, fun i c hc => by
    cases i with
    | zero => simp at hc; subst hc; exact hvr
    | succ i => simp at hc⟩).mono fun e W' ho => ?_
  obtain ⟨v, rfl, hb, hv⟩ := ho
  cases hv
  refine ⟨_, rfl, _, _, _, [], p, [], hW', ?_, ?_, rfl, ?_, fun h => by cases h⟩
  · exact trodAll_mk1 (shut_bool Tryd.underlying4 _)
  · exact trodAll_mk1 (Below.trod laidOut (by kernel_rfl) (show 24 < Tryd.prog.types.size from of_decide_eq_true (by kernel_rfl)) h0 hb hlt)
  · exact hb.frame _

theorem row_holds : Rows.FnExactFormatReportSaid :=
  OpenClaim.holds_of_wide 3 Tryd.f3 rfl rfl rfl rfl rfl rfl rfl ⟨rfl, rfl, rfl, rfl, rfl⟩ rfl rfl rfl rfl rfl (by kernel_rfl) Tryd.func3 (by kernel_rfl)
    (of_decide_eq_true (by kernel_rfl)) (by unfold Func.isWrapper; first | (rw [if_pos (by decide +kernel)]; kernel_rfl) | (rw [if_neg (by decide +kernel)]; exact ⟨rfl, rfl⟩))
    (fun os started H enc _ => lifted os started H enc)
end Go.Proofs.YtgeocanldpolpaaDoor
