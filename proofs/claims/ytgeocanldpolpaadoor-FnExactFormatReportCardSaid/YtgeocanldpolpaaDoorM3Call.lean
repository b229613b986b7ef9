/- Functions: from the walk over a body to the call. -/
import Derived.Test.YtgeocanldpolpaaDoorM3Wp
set_option linter.unusedVariables false
namespace Go.M3

def aRes1 (P : Program) (σ : AS) : ResultVar → Option AV
  | .tmp t => some (σ.t t)
  | .cell a t => aLoad P σ.h t (σ.t a)

def aResL (P : Program) (σ : AS) : List ResultVar → Option (List AV)
  | [] => some []
  | r :: rs => match aRes1 P σ r, aResL P σ rs with
    | some v, some vs => some (v :: vs)
    | _, _ => none

def aResults (P : Program) (rs : Array ResultVar) (σ : AS) : Option AV :=
  match aResL P σ rs.toList with
  | some [v] => some v
  | some vs => some (.tup vs)
  | none => none

section
variable {P : Program}

theorem res1_sound {σ : AS} {a : Act} {w : World} {O : Nat → Prop} {β : Map} {r : ResultVar} {v : AV} (hs : SR a w O β σ) (h : aRes1 P σ r = some v) :
    ∃ x, (match r with | .tmp t => pure (a.tmps.getD t undef) | .cell c t => do loadVar t (← asAddr (a.tmps.getD c undef)) : Sem Value).run P w = .ok x w ∧ VR w O β v x := by
  cases r with
  | tmp t =>
    obtain rfl := Option.some.inj h
    exact ⟨_, rfl, hs.tmp t⟩
  | cell c t =>
    simp only [aRes1] at h
    have hp := hs.tmp c
    obtain ⟨x, hx, hv⟩ := aLoad_sound h hs.heap hp
    refine ⟨x, ?_, hv⟩
    have hptr : ∃ ad, a.tmps.getD c undef = .pointer (some ad) := by
      generalize hσ : σ.t c = u at h hp
      generalize a.tmps.getD c undef = y at hp
      unfold aLoad at h
      split at h
      · cases hp; exact ⟨_, rfl⟩
      · cases hp; exact ⟨_, rfl⟩
      · cases h
    obtain ⟨ad, had⟩ := hptr
    rw [had] at hx
    simp only [had]
    simpa [asAddr, Instr.loadAt, Instr.sureAddr] using hx

theorem resL_sound {σ : AS} {a : Act} {w : World} {O : Nat → Prop} {β : Map} (hs : SR a w O β σ) : ∀ {rs : List ResultVar} {vs : List AV}, aResL P σ rs = some vs →
    ∃ xs : List Value, (rs.mapM fun r => (match r with | .tmp t => pure (a.tmps.getD t undef) | .cell c t => do loadVar t (← asAddr (a.tmps.getD c undef)) : Sem Value)).run P w = .ok xs w ∧ VC w O β vs xs
  | [], vs, h => by obtain rfl := Option.some.inj h; exact ⟨[], by simp, VC.nil⟩
  | r :: rs, vs, h => by
    unfold aResL at h
    split at h
    · rename_i v vs' h1 h2
      obtain rfl := Option.some.inj h
      obtain ⟨x, hx, hv⟩ := res1_sound hs h1
      obtain ⟨xs, hxs, hvs⟩ := resL_sound hs h2
      refine ⟨x :: xs, ?_, ?_⟩
      · rw [List.mapM_cons]
        simp only [Sem.run_bind]
        erw [hx]
        simp only [Result.andThen_ok]
        erw [hxs]
        rfl
      · have h1 : VC w O β [v] [x] := ⟨rfl, fun i c hc => by
          cases i with
          | zero => simp at hc; subst hc; exact ⟨x, rfl, hv⟩
          | succ i => simp at hc⟩
        simpa using h1.append hvs
    · cases h

theorem results_sound {fn : Func} {σ : AS} {a : Act} {w : World} {O : Nat → Prop} {β : Map} {v : AV} (hs : SR a w O β σ) (h : aResults P fn.results σ = some v) : ∃ x, (results fn a.tmps).run P w = .ok x w ∧ VR w O β v x := by
  unfold aResults at h
  have key : ∀ vs, aResL P σ fn.results.toList = some vs → ∃ xs : List Value, (results fn a.tmps).run P w = .ok (if h : xs.toArray.size = 1 then xs.toArray[0] else .tuple xs.toArray) w ∧ VC w O β vs xs := by
    intro vs hvs
    obtain ⟨xs, hxs, hvc⟩ := resL_sound hs hvs
    refine ⟨xs, ?_, hvc⟩
    unfold results
    rw [Array.mapM_eq_mapM_toList]
    simp only [Sem.run_bind, Sem.run_map]
    erw [hxs]
    simp only [Result.andThen_ok, Sem.run_pure]
  split at h
  · rename_i u hr
    obtain rfl := Option.some.inj h
    obtain ⟨xs, hrun, hvc⟩ := key _ hr
    obtain ⟨x, hx, hv⟩ := hvc.2 0 _ rfl
    have hl : xs.length = 1 := by simpa using hvc.1
    refine ⟨x, ?_, hv⟩
    rw [hrun]
    have : xs = [x] := by
      match xs, hl, hx with
      | [y], _, hx => simp at hx; rw [hx]
    subst this
    simp
  · rename_i vs hne hr
    obtain rfl := Option.some.inj h
    obtain ⟨xs, hrun, hvc⟩ := key _ hr
    have hl : xs.length ≠ 1 := by
      intro e
      have := hvc.1
      rw [e] at this
      match vs, this with
      | [u], _ => exact hne u rfl
    refine ⟨_, hrun, ?_⟩
    rw [dif_neg (by simpa using hl)]
    have := VC.to_array (a := xs.toArray) (by simpa using hvc)
    exact .tup _ _ this.1 this.2
  · cases h

/-- The slots when a call begins. -/
def slots (args : List AV) (i : Nat) : AV := args.getD i (.tup [])

theorem start_sound {args : List AV} {vs : Array Value} {w : World} {O : Nat → Prop} {β : Map} {H : AH} {n : Nat} (hH : HR w O β H) (hv : VRs w O β args vs) :
    SR { tmps := vs ++ Array.replicate (n - vs.size) undef, defers := [] } w O β ⟨args.length + (n - args.length), slots args, H⟩ where
  size := by simp [hv.1]
  tmp := fun i => by
    have hget : (vs ++ Array.replicate (n - vs.size) undef).getD i undef = vs.getD i undef := by
      simp only [Array.getD_eq_getD_getElem?, Array.getElem?_append, Array.getElem?_replicate]
      by_cases hi : i < vs.size
      · rw [if_pos hi]
      · rw [if_neg hi, Array.getElem?_eq_none (by omega)]
        split <;> rfl
    show VR w O β (slots args i) ((vs ++ Array.replicate (n - vs.size) undef).getD i undef)
    rw [hget]
    unfold slots
    cases hi : args[i]? with
    | some c => rw [List.getD_eq_getElem?_getD, hi]; exact hv.2 i c hi
    | none =>
      have hle : args.length ≤ i := by simpa using hi
      rw [List.getD_eq_getElem?_getD, hi, Array.getD_eq_getD_getElem?, Array.getElem?_eq_none (by rw [hv.1]; exact hle)]
      exact undef_tup w O β
  heap := hH
  defers := rfl

end
end Go.M3
