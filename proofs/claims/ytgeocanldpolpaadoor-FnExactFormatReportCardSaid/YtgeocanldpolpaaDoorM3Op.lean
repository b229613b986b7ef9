/- An operation that looks at values alone, run by the machine. -/
import Derived.Test.YtgeocanldpolpaaDoorM3Val6
set_option linter.unusedVariables false
namespace Go.M3

section
variable {P : Program} {w : World} {O : Nat → Prop} {β : Map}

theorem VC.map {σ : Operand → AV} {ρ : Operand → Value} (hρ : ∀ x, VR w O β (σ x) (ρ x)) (l : List Operand) : VC w O β (l.map σ) (l.map ρ) := by
  refine ⟨by simp, fun i c hc => ?_⟩
  simp only [List.getElem?_map] at hc ⊢
  cases hx : l[i]? with
  | none => simp [hx] at hc
  | some x =>
    simp only [hx, Option.map_some, Option.some.injEq] at hc
    subst hc
    exact ⟨ρ x, rfl, hρ x⟩

theorem exec_val {s : Sem Value} {v : AV} {o : Oper} {ρ : Operand → Value} (h : Val P w O β s v) (he : ∀ w', (execOp ρ o).run P w' = (s.run P w').andThen fun x w'' => .ok (.value x) w'') :
    ∃ x, (∀ w', (execOp ρ o).run P w' = .ok (.value x) w') ∧ VR w O β v x := by
  obtain ⟨x, hx, hv⟩ := h
  exact ⟨x, fun w' => by rw [he, hx]; rfl, hv⟩

theorem aval_sound {o : Oper} {σ : Operand → AV} {ρ : Operand → Value} {v : AV} (hρ : ∀ x, VR w O β (σ x) (ρ x)) (h : aval P o.op σ = some v) :
    ∃ x, (∀ w', (execOp ρ o).run P w' = .ok (.value x) w') ∧ VR w O β v x := by
  obtain ⟨dst, op, type, pos, after, guard⟩ := o
  cases op <;> simp only [aval] at h
  case move x => obtain rfl := Option.some.inj h; exact ⟨ρ x, fun w' => rfl, hρ x⟩
  case assign x => obtain rfl := Option.some.inj h; exact ⟨ρ x, fun w' => rfl, hρ x⟩
  case pick c a b =>
    split at h
    · rename_i t ht
      obtain rfl := Option.some.inj h
      have hc := hρ c
      rw [ht] at hc
      have hcv : ρ c = .bool t := by generalize ρ c = y at hc; cases hc; rfl
      refine ⟨if t then ρ a else ρ b, fun w' => ?_, ?_⟩
      · simp [execOp, hcv, asBool]
      · cases t
        · exact hρ b
        · exact hρ a
    · cases h
  case binOp op t x y yt => exact exec_val (aBinOp_sound h (hρ x) (hρ y)) fun w' => by simp only [execOp, Sem.run_bind]; rfl
  case unOp op t x => exact exec_val (aUn_sound h (hρ x)) fun w' => by simp only [execOp, Sem.run_bind]; rfl
  case convert s d x => exact exec_val (aConv_sound h (hρ x)) fun w' => by simp only [execOp, Sem.run_bind]; rfl
  case field t x f => exact exec_val (aField_sound h (hρ x)) fun w' => by simp only [execOp, Sem.run_bind]; rfl
  case fieldAddr t x f => exact exec_val (aFieldAddr_sound h (hρ x)) fun w' => by simp only [execOp, Sem.run_bind]; rfl
  case index t x i => exact exec_val (aIndex_sound h (hρ x) (hρ i)) fun w' => by simp only [execOp, Sem.run_bind]; rfl
  case indexAddr t x i => exact exec_val (aIndexAddr_sound h (hρ x) (hρ i)) fun w' => by simp only [execOp, Sem.run_bind]; rfl
  case slice t x lo hi mx =>
    cases mx with
    | some m => simp at h
    | none =>
      simp only at h
      have h1 : ∀ z : Option Operand, VRo w O β (z.map σ) (z.map ρ) := fun z => by cases z with | none => trivial | some z => exact hρ z
      exact exec_val (aSlice_sound h (hρ x) (h1 lo) (h1 hi)) fun w' => by simp only [execOp, Sem.run_bind]; rfl
  case extract x i =>
    split at h
    · rename_i vs hx
      have hv := hρ x
      rw [hx] at hv
      generalize hρx : ρ x = y at hv
      cases hv with
      | tup _ a hl hs =>
        have hlt : i < a.size := by have := (List.getElem?_eq_some_iff.1 h).1; omega
        refine ⟨a[i], fun w' => ?_, by simpa [hlt] using hs i v h⟩
        simp [execOp, Instr.extract, hρx, hlt]
    · cases h
  case build t ps =>
    refine exec_val (aBuild_sound (vals := ps.map fun (i, x) => (i, ρ x)) h ⟨by simp [lookup], fun i p hp => ?_⟩) fun w' => by simp only [execOp, Sem.run_bind]; rfl
    simp only [lookup, List.getElem?_map] at hp
    cases hx : ps.toList[i]? with
    | none => simp [hx] at hp
    | some q =>
      simp only [hx, Option.map_some, Option.some.injEq] at hp
      subst hp
      have hq : ps[i]? = some q := by simpa using hx
      exact ⟨ρ q.2, by simp [hq], hρ q.2⟩
  case makeFunc fn first caps =>
    cases fn with
    | func f =>
      obtain rfl := Option.some.inj h
      have h1 := VC.to_array (a := (first.map ρ)) (by simpa using VC.map hρ first.toList)
      have h2 := VC.to_array (a := (caps.map ρ)) (by simpa using VC.map hρ caps.toList)
      exact ⟨.func (.func f) (first.map ρ) (caps.map ρ), fun w' => rfl, .fn f _ _ _ _ h1.1 h2.1 h1.2 h2.2⟩
    | _ => simp at h
  case nilCheck x =>
    have hv := hρ x
    split at h
    · rename_i b i j hx
      obtain rfl := Option.some.inj h
      rw [hx] at hv
      generalize hy : ρ x = y at hv
      cases hv with
      | ref _ _ _ L hb => exact ⟨_, fun w' => by simp only [execOp, hy]; rfl, .ref _ _ _ L hb⟩
    · rename_i cs hx
      obtain rfl := Option.some.inj h
      rw [hx] at hv
      generalize hy : ρ x = y at hv
      have hv' := hv
      cases hv with
      | rptr => exact ⟨_, fun w' => by simp only [execOp, hy]; rfl, hv'⟩
    · rename_i f a b hx
      obtain rfl := Option.some.inj h
      rw [hx] at hv
      generalize hy : ρ x = y at hv
      have hv' := hv
      cases hv with
      | fn => exact ⟨_, fun w' => by simp only [execOp, hy]; rfl, hv'⟩
    · cases h
  case call c =>
    obtain ⟨callee, args, tys⟩ := c
    cases callee with
    | value f => simp at h
    | invoke r m => simp at h
    | builtin b =>
      cases b <;> simp only at h <;> first | (cases h; done) | skip
      case len =>
        split at h
        · rename_i x t ha ht
          have ha' : args = #[x] := by apply Array.ext'; simpa using ha
          have ht' : tys = #[t] := by apply Array.ext'; simpa using ht
          subst ha' ht'
          exact exec_val (aLen_sound (ty := type) h (hρ x)) fun w' => by simp only [execOp, resolve, Sem.run_bind, Sem.run_pure, Result.andThen_ok, invoke, builtin]; simp
        · cases h
      case max =>
        exact exec_val (aMax_sound (a := args.map ρ) (tys := tys) (ty := type) h (by simpa using VC.map hρ args.toList)) fun w' => by simp only [execOp, resolve, Sem.run_bind, Sem.run_pure, Result.andThen_ok, invoke, builtin]
      case min =>
        exact exec_val (aMin_sound (a := args.map ρ) (tys := tys) (ty := type) h (by simpa using VC.map hρ args.toList)) fun w' => by simp only [execOp, resolve, Sem.run_bind, Sem.run_pure, Result.andThen_ok, invoke, builtin]
  all_goals (first | (cases h; done) | skip)
end
end Go.M3
