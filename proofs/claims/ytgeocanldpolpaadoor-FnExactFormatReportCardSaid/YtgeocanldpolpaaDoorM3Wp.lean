/- The predicate that walks the code, and that it is sound. -/
import Derived.Test.YtgeocanldpolpaaDoorM3Bytes
import Derived.Orders
import Derived.Deep.LoopGhost
set_option linter.unusedVariables false
namespace Go.M3

/-- Variables of a package that are laid and never written: what they hold. -/
class Tabs where
  tabs : List (String × Array Value)

def Known [Tabs] (P : Program) (w : World) (O : Nat → Prop) : Prop := ∀ p ∈ Tabs.tabs, ∃ g, P.globalNamed p.1 = some g ∧ w.var? P p.1 = some p.2 ∧ ¬ O g ∧ g < w.heap.size

theorem Known.step [Tabs] {P : Program} {w w' : World} {O O' : Nat → Prop} {β β' : Map} (h : Known P w O) (hs : ST w O β w' O' β') : Known P w' O' := by
  intro p hp
  obtain ⟨g, h1, h2, h3, h4⟩ := h p hp
  refine ⟨g, h1, ?_, fun hO => h3 ((hs.own g h4).1 hO), Nat.lt_of_lt_of_le h4 hs.size⟩
  unfold World.var? at h2 ⊢
  rw [h1] at h2 ⊢
  simp only [Option.bind_some] at h2 ⊢
  rw [hs.keep g h4 h3]
  exact h2

theorem Known.less [Tabs] {P : Program} {w : World} {O O' : Nat → Prop} (h : Known P w O) (hO : ∀ k, O' k → O k) : Known P w O' := fun p hp => by
  obtain ⟨g, h1, h2, h3, h4⟩ := h p hp
  exact ⟨g, h1, h2, fun hx => h3 (hO g hx), h4⟩

/-- How a call ends. -/
def Out (w : World) (O : Nat → Prop) (β : Map) (H' : AH) (r : AV) (v : Value) (w' : World) : Prop := ∃ O' β', ST w O β w' O' β' ∧ HR w' O' β' H' ∧ VR w' O' β' r v

/-- f is a function with a body that the machine enters. -/
def Enters (P : Program) (f : FuncId) : Prop := ∃ fn c, P.funcs[f]? = some fn ∧ fn.body = some c ∧ (fn.name == "runtime.NumGoroutine") = false

/-- A call of f: with these arguments, in this memory of the caller's own, it returns r and leaves the memory H'. -/
def HCall [Tabs] (P : Program) (f : FuncId) (args : List AV) (H : AH) (r : AV) (H' : AH) : Prop :=
  ∀ (w : World) (O : Nat → Prop) (β : Map) (vs : Array Value), Known P w O → HR w O β H → VRs w O β args vs →
    (Enters P f ∧ Calls P f vs w fun e w' => ∃ v, e = .returned v ∧ Out w O β H' r v w') ∨ (∃ x w', (callFunc f vs).run P w = .ok (.value x) w' ∧ Out w O β H' r x w')

/-- Operations that look at memory, calls aside. 'sl': what is made here is never written. -/
def aop (P : Program) (sl : Bool) (op : Op) (σ : Operand → AV) (H : AH) (nx : Nat) : Option (AV × AH) :=
  match op with
  | .load t p => (aLoad P H t (σ p)).map fun v => (v, H)
  | .store t p v => (aStore P H t (σ p) (σ v)).map fun H' => (.tup [], H')
  | .alloc t => aAlloc P H nx t
  | .box t x => aBox H nx (σ x)
  | .buildSlice t n ps => aBuildSlice P H nx sl t n (lookup σ ps)
  | .makeSlice t l c => aMakeSlice P H nx t (σ l) (σ c)
  | .call ⟨.builtin .append, args, tys⟩ => match args.toList, tys.toList with | [s, x], [t, t2] => aAppend P H nx t t2 (σ s) (σ x) | _, _ => none
  | .convert s d x => match aConv P s d (σ x) with
    | some v => some (v, H)
    | none => (aBytes P H s d (σ x)).map fun v => (v, H)
  | op => (aval P op σ).map fun v => (v, H)

section
variable {P : Program}

theorem aop_sound {sl : Bool} {o : Oper} {σ : Operand → AV} {ρ : Operand → Value} {w : World} {O : Nat → Prop} {β : Map} {H : AH} {nx : Nat} {v : AV} {H' : AH} (hρ : ∀ x, VR w O β (σ x) (ρ x)) (hH0 : HR w O β H) (hnx : β nx = none) (h : aop P sl o.op σ H nx = some (v, H')) :
    ∃ n w' O' β', (execOp ρ o).run P w = .ok n w' ∧ ST w O β w' O' β' ∧ HR w' O' β' H' ∧ (∃ x, (n = .value x ∨ (n = .skip ∧ x = undef)) ∧ VR w' O' β' v x) ∧ ∀ b, b ≠ nx → β' b = β b := by
  have hval : ∀ v, aval P o.op σ = some v → ∃ n w' O' β', (execOp ρ o).run P w = .ok n w' ∧ ST w O β w' O' β' ∧ HR w' O' β' H ∧ (∃ x, (n = .value x ∨ (n = .skip ∧ x = undef)) ∧ VR w' O' β' v x) ∧ ∀ b, b ≠ nx → β' b = β b := by
    intro v hv
    obtain ⟨x, hx, hvr⟩ := aval_sound (w := w) (O := O) (β := β) hρ hv
    exact ⟨_, w, O, β, hx w, ST.refl _ _ _, hH0, ⟨x, Or.inl rfl, hvr⟩, fun _ _ => rfl⟩
  have hval' : ∀ op, o.op = op → (aval P op σ).map (fun v => (v, H)) = some (v, H') → ∃ n w' O' β', (execOp ρ o).run P w = .ok n w' ∧ ST w O β w' O' β' ∧ HR w' O' β' H' ∧ (∃ x, (n = .value x ∨ (n = .skip ∧ x = undef)) ∧ VR w' O' β' v x) ∧ ∀ b, b ≠ nx → β' b = β b := by
    intro op hop hm
    cases hav : aval P op σ with
    | none => simp [hav] at hm
    | some u =>
      simp only [hav, Option.map_some, Option.some.injEq, Prod.mk.injEq] at hm
      obtain ⟨rfl, rfl⟩ := hm
      exact hval _ (by rw [hop]; exact hav)
  unfold aop at h
  split at h
  · rename_i t p hop
    cases hl : aLoad P H t (σ p) with
    | none => simp [hl] at h
    | some u =>
      simp only [hl, Option.map_some, Option.some.injEq, Prod.mk.injEq] at h
      obtain ⟨rfl, rfl⟩ := h
      obtain ⟨x, hx, hv⟩ := aLoad_sound hl hH0 (hρ p)
      exact ⟨.value x, w, O, β, by simp [execOp, hop, hx], ST.refl _ _ _, hH0, ⟨x, Or.inl rfl, hv⟩, fun _ _ => rfl⟩
  · rename_i t p u hop
    cases hl : aStore P H t (σ p) (σ u) with
    | none => simp [hl] at h
    | some H2 =>
      simp only [hl, Option.map_some, Option.some.injEq, Prod.mk.injEq] at h
      obtain ⟨rfl, rfl⟩ := h
      obtain ⟨w', hx, hst, hH⟩ := aStore_sound hl hH0 (hρ p) (hρ u)
      exact ⟨.skip, w', O, β, by simp [execOp, hop, hx], hst, hH, ⟨undef, Or.inr ⟨rfl, rfl⟩, .tup [] #[] rfl (fun i c hc => by simp at hc)⟩, fun _ _ => rfl⟩
  · rename_i t hop
    obtain ⟨x, w', O', β', hx, hst, hH, hv, hb⟩ := aAlloc_sound h hH0 hnx
    exact ⟨.value x, w', O', β', by simp [execOp, hop, hx], hst, hH, ⟨x, Or.inl rfl, hv⟩, hb⟩
  · rename_i t y hop
    obtain ⟨x, w', O', β', hx, hst, hH, hv, hb⟩ := aBox_sound (P := P) (t := t) h hH0 hnx (hρ y)
    exact ⟨.value x, w', O', β', by simp [execOp, hop, hx], hst, hH, ⟨x, Or.inl rfl, hv⟩, hb⟩
  · rename_i t n ps hop
    obtain ⟨x, w', O', β', hx, hst, hH, hv, hb⟩ := aBuildSlice_sound (vals := ps.map fun (i, x) => (i, ρ x)) h hH0 hnx ⟨by simp [lookup], fun i p hp => by
      simp only [lookup, List.getElem?_map] at hp
      cases hq : ps.toList[i]? with
      | none => simp [hq] at hp
      | some q =>
        simp only [hq, Option.map_some, Option.some.injEq] at hp
        subst hp
        have hq' : ps[i]? = some q := by simpa using hq
        exact ⟨ρ q.2, by simp [hq'], hρ q.2⟩⟩
    exact ⟨.value x, w', O', β', by simp [execOp, hop, hx], hst, hH, ⟨x, Or.inl rfl, hv⟩, hb⟩
  · rename_i t l c hop
    obtain ⟨x, w', O', β', hx, hst, hH, hv, hb⟩ := aMakeSlice_sound h hH0 hnx (hρ l) (hρ c)
    exact ⟨.value x, w', O', β', by simp [execOp, hop, hx], hst, hH, ⟨x, Or.inl rfl, hv⟩, hb⟩
  · rename_i args tys hop
    split at h
    · rename_i s x t t2 ha ht
      have ha' : args = #[s, x] := by apply Array.ext'; simpa using ha
      have ht' : tys = #[t, t2] := by apply Array.ext'; simpa using ht
      subst ha' ht'
      obtain ⟨y, w', O', β', hx, hst, hH, hv, hb⟩ := aAppend_sound (ty := o.type) h hH0 hnx (hρ s) (hρ x)
      exact ⟨.value y, w', O', β', by simp [execOp, hop, resolve, invoke, builtin, hx], hst, hH, ⟨y, Or.inl rfl, hv⟩, hb⟩
    · cases h
  · rename_i s d x hop
    split at h
    · rename_i u hu
      simp only [Option.some.injEq, Prod.mk.injEq] at h
      obtain ⟨rfl, rfl⟩ := h
      exact hval _ (by rw [hop]; exact hu)
    · cases hb : aBytes P H s d (σ x) with
      | none => simp [hb] at h
      | some u =>
        simp only [hb, Option.map_some, Option.some.injEq, Prod.mk.injEq] at h
        obtain ⟨rfl, rfl⟩ := h
        obtain ⟨z, hz, hv⟩ := aBytes_sound hb hH0 (hρ x)
        exact ⟨.value z, w, O, β, by simp [execOp, hop, hz], ST.refl _ _ _, hH0, ⟨z, Or.inl rfl, hv⟩, fun _ _ => rfl⟩
  · exact hval' _ rfl h

/-- Is the operation wanted? 'none': not known. -/
def want (ops : Array Oper) (o : Oper) (σ : AS) : Option Bool :=
  match o.guard with
  | none => some true
  | some (j, b) => match (ops[j]?).bind (·.dst) with
    | none => some false
    | some d => match σ.t d with
      | .bool c => some (c == b)
      | .tup _ => some false
      | _ => none

def inSlots (d : Option Tmp) (n : Nat) : Prop := match d with | some d => d < n | none => True

/-- A call, then 'next'. -/
def wCall [Tabs] (P : Program) (g : FuncId) (args : List AV) (H : AH) (next : AV → AH → Prop) : Prop := ∃ r H', HCall P g args H r H' ∧ next r H'

/-- One operation, then 'next'. -/
def wOp [Tabs] (P : Program) (sl : Bool) (o : Oper) (σ : AS) (next : AS → Prop) : Prop :=
  match o.op with
  | .call ⟨.value f, args, _⟩ =>
    match σ.ev f with
    | .fn g first caps => wCall P g (first ++ args.toList.map σ.ev ++ caps) σ.h fun r H' => inSlots o.dst σ.n ∧ next ((σ.withH H').puto o.dst r)
    | _ => False
  | op => match aop P sl op σ.ev σ.h σ.h.next with
    | some (v, H') => inSlots o.dst σ.n ∧ next ((σ.withH H').puto o.dst v)
    | none => False

def wList [Tabs] (P : Program) (A : Nat → Bool) (ops : Array Oper) (next : AS → Prop) : Nat → List Oper → AS → Prop
  | _, [], σ => next σ
  | i, o :: rest, σ => match want ops o σ with
    | some b => (b = true → wOp P (A i) o σ (wList P A ops next (i + 1) rest)) ∧ (b = false → inSlots o.dst σ.n ∧ wList P A ops next (i + 1) rest (σ.puto o.dst (.tup [])))
    | none => False

theorem SR.puto {a : Act} {w : World} {O : Nat → Prop} {β : Map} {σ : AS} (h : SR a w O β σ) {d : Option Nat} (hd : inSlots d σ.n) {v : AV} {x : Value} (hv : VR w O β v x) : SR (a.put d x) w O β (σ.puto d v) := by
  cases d with
  | none => exact h
  | some d => exact h.put hd hv

/-- The machine's state after some code, as the walk sees it. -/
def Lift (w0 : World) (O0 : Nat → Prop) (β0 : Map) (Q : Exit → AS → Prop) (e : Exit) (a : Act) (w : World) : Prop := ∃ O β σ, SR a w O β σ ∧ ST w0 O0 β0 w O β ∧ Q e σ

def LiftN (w0 : World) (O0 : Nat → Prop) (β0 : Map) (next : AS → Prop) (a : Act) (w : World) : Prop := ∃ O β σ, SR a w O β σ ∧ ST w0 O0 β0 w O β ∧ next σ

theorem undef_tup (w : World) (O : Nat → Prop) (β : Map) : VR w O β (.tup []) undef := .tup [] #[] rfl (fun i c hc => by simp at hc)

theorem wOp_sound [Tabs] {sl : Bool} {o : Oper} {σ : AS} {next : AS → Prop} {w0 : World} {O0 : Nat → Prop} {β0 : Map} {Q : Exit → Act → World → Prop} {a : Act} {w : World} {O : Nat → Prop} {β : Map}
    (hk : Known P w0 O0) (hs : SR a w O β σ) (hst : ST w0 O0 β0 w O β) (h : wOp P sl o σ next) : o.wp P a w (LiftN w0 O0 β0 next) Q := by
  have aopc : ∀ op, o.op = op → (match aop P sl op σ.ev σ.h σ.h.next with | some (v, H') => inSlots o.dst σ.n ∧ next ((σ.withH H').puto o.dst v) | none => False) → o.wp P a w (LiftN w0 O0 β0 next) Q := by
    intro op hop h
    cases ha : aop P sl op σ.ev σ.h σ.h.next with
    | none => simp [ha] at h
    | some vh =>
      obtain ⟨v, H'⟩ := vh
      simp only [ha] at h
      obtain ⟨n, w', O', β', hr, hst', hH, ⟨x, hn, hv⟩, _⟩ := aop_sound (o := o) hs.ev hs.heap hs.heap.fresh (by rw [hop]; exact ha)
      have hres : LiftN w0 O0 β0 next (a.put o.dst x) w' := ⟨O', β', _, (hs.step hst' hH).puto h.1 hv, hst.trans hst', h.2⟩
      unfold Oper.wp
      rw [hr]
      rcases hn with rfl | ⟨rfl, rfl⟩
      · exact hres
      · exact hres
  unfold wOp at h
  split at h
  · rename_i f args tys hop
    split at h
    · rename_i g first caps hf
      obtain ⟨r, H', hcall, hd, hnext⟩ := h
      have hfv := hs.ev f
      rw [hf] at hfv
      generalize hfe : a.eval f = fv at hfv
      cases hfv with
      | fn _ _ _ a1 a2 h1 h2 h3 h4 =>
        have hargs : VRs w O β (first ++ args.toList.map σ.ev ++ caps) (a1 ++ args.map a.eval ++ a2) := by
          refine VC.to_array ?_
          simp only [Array.toList_append, Array.toList_map]
          exact ((VC.of_array h1 h3).append (VC.map hs.ev args.toList)).append (VC.of_array h2 h4)
        have hexec : (execOp a.eval o).run P w = (callFunc g (a1 ++ args.map a.eval ++ a2)).run P w := by
          simp [execOp, hop, resolve, hfe, Deferred.ofValue, invoke]
        unfold Oper.wp
        rw [hexec]
        rcases hcall w O β _ (hk.step hst) hs.heap hargs with ⟨⟨fn, c, hfn, hbody, hname⟩, hc⟩ | ⟨x, w', hx, O', β', hst', hH, hv⟩
        · have hcf : (callFunc g (a1 ++ args.map a.eval ++ a2)).run P w = .ok (.enter g (a1 ++ args.map a.eval ++ a2)) w := by
            simp [callFunc, hfn, hbody, show ¬ fn.name = "runtime.NumGoroutine" by simpa using hname]
          rw [hcf]
          refine hc.mono fun e w' he => ?_
          obtain ⟨v, rfl, O', β', hst', hH, hv⟩ := he
          exact ⟨O', β', _, (hs.step hst' hH).puto hd hv, hst.trans hst', hnext⟩
        · rw [hx]
          exact ⟨O', β', _, (hs.step hst' hH).puto hd hv, hst.trans hst', hnext⟩
    · exact h.elim
  · rename_i op hno
    exact aopc o.op rfl h

theorem want_sound {ops : Array Oper} {o : Oper} {σ : AS} {a : Act} {w : World} {O : Nat → Prop} {β : Map} {b : Bool} (hs : SR a w O β σ) (h : want ops o σ = some b) : Region.wanted o (yielded ops a.tmps) = b := by
  unfold want at h
  unfold Region.wanted
  cases hg : o.guard with
  | none => simp [hg] at h; simp [h]
  | some jb =>
    obtain ⟨j, c⟩ := jb
    simp only [hg] at h
    simp only [yielded]
    cases hd : (ops[j]?).bind (·.dst) with
    | none => simp [hd] at h; subst h; simp
    | some d =>
      simp only [hd] at h
      have hv := hs.tmp d
      split at h
      · rename_i t ht
        rw [ht] at hv
        obtain rfl := Option.some.inj h
        have hlt : d < a.tmps.size := by
          rcases Nat.lt_or_ge d a.tmps.size with hl | hl
          · exact hl
          · simp [Array.getD_eq_getD_getElem?, Array.getElem?_eq_none hl, undef] at hv
            cases hv
        have : a.tmps[d] = .bool t := by
          have hv' : VR w O β (.bool t) a.tmps[d] := by simpa [hlt] using hv
          generalize a.tmps[d] = y at hv'
          cases hv'
          rfl
        simp [hlt, this]
      · rename_i vs ht
        rw [ht] at hv
        obtain rfl := Option.some.inj h
        simp only [Option.bind_some]
        rcases Nat.lt_or_ge d a.tmps.size with hl | hl
        · have hv' : VR w O β (.tup vs) a.tmps[d] := by simpa [hl] using hv
          have : ∃ u, a.tmps[d] = .tuple u := by
            generalize a.tmps[d] = y at hv'
            cases hv'
            exact ⟨_, rfl⟩
          obtain ⟨u, hu⟩ := this
          simp [hl, hu]
        · simp [Array.getElem?_eq_none hl]
      · cases h

theorem wList_sound [Tabs] {A : Nat → Bool} {ops : Array Oper} {next : AS → Prop} {w0 : World} {O0 : Nat → Prop} {β0 : Map} {Q : Exit → Act → World → Prop} (hk : Known P w0 O0) (hQ : ∀ a w, LiftN w0 O0 β0 next a w → Q .normal a w) : ∀ (l : List Oper) (i : Nat) (σ : AS) (a : Act) (w : World) (O : Nat → Prop) (β : Map),
    SR a w O β σ → ST w0 O0 β0 w O β → wList P A ops next i l σ → wpList P ops Q l a w
  | [], i, σ, a, w, O, β, hs, hst, h => hQ a w ⟨O, β, σ, hs, hst, h⟩
  | o :: rest, i, σ, a, w, O, β, hs, hst, h => by
    refine wpList_step fun K hK => ?_
    unfold wList at h
    split at h
    · rename_i b hw
      rw [want_sound hs hw]
      cases b with
      | true =>
        rw [if_pos rfl]
        refine Oper.wp_mono (fun a' w' h' => ?_) (wOp_sound (Q := Q) hk hs hst (h.1 rfl))
        obtain ⟨O', β', σ', hs', hst', hn⟩ := h'
        exact hK _ _ (wList_sound hk hQ rest (i + 1) σ' a' w' O' β' hs' hst' hn)
      | false =>
        have h := h.2 rfl
        simp only [Bool.false_eq_true, if_false]
        exact hK _ _ (wList_sound hk hQ rest (i + 1) _ _ w O β (hs.puto h.1 (undef_tup w O β)) hst h.2)
    · exact h.elim

end
end Go.M3
