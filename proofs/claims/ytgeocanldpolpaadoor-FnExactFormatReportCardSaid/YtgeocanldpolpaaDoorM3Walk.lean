/- The predicate that walks the code, and that it is sound; functions. -/
import Derived.Test.YtgeocanldpolpaaDoorM3Draw3
import Derived.Deep.LoopGhost
set_option linter.unusedVariables false
namespace Go.M3

section
variable [Tabs] {P : Program}

/-- What is told ahead of a walk: which new slices are never written ('sl', by region and operation), and which pairs of operations of open order are asked of the walk itself ('ex', by region). -/
structure An where
  sl : Nat → Nat → Bool
  ex : Nat → List (Nat × Nat)

/-- Every statement of open order is in order. -/
def okDraws (X : Nat → List (Nat × Nat)) : Code → Bool
  | .region id ops true => drawOk ops (X id)
  | .seq x y => okDraws X x && okDraws X y
  | .cond _ x y => okDraws X x && okDraws X y
  | .block _ x => okDraws X x
  | .loop x => okDraws X x
  | _ => true

/-- The walk over code. -/
def wp3 [Tabs] (P : Program) (A : An) : Code → (Exit → AS → Prop) → AS → Prop
  | .skip, Q, σ => Q .normal σ
  | .region id ops false, Q, σ => wList P (A.sl id) ops (Q .normal) 0 ops.toList σ
  | .region id ops true, Q, σ => dRegion P (A.sl id) ops (A.ex id) (Q .normal) σ
  | .seq x y, Q, σ => wp3 P A x (fun e σ' => match e with | .normal => wp3 P A y Q σ' | e => Q e σ') σ
  | .cond c x y, Q, σ => match σ.ev c with
    | .bool t => (t = true → wp3 P A x Q σ) ∧ (t = false → wp3 P A y Q σ)
    | _ => False
  | .block id x, Q, σ => wp3 P A x (fun e σ' => match e with | .exit i => if i = id then Q .normal σ' else Q (.exit i) σ' | e => Q e σ') σ
  | .loop x, Q, σ => ∃ (I : Nat → AS → Prop) (n0 : Nat), I n0 σ ∧ ∀ n σ', I n σ' → wp3 P A x (fun e σ'' => match e with | .normal => ∃ n', n' < n ∧ I n' σ'' | e => Q e σ'') σ'
  | .exit id, Q, σ => Q (.exit id) σ
  | .label _, Q, σ => Q .normal σ
  | .ret, Q, σ => Q .ret σ
  | _, _, _ => False

theorem wp3_sound {A : An} (hm : P.follows .mixedOrders = true) {w0 : World} {O0 : Nat → Prop} {β0 : Map} (hk : Known P w0 O0) : ∀ (c : Code) (hd : okDraws A.ex c = true) (Q : Exit → AS → Prop) (σ : AS) (a : Act) (w : World) (O : Nat → Prop) (β : Map),
    SR a w O β σ → ST w0 O0 β0 w O β → wp3 P A c Q σ → c.wp P (Lift w0 O0 β0 Q) a w
  | .skip, hd, Q, σ, a, w, O, β, hs, hst, h => wp_skip ⟨O, β, σ, hs, hst, h⟩
  | .region id ops false, hd, Q, σ, a, w, O, β, hs, hst, h => wp_region_list (wList_sound hk (fun a w hl => by obtain ⟨O, β, σ, h1, h2, h3⟩ := hl; exact ⟨O, β, σ, h1, h2, h3⟩) _ 0 σ a w O β hs hst h)
  | .region id ops true, hd, Q, σ, a, w, O, β, hs, hst, h => dRegion_sound hk hm hd (fun a w hl => by obtain ⟨O, β, σ, h1, h2, h3⟩ := hl; exact ⟨O, β, σ, h1, h2, h3⟩) hs hst h
  | .seq x y, hd, Q, σ, a, w, O, β, hs, hst, h => wp_seq (Code.wp_mono (fun e a' w' hl => by
      obtain ⟨O', β', σ', h1, h2, h3⟩ := hl
      cases e with
      | normal => exact wp3_sound hm hk y (by simp only [okDraws, Bool.and_eq_true] at hd; exact hd.2) Q σ' a' w' O' β' h1 h2 h3
      | _ => exact ⟨O', β', σ', h1, h2, h3⟩) (wp3_sound hm hk x (by simp only [okDraws, Bool.and_eq_true] at hd; exact hd.1) _ σ a w O β hs hst h))
  | .cond c x y, hd, Q, σ, a, w, O, β, hs, hst, h => by
    unfold wp3 at h
    have hv := hs.ev c
    split at h
    · rename_i t ht
      rw [ht] at hv
      have hc : a.eval c = .bool t := by generalize a.eval c = z at hv; cases hv; rfl
      exact wp_cond_split hc (fun e => wp3_sound hm hk x (by simp only [okDraws, Bool.and_eq_true] at hd; exact hd.1) Q σ a w O β hs hst (h.1 e)) (fun e => wp3_sound hm hk y (by simp only [okDraws, Bool.and_eq_true] at hd; exact hd.2) Q σ a w O β hs hst (h.2 e))
    · exact h.elim
  | .block id x, hd, Q, σ, a, w, O, β, hs, hst, h => wp_block (Code.wp_mono (fun e a' w' hl => by
      obtain ⟨O', β', σ', h1, h2, h3⟩ := hl
      cases e with
      | exit i =>
        simp only [Exit.inBlock]
        by_cases hi : i = id
        · rw [if_pos hi]; simp only [hi, if_true] at h3; exact ⟨O', β', σ', h1, h2, h3⟩
        · rw [if_neg hi]; simp only [hi, if_false] at h3; exact ⟨O', β', σ', h1, h2, h3⟩
      | _ => exact ⟨O', β', σ', h1, h2, h3⟩) (wp3_sound hm hk x (by simpa only [okDraws] using hd) _ σ a w O β hs hst h))
  | .loop x, hd, Q, σ, a, w, O, β, hs, hst, h => by
    obtain ⟨I, n0, hI, hround⟩ := h
    refine wp_loop_ghost (fun n a w => LiftN w0 O0 β0 (I n) a w) n0 ⟨O, β, σ, hs, hst, hI⟩ fun n a' w' hl => ?_
    obtain ⟨O', β', σ', h1, h2, h3⟩ := hl
    refine Code.wp_mono (fun e a'' w'' hl => ?_) (wp3_sound hm hk x (by simpa only [okDraws] using hd) _ σ' a' w' O' β' h1 h2 (hround n σ' h3))
    obtain ⟨O'', β'', σ'', g1, g2, g3⟩ := hl
    cases e with
    | normal =>
      obtain ⟨n', hn', hI'⟩ := g3
      exact ⟨n', hn', O'', β'', σ'', g1, g2, hI'⟩
    | _ => exact ⟨O'', β'', σ'', g1, g2, g3⟩
  | .exit id, hd, Q, σ, a, w, O, β, hs, hst, h => wp_exit ⟨O, β, σ, hs, hst, h⟩
  | .label l, hd, Q, σ, a, w, O, β, hs, hst, h => wp_label ⟨O, β, σ, hs, hst, h⟩
  | .ret, hd, Q, σ, a, w, O, β, hs, hst, h => wp_ret ⟨O, β, σ, hs, hst, h⟩
  | .rangeFunc _ _ _ _, hd, Q, σ, a, w, O, β, hs, hst, h => by simp [wp3] at h
  | .scope _, hd, Q, σ, a, w, O, β, hs, hst, h => by simp [wp3] at h
  | .goto _, hd, Q, σ, a, w, O, β, hs, hst, h => by simp [wp3] at h
  | .refuse _, hd, Q, σ, a, w, O, β, hs, hst, h => by simp [wp3] at h

/-- The walk over a function's body, with its arguments, in the caller's memory: how it must end. -/
def wFun [Tabs] (P : Program) (A : An) (c : Code) (ntmps : Nat) (rs : Array ResultVar) (args : List AV) (H : AH) (K : AV → AH → Prop) : Prop :=
  wp3 P A c (fun e σ => match e with
    | .normal => ∃ r, aResults P rs σ = some r ∧ K r σ.h
    | .ret => ∃ r, aResults P rs σ = some r ∧ K r σ.h
    | _ => False) ⟨args.length + (ntmps - args.length), slots args, H⟩

theorem HCall.of_body {f : FuncId} {fn : Func} {c : Code} {args : List AV} {H : AH} {r : AV} {H' : AH} (A : An) (hf : P.funcs[f]? = some fn) (hb : fn.body = some c) (hn : (fn.name == "runtime.NumGoroutine") = false) (hm : P.follows .mixedOrders = true) (hd : okDraws A.ex c = true)
    (h : wFun P A c fn.ntmps fn.results args H fun r' H'' => r' = r ∧ H'' = H') : HCall P f args H r H' := by
  intro w O β vs hk hH hv
  refine Or.inl ⟨⟨fn, c, hf, hb, hn⟩, calls_of_wp hf hb ?_⟩
  have hs := start_sound (n := fn.ntmps) hH hv
  refine Code.wp_mono (fun e a w' hl => ?_) (wp3_sound hm hk c hd _ _ _ w O β hs (ST.refl w O β) h)
  obtain ⟨O', β', σ, h1, h2, h3⟩ := hl
  have fin : (∃ r', aResults P fn.results σ = some r' ∧ r' = r ∧ σ.h = H') → a.defers = [] ∧ ∃ v, (results fn a.tmps).run P w' = .ok v w' ∧ ∃ u, Ending.returned v = .returned u ∧ Out w O β H' r u w' := by
    rintro ⟨r', hr, rfl, rfl⟩
    obtain ⟨x, hx, hv'⟩ := results_sound h1 hr
    exact ⟨h1.defers, x, hx, x, rfl, O', β', h2, h1.heap, hv'⟩
  cases e with
  | normal => exact fin h3
  | ret => exact fin h3
  | _ => exact h3.elim

theorem VCall.of_body {f : FuncId} {fn : Func} {c : Code} {args : List AV} {d : AV} (A : An) (N : Nat) (hf : P.funcs[f]? = some fn) (hb : fn.body = some c) (hn : (fn.name == "runtime.NumGoroutine") = false) (hm : P.follows .mixedOrders = true) (hd : okDraws A.ex c = true)
    (h : wFun P A c fn.ntmps fn.results args AH.empty fun r H' => snap N H' r = some d) : VCall P f args d := by
  intro w O vs hk hlt hv
  refine Or.inl ⟨⟨fn, c, hf, hb, hn⟩, calls_of_wp hf hb ?_⟩
  have hs := start_sound (n := fn.ntmps) (HR.none hlt) hv
  refine Code.wp_mono (fun e a w' hl => ?_) (wp3_sound hm hk c hd _ _ _ w O noMap hs (ST.refl w O noMap) h)
  obtain ⟨O', β', σ, h1, h2, h3⟩ := hl
  have fin : (∃ r', aResults P fn.results σ = some r' ∧ snap N σ.h r' = some d) → a.defers = [] ∧ ∃ v, (results fn a.tmps).run P w' = .ok v w' ∧ ∃ u, Ending.returned v = .returned u ∧ VOut w O d u w' := by
    rintro ⟨r', hr, hsn⟩
    obtain ⟨x, hx, hv'⟩ := results_sound h1 hr
    refine ⟨h1.defers, x, hx, x, rfl, ⟨h2.os, h2.tape, h2.output, h2.size, fun k hk _ => h2.rest k hk (fun b L hb => by simp [noMap] at hb), fun k hk _ => h2.rest k hk (fun b L hb => by simp [noMap] at hb), fun _ _ => Iff.rfl, fun b L hb => by simp [noMap] at hb, fun b L hb => by simp [noMap] at hb⟩, ?_⟩
    refine snap_sound h1.heap (fun k hk => (h2.own k (hlt k hk)).2 hk) (fun b B L _ hL hk => ?_) N r' d x hsn hv'
    rcases h2.src b L hL with h | ⟨c, M, hc, _⟩
    · have := hlt _ hk; omega
    · simp [noMap] at hc
  cases e with
  | normal => exact fin h3
  | ret => exact fin h3
  | _ => exact h3.elim


theorem wOp_mono {sl : Bool} {o : Oper} {σ : AS} {f g : AS → Prop} (hfg : ∀ σ, f σ → g σ) (h : wOp P sl o σ f) : wOp P sl o σ g := by
  unfold wOp at h ⊢
  split
  · rename_i fo args tys hop
    simp only [hop] at h
    split
    · rename_i x first caps hf
      simp only [hf] at h
      obtain ⟨r, H', h1, h2, h3⟩ := h
      exact ⟨r, H', h1, h2, hfg _ h3⟩
    · rename_i hn
      split at h
      · rename_i x first caps hf
        exact (hn _ _ _ hf).elim
      · exact h
  · rename_i op hn
    split at h
    · rename_i fo args tys hop
      exact (hn _ _ _ hop).elim
    · split at h
      · rename_i v H' ha
        exact ⟨h.1, hfg _ h.2⟩
      · exact h.elim

theorem wList_mono {B : Nat → Bool} {ops : Array Oper} {f g : AS → Prop} (hfg : ∀ σ, f σ → g σ) : ∀ (l : List Oper) (i : Nat) (σ : AS), wList P B ops f i l σ → wList P B ops g i l σ
  | [], i, σ, h => hfg _ h
  | o :: rest, i, σ, h => by
    unfold wList at h ⊢
    split at h
    · rename_i b hw
      exact ⟨fun hb => wOp_mono (fun σ => wList_mono hfg rest (i + 1) σ) (h.1 hb), fun hb => ⟨(h.2 hb).1, wList_mono hfg rest (i + 1) _ (h.2 hb).2⟩⟩
    · exact h.elim

theorem dOp_mono {sl : Bool} {base i : Nat} {o : Oper} {σ : AS} {f g : AV → AH → Ft → Prop} (hfg : ∀ v H ft, f v H ft → g v H ft) (h : dOp P sl base i o σ f) : dOp P sl base i o σ g := by
  unfold dOp at h ⊢
  split
  · rename_i fo args tys hop
    simp only [hop] at h
    split
    · rename_i x first caps hf
      simp only [hf] at h
      obtain ⟨d, h1, h2⟩ := h
      exact ⟨d, h1, hfg _ _ _ h2⟩
    · rename_i hn
      split at h
      · rename_i x first caps hf
        exact (hn _ _ _ hf).elim
      · exact h
  · rename_i op hn
    split at h
    · rename_i fo args tys hop
      exact (hn _ _ _ hop).elim
    · split at h
      · rename_i v H' ha
        exact hfg _ _ _ h
      · exact h.elim

theorem dList_mono {B : Nat → Bool} {ops : Array Oper} {ex : List (Nat × Nat)} {base : Nat} {f g : AS → Prop} (hfg : ∀ σ, f σ → g σ) : ∀ (l : List Oper) (i : Nat) (fs : List Ft) (σ : AS), dList P B ops ex base f i l fs σ → dList P B ops ex base g i l fs σ
  | [], i, fs, σ, h => hfg _ h
  | o :: rest, i, fs, σ, h => by
    unfold dList at h ⊢
    split at h
    · rename_i b hw
      exact ⟨fun hb => dOp_mono (fun v H ft hk => ⟨hk.1, hk.2.1, dList_mono hfg rest (i + 1) _ _ hk.2.2⟩) (h.1 hb), fun hb => ⟨(h.2 hb).1, dList_mono hfg rest (i + 1) _ _ (h.2 hb).2⟩⟩
    · exact h.elim

theorem wp3_mono {A : An} : ∀ (c : Code) (Q Q' : Exit → AS → Prop) (hQ : ∀ e σ, Q e σ → Q' e σ) (σ : AS), wp3 P A c Q σ → wp3 P A c Q' σ
  | .skip, Q, Q', hQ, σ, h => hQ _ _ h
  | .region id ops false, Q, Q', hQ, σ, h => wList_mono (fun σ => hQ _ σ) _ _ _ h
  | .region id ops true, Q, Q', hQ, σ, h => dList_mono (fun σ => hQ _ σ) _ _ _ _ h
  | .seq x y, Q, Q', hQ, σ, h => wp3_mono x _ _ (fun e σ' he => by
      cases e with
      | normal => exact wp3_mono y _ _ hQ σ' he
      | _ => exact hQ _ _ he) σ h
  | .cond c x y, Q, Q', hQ, σ, h => by
    unfold wp3 at h ⊢
    split at h
    · exact ⟨fun e => wp3_mono x _ _ hQ σ (h.1 e), fun e => wp3_mono y _ _ hQ σ (h.2 e)⟩
    · exact h.elim
  | .block id x, Q, Q', hQ, σ, h => wp3_mono x _ _ (fun e σ' he => by
      cases e with
      | exit i => simp only at he ⊢; split at he <;> rename_i hi <;> simp only [hi, if_true, if_false] <;> exact hQ _ _ he
      | _ => exact hQ _ _ he) σ h
  | .loop x, Q, Q', hQ, σ, h => by
    obtain ⟨I, n0, h0, hr⟩ := h
    exact ⟨I, n0, h0, fun n σ' hi => wp3_mono x _ _ (fun e σ'' he => by
      cases e with
      | normal => exact he
      | _ => exact hQ _ _ he) σ' (hr n σ' hi)⟩
  | .exit id, Q, Q', hQ, σ, h => hQ _ _ h
  | .label _, Q, Q', hQ, σ, h => hQ _ _ h
  | .ret, Q, Q', hQ, σ, h => hQ _ _ h
  | .rangeFunc _ _ _ _, Q, Q', hQ, σ, h => by simp [wp3] at h
  | .scope _, Q, Q', hQ, σ, h => by simp [wp3] at h
  | .goto _, Q, Q', hQ, σ, h => by simp [wp3] at h
  | .refuse _, Q, Q', hQ, σ, h => by simp [wp3] at h
end
end Go.M3
