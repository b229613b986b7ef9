/- A statement whose order is left open: every order. -/
import Derived.Test.YtgeocanldpolpaaDoorM3Draw2
set_option linter.unusedVariables false
set_option linter.unusedSectionVars false
namespace Go.M3

theorem arr_lt {α : Type} {a : Array α} {i : Nat} {x : α} (h : a[i]? = some x) : i < a.size := by
  rcases Nat.lt_or_ge i a.size with h' | h'
  · exact h'
  · rw [Array.getElem?_eq_none h'] at h; cases h

section
variable [Tabs] {P : Program} {B : Nat → Bool} {ops : Array Oper} {ex : List (Nat × Nat)} {base : Nat} {σ : AS} {r : Nat → DRec} {s : Nat → AS}

theorem Tr.st (h : Tr P B ops ex base σ r s) : ∀ j, j ≤ ops.size → s j = stS ops base σ r (fun i => decide (i < j)) := by
  intro j
  induction j with
  | zero =>
    intro _
    rw [h.s0]
    have e1 : ∀ {α : Type} (hit : Nat → Bool) (val : Nat → α) (d : α), lastV hit val d (fun i => decide (i < 0)) ops.size = d := fun hit val d => lastV_none fun i _ => by simp
    obtain ⟨n, t, H⟩ := σ
    obtain ⟨nx, bk⟩ := H
    have := h.nx
    simp only at this
    simp only [stS, e1, this]
  | succ j ih =>
    intro hj
    have hs := ih (by omega)
    obtain ⟨o, ho⟩ : ∃ o, ops[j]? = some o := ⟨ops[j], by simp [show j < ops.size by omega]⟩
    have hsn : (s j).h.next = base + ops.size := by rw [hs]; rfl
    have hup : (r j).H'.next = (s j).h.next ∧ ∀ b, b ∉ (r j).ft.wr → (r j).H'.blk b = (s j).h.blk b := by
      cases h.run j o ho with
      | skip _ _ hH _ => rw [hH]; exact ⟨rfl, fun _ _ => rfl⟩
      | run _ _ ha hf =>
        obtain ⟨H3, h3, hu⟩ := aop_local ha (fun _ _ => rfl) rfl rfl (by rw [hsn]; omega)
        exact ⟨hu.2.1, fun b hb => (hu.2.2.2 b (by rw [hf] at hb; exact hb)).2⟩
      | call _ _ _ _ _ _ _ _ _ _ hH _ => rw [hH]; exact ⟨rfl, fun _ _ => rfl⟩
    rw [h.step j o ho, hs]
    symm
    refine stS_add (fun i => ?_) ho (by simp) (fun i h1 h2 => ?_) (fun i h1 _ h2 => ?_) (by rw [hup.1, hsn]) (fun _ _ => rfl) (fun b hb => by rw [hup.2 b hb, hs])
    · by_cases hi : i = j
      · simp [hi]
      · rw [if_neg hi]
        have : (i < j + 1) ↔ (i < j) := by omega
        simp [this]
    · simp at h2; omega
    · simp at h2; omega

/-- What was done stands first: what must come before it was done too. -/
structure Closed (ops : Array Oper) (S : Nat → Bool) : Prop where
  all : ∀ i j, S j = true → befB ops i j = true → S i = true
  lt : ∀ i, S i = true → i < ops.size

theorem Tr.agree_t (h : Tr P B ops ex base σ r s) {S : Nat → Bool} (hc : Closed ops S) {j : Nat} {o : Oper} (ho : ops[j]? = some o) (hSj : S j = false) (hready : ∀ i, befB ops i j = true → S i = true) {t : Nat} (ht : t ∈ o.looksAt ops) :
    (stS ops base σ r S).t t = (s j).t t := by
  rw [h.st j (Nat.le_of_lt (arr_lt ho))]
  refine lastV_congr fun i hi hhit => ?_
  simp only [decide_eq_true_eq] at hhit
  obtain ⟨x, hx⟩ : ∃ x, ops[i]? = some x := ⟨ops[i], by simp [hi]⟩
  simp only [hx, Option.bind_some] at hhit
  rcases Nat.lt_trichotomy i j with hij | hij | hij
  · have : S i = true := by
      rcases h.pair hij hx ho with h1 | ⟨h1, _⟩
      · exact hready i h1
      · exact absurd ht ((Oper.apart_spec h1).1 t hhit)
    simp [this, hij]
  · subst hij; simp [hSj]
  · have : S i = false := by
      cases hSi : S i with
      | false => rfl
      | true =>
        rcases h.pair hij ho hx with h1 | ⟨h1, _⟩
        · rw [hc.all j i hSi h1] at hSj; cases hSj
        · exact absurd ht ((Oper.apart_spec h1).2.2 t hhit)
    simp [this, show ¬ i < j by omega]

theorem Tr.agree_b (h : Tr P B ops ex base σ r s) {S : Nat → Bool} (hc : Closed ops S) {j : Nat} {o : Oper} (ho : ops[j]? = some o) (hSj : S j = false) (hready : ∀ i, befB ops i j = true → S i = true) {b : Nat}
    (hb : b ∈ (r j).ft.rd ∨ b = base + j ∨ (memOp o.op = true ∧ (r j).ft.old = true ∧ b < base)) : (stS ops base σ r S).h.blk b = (s j).h.blk b := by
  rw [h.st j (Nat.le_of_lt (arr_lt ho))]
  refine lastV_congr fun i hi hhit => ?_
  simp only [decide_eq_true_eq] at hhit
  obtain ⟨x, hx⟩ : ∃ x, ops[i]? = some x := ⟨ops[i], by simp [hi]⟩
  have own : i ≠ j → befB ops j i = false → b ≠ base + j := by
    rintro hne hn rfl
    rcases (h.wr hx hhit).2 with h1 | ⟨h1, _⟩
    · omega
    · rcases h.rd i x hx _ h1 with h2 | ⟨_, h2⟩
      · omega
      · rw [show base + j - base = j by omega, hn] at h2; cases h2
  rcases Nat.lt_trichotomy i j with hij | hij | hij
  · have : S i = true := by
      cases hbf : befB ops i j with
      | true => exact hready i hbf
      | false =>
        obtain ⟨h1, h2, h3⟩ := (h.free hij hx ho hbf).1 b hhit
        rcases hb with hb | hb | ⟨hm, hold, hb⟩
        · exact absurd hb h1
        · refine absurd hb (own (by omega) ?_)
          cases hc : befB ops j i with
          | false => rfl
          | true => have := h.bef_lt i j hc; omega
        · have := h3 hm hold; omega
    simp [this, hij]
  · subst hij; simp [hSj]
  · have : S i = false := by
      cases hSi : S i with
      | false => rfl
      | true =>
        cases hbf : befB ops j i with
        | true => rw [hc.all j i hSi hbf] at hSj; cases hSj
        | false =>
          obtain ⟨h1, h2, h3⟩ := (h.free hij ho hx hbf).2 b hhit
          rcases hb with hb | hb | ⟨hm, hold, hb⟩
          · exact absurd hb h1
          · exact absurd hb (own (by omega) hbf)
          · have := h3 hm hold; omega
    simp [this, show ¬ i < j by omega]

theorem Tr.later (h : Tr P B ops ex base σ r s) {S : Nat → Bool} (hc : Closed ops S) {j : Nat} {o : Oper} (ho : ops[j]? = some o) (hSj : S j = false) :
    (∀ i, j < i → S i = true → ∀ t, o.dst = some t → (ops[i]?).bind (·.dst) ≠ some t) ∧ (∀ i, j < i → i < ops.size → S i = true → ∀ b ∈ (r j).ft.wr, b ∉ (r i).ft.wr) := by
  refine ⟨fun i hij hSi t ht he => ?_, fun i hij hi hSi b hb hbi => ?_⟩
  · obtain ⟨x, hx⟩ : ∃ x, ops[i]? = some x := ⟨ops[i]'(hc.lt i hSi), by simp [hc.lt i hSi]⟩
    simp only [hx, Option.bind_some] at he
    rcases h.pair hij ho hx with h1 | ⟨h1, _⟩
    · rw [hc.all j i hSi h1] at hSj; cases hSj
    · exact (Oper.apart_spec h1).2.1 t ht he
  · obtain ⟨x, hx⟩ : ∃ x, ops[i]? = some x := ⟨ops[i], by simp [hi]⟩
    cases hbf : befB ops j i with
    | true => rw [hc.all j i hSi hbf] at hSj; cases hSj
    | false => exact ((h.free hij ho hx hbf).1 b hb).2.1 hbi

theorem ev_agree {σ1 σ2 : AS} {ops : Array Oper} {o : Oper} (h : ∀ t ∈ o.looksAt ops, σ1.t t = σ2.t t) : ∀ x ∈ o.op.operands, σ1.ev x = σ2.ev x := by
  intro x hx
  cases x with
  | tmp t =>
    refine h t ?_
    simp only [Oper.looksAt, List.mem_append, List.mem_filterMap]
    exact Or.inl ⟨.tmp t, by simpa using hx, rfl⟩
  | _ => rfl

theorem want_agree {σ1 σ2 : AS} {ops : Array Oper} {o : Oper} (h : ∀ t ∈ o.looksAt ops, σ1.t t = σ2.t t) : want ops o σ1 = want ops o σ2 := by
  unfold want
  cases hg : o.guard with
  | none => rfl
  | some jb =>
    obtain ⟨j, b⟩ := jb
    simp only
    cases hd : (ops[j]?).bind (·.dst) with
    | none => rfl
    | some d =>
      have : σ1.t d = σ2.t d := h d (by simp [Oper.looksAt, hg, hd])
      simp only [this]

/-- The state while such a statement runs. -/
structure DInv [Tabs] (P : Program) (ops : Array Oper) (base : Nat) (σ : AS) (r : Nat → DRec) (w0 : World) (O0 : Nat → Prop) (β0 : Map) (S : Nat → Bool) (a : Act) (w : World) (O : Nat → Prop) (β : Map) : Prop where
  closed : Closed ops S
  known : Known P w0 O0
  sr : SR a w O β (stS ops base σ r S)
  st : ST w0 O0 β0 w O β
  free : ∀ i, i < ops.size → S i = false → β (base + i) = none

theorem Tr.exec (h : Tr P B ops ex base σ r s) {w0 : World} {O0 : Nat → Prop} {β0 : Map} {S S' : Nat → Bool} {a : Act} {w : World} {O : Nat → Prop} {β : Map} (hi : DInv P ops base σ r w0 O0 β0 S a w O β) {j : Nat} {o : Oper} (ho : ops[j]? = some o) (hSj : S j = false)
    (hready : ∀ i, befB ops i j = true → S i = true) (hS' : ∀ i, S' i = if i = j then true else S i) {K : Act → World → Prop} {Q : Exit → Act → World → Prop}
    (hK : ∀ a w O β, DInv P ops base σ r w0 O0 β0 S' a w O β → K a w) : if Region.wanted o (yielded ops a.tmps) then o.wp P a w K Q else K (a.put o.dst undef) w := by
  have hj := arr_lt ho
  have hat : ∀ t ∈ o.looksAt ops, (stS ops base σ r S).t t = (s j).t t := fun t ht => h.agree_t hi.closed ho hSj hready ht
  have hev := ev_agree hat
  have hwant := want_agree hat
  have hlat := h.later hi.closed ho hSj
  have hclosed : Closed ops S' := by
    refine ⟨fun i k hk hik => ?_, fun i hik => ?_⟩
    · rw [hS'] at hk ⊢
      by_cases hij : i = j
      · rw [if_pos hij]
      · rw [if_neg hij]
        by_cases hkj : k = j
        · subst hkj; exact hready i hik
        · rw [if_neg hkj] at hk; exact hi.closed.all i k hk hik
    · rw [hS'] at hik
      by_cases hij : i = j
      · omega
      · rw [if_neg hij] at hik; exact hi.closed.lt i hik
  have hfree : ∀ i, i < ops.size → S' i = false → S i = false ∧ i ≠ j := fun i _ hf => by
    rw [hS'] at hf
    by_cases hij : i = j
    · rw [if_pos hij] at hf; cases hf
    · rw [if_neg hij] at hf; exact ⟨hf, hij⟩
  have hsn : (s j).h.next = base + ops.size := by rw [h.st j (Nat.le_of_lt hj)]; rfl
  have hdst : inSlots o.dst (stS ops base σ r S).n := by
    have := h.dst j o ho
    rw [h.st j (Nat.le_of_lt hj)] at this
    exact this
  have fin : ∀ (x : Value) (w' : World) (O' : Nat → Prop) (β' : Map) (H3 : AH), ST w O β w' O' β' → HR w' O' β' H3 → VR w' O' β' (r j).v x → (∀ i, i < ops.size → i ≠ j → β' (base + i) = β (base + i)) →
      H3.next = base + ops.size → (∀ b ∈ (r j).ft.wr, H3.blk b = (r j).H'.blk b) → (∀ b, b ∉ (r j).ft.wr → H3.blk b = (stS ops base σ r S).h.blk b) → K (a.put o.dst x) w' := by
    intro x w' O' β' H3 hst hH hv hβ h3n h3w h3o
    refine hK _ _ O' β' ⟨hclosed, hi.known, ?_, hi.st.trans hst, fun i h1 h2 => ?_⟩
    · rw [stS_add hS' ho hSj hlat.1 hlat.2 h3n h3w h3o]
      exact (hi.sr.step hst hH).puto hdst hv
    · obtain ⟨h3, h4⟩ := hfree i h1 h2
      rw [hβ i h1 h4]; exact hi.free i h1 h3
  cases h.run j o ho with
  | skip hw hv hH hf =>
    rw [← hwant] at hw
    rw [want_sound hi.sr hw]
    simp only [Bool.false_eq_true, if_false]
    exact fin undef w O β _ (ST.refl w O β) hi.sr.heap (by rw [hv]; exact undef_tup w O β) (fun _ _ _ => rfl) rfl (fun b hb => by rw [hf] at hb; simp [Ft.none] at hb) (fun _ _ => rfl)
  | run hw hn ha hf =>
    rw [← hwant] at hw
    rw [want_sound hi.sr hw, if_pos rfl]
    obtain ⟨H3, h3, hu⟩ := aop_local ha (H2 := (stS ops base σ r S).h) (fun b hb => h.agree_b hi.closed ho hSj hready (Or.inl (by rw [hf]; exact hb))) (h.agree_b hi.closed ho hSj hready (Or.inr (Or.inl rfl))) hsn.symm (by rw [hsn]; omega)
    rw [← aop_congr hev] at h3
    obtain ⟨n, w', O', β', hr, hst', hH, ⟨x, hnx, hv⟩, hbb⟩ := aop_sound (o := o) hi.sr.ev hi.sr.heap (hi.free j hj hSj) h3
    have res := fin x w' O' β' H3 hst' hH hv (fun i _ hij => hbb _ (by omega)) (by rw [hu.1]; rfl) (fun b hb => hu.2.2.1 b (by rw [hf] at hb; exact hb)) (fun b hb => (hu.2.2.2 b (by rw [hf] at hb; exact hb)).1)
    unfold Oper.wp
    rw [hr]
    rcases hnx with rfl | ⟨rfl, rfl⟩
    · exact res
    · exact res
  | call hw f args tys g first caps hop hg hp hH hf =>
    rw [← hwant] at hw
    rw [want_sound hi.sr hw, if_pos rfl]
    have hmem : memOp o.op = true := by rw [hop]; rfl
    have hevf : (stS ops base σ r S).ev f = .fn g first caps := by rw [hev f (by rw [hop]; simp [Op.operands, Call.operands])]; exact hg
    have heva : args.toList.map (stS ops base σ r S).ev = args.toList.map (s j).ev := List.map_congr_left fun x hx => hev x (by rw [hop]; simp [Op.operands, Call.operands]; exact Or.inr (by simpa using hx))
    have hfv := hi.sr.ev f
    rw [hevf] at hfv
    generalize hfe : a.eval f = fv at hfv
    cases hfv with
    | fn _ _ _ a1 a2 h1 h2 h3 h4 =>
      have hargs : VRs w O β (first ++ args.toList.map (s j).ev ++ caps) (a1 ++ args.map a.eval ++ a2) := by
        refine VC.to_array ?_
        simp only [Array.toList_append, Array.toList_map]
        rw [← heva]
        exact ((VC.of_array h1 h3).append (VC.map hi.sr.ev args.toList)).append (VC.of_array h2 h4)
      have hexec : (execOp a.eval o).run P w = (callFunc g (a1 ++ args.map a.eval ++ a2)).run P w := by
        simp [execOp, hop, resolve, hfe, Deferred.ofValue, invoke]
      have fin2 : ∀ v w', POut w O β (r j).v v w' → K (a.put o.dst v) w' := fun v w' hout =>
        fin v w' O β _ (ST.of_kept hout.1) (hi.sr.heap.kept hout.1) hout.2 (fun _ _ _ => rfl) rfl (fun b hb => by rw [hf] at hb; simp at hb) (fun _ _ => rfl)
      unfold Oper.wp
      rw [hexec]
      rcases hp.run (H2 := (stS ops base σ r S).h) (fun b hb => h.agree_b hi.closed ho hSj hready (Or.inr (Or.inr ⟨hmem, by rw [hf], hb⟩))) hsn.symm (hi.known.step hi.st) hi.sr.heap hargs with ⟨⟨fn, c, hfn, hbody, hname⟩, hc⟩ | ⟨x, w', hx, hout⟩
      · have hcf : (callFunc g (a1 ++ args.map a.eval ++ a2)).run P w = .ok (.enter g (a1 ++ args.map a.eval ++ a2)) w := by
          simp [callFunc, hfn, hbody, show ¬ fn.name = "runtime.NumGoroutine" by simpa using hname]
        rw [hcf]
        refine hc.mono fun e w' he => ?_
        obtain ⟨v, rfl, hout⟩ := he
        exact fin2 v w' hout
      · rw [hx]
        exact fin2 x w' hout

def lst (listed : Array Bool) (i : Nat) : Bool := listed.getD i false

theorem ready_spec {ops : Array Oper} {listed : Array Bool} (hsz : listed.size = ops.size) {i : Nat} (h : i ∈ Region.ready .any ops listed) : ∃ o, ops[i]? = some o ∧ lst listed i = false ∧ ∀ e ∈ o.after.toList, Region.binds .any e = true → lst listed e.on = true := by
  simp only [Region.ready, List.mem_filter, List.mem_range, Bool.and_eq_true, Bool.not_eq_true'] at h
  obtain ⟨hlt, h1, h2⟩ := h
  refine ⟨ops[i], by simp [hlt], ?_, fun e he hb => ?_⟩
  · have : i < listed.size := by omega
    simpa [lst, this] using h1
  · simp only [Array.getElem?_eq_getElem hlt, Option.map_some, Option.getD_some] at h2
    rw [← Array.all_toList, List.all_eq_true] at h2
    have := h2 e he
    simpa [hb, lst] using this

/-- Nothing ready: all was done. -/
theorem Tr.done (h : Tr P B ops ex base σ r s) {listed : Array Bool} (hsz : listed.size = ops.size) (hr : Region.ready .any ops listed = []) : ∀ j, j < ops.size → lst listed j = true := by
  intro j
  induction j using Nat.strongRecOn with
  | ind j ih =>
    intro hj
    cases hl : lst listed j with
    | true => rfl
    | false =>
      exfalso
      have hmem : j ∈ Region.ready .any ops listed := by
        simp only [Region.ready, List.mem_filter, List.mem_range, Bool.and_eq_true, Bool.not_eq_true']
        have hjl : j < listed.size := by omega
        refine ⟨hj, by simpa [lst, hjl] using hl, ?_⟩
        simp only [Array.getElem?_eq_getElem hj, Option.map_some, Option.getD_some]
        rw [← Array.all_toList, List.all_eq_true]
        intro e he
        cases hb : Region.binds .any e with
        | false => simp
        | true =>
          have hlt := h.fwd (j := j) (o := ops[j]) (by simp [hj]) he hb
          have := ih e.on hlt (by omega)
          simpa [lst] using this
      rw [hr] at hmem
      cases hmem

theorem Tr.ready_bef (h : Tr P B ops ex base σ r s) {S : Nat → Bool} (hc : Closed ops S) {j : Nat} {o : Oper} (ho : ops[j]? = some o) (hr : ∀ e ∈ o.after.toList, Region.binds .any e = true → S e.on = true) : ∀ i, befB ops i j = true → S i = true := by
  intro i hi
  obtain ⟨o', e, ho', he, hb, hk⟩ := before_spec ops j i hi
  rw [ho] at ho'
  obtain rfl := Option.some.inj ho'
  have := hr e he hb
  rcases hk with rfl | ⟨_, hk⟩
  · exact this
  · exact hc.all i e.on this hk

theorem Tr.any (h : Tr P B ops ex base σ r s) {w0 : World} {O0 : Nat → Prop} {β0 : Map} {Q : Exit → Act → World → Prop} (hQ : ∀ a w O β, SR a w O β (s ops.size) → ST w0 O0 β0 w O β → Q .normal a w) :
    ∀ (fuel : Nat) (listed : Array Bool) (a : Act) (w : World) (O : Nat → Prop) (β : Map), listed.size = ops.size → listed.toList.count false ≤ fuel → DInv P ops base σ r w0 O0 β0 (lst listed) a w O β → wpAny P .any ops Q fuel listed a w := by
  have hend : ∀ (listed : Array Bool) (a : Act) (w : World) (O : Nat → Prop) (β : Map), listed.size = ops.size → Region.ready .any ops listed = [] → DInv P ops base σ r w0 O0 β0 (lst listed) a w O β → Q .normal a w := by
    intro listed a w O β hsz hr hi
    refine hQ a w O β ?_ hi.st
    have e : s ops.size = stS ops base σ r (lst listed) := by
      rw [h.st _ (Nat.le_refl _)]
      have hd := h.done hsz hr
      unfold stS
      congr 1
      · funext t
        exact lastV_congr fun i hi _ => by simp [hd i hi, hi]
      · congr 1
        funext b
        exact lastV_congr fun i hi _ => by simp [hd i hi, hi]
    rw [e]
    exact hi.sr
  intro fuel
  induction fuel with
  | zero =>
    intro listed a w O β hsz hcnt hi
    have hr : Region.ready .any ops listed = [] := by
      cases hr : Region.ready .any ops listed with
      | nil => rfl
      | cons i is =>
        exfalso
        obtain ⟨o, ho, hl, _⟩ := ready_spec hsz (i := i) (by rw [hr]; simp)
        have hi' : i < listed.size := by rw [hsz]; exact arr_lt ho
        have : false ∈ listed.toList := by
          have : listed[i] = false := by simpa [lst, hi'] using hl
          rw [← this]; simp
        have := List.count_pos_iff.2 this
        omega
    exact ⟨hr, hend listed a w O β hsz hr hi⟩
  | succ fuel ih =>
    intro listed a w O β hsz hcnt hi
    refine ⟨fun hr => hend listed a w O β hsz hr hi, fun j hj => ?_⟩
    obtain ⟨o, ho, hl, hr⟩ := ready_spec hsz hj
    have hjl : j < listed.size := by rw [hsz]; exact arr_lt ho
    have hx := h.exec (S' := lst (listed.setIfInBounds j true)) hi ho hl (h.ready_bef hi.closed ho hr) (fun i => by
      unfold lst
      by_cases hij : i = j
      · subst hij; simp [hjl]
      · simp [hij, Array.getElem?_setIfInBounds_ne (Ne.symm hij)]) (K := wpAny P .any ops Q fuel (listed.setIfInBounds j true)) (Q := Q) (fun a' w' O' β' hi' => ih _ a' w' O' β' (by simp [hsz]) (by
        have hlf : listed.toList[j]? = some false := by
          have : listed[j] = false := by simpa [lst, hjl] using hl
          simp [hjl, this]
        have hlt : j < listed.toList.length := by simpa using hjl
        rw [Array.toList_setIfInBounds, List.count_set hlt]
        have : listed.toList[j] = false := by simpa [lst, hjl] using hl
        simp [this]
        have h2 := hcnt
        simp at h2
        omega) hi')
    unfold wpOp
    simp only [ho]
    split
    · rename_i hw; rw [if_pos hw] at hx; exact Or.inl hx
    · rename_i hw; rw [if_neg hw] at hx; exact hx

theorem dRegion_sound {B : Nat → Bool} {ops : Array Oper} {ex : List (Nat × Nat)} {next : AS → Prop} {w0 : World} {O0 : Nat → Prop} {β0 : Map} {Q : Exit → Act → World → Prop} (hk : Known P w0 O0) (hm : P.follows .mixedOrders = true) (hok : drawOk ops ex = true)
    (hQ : ∀ a w, LiftN w0 O0 β0 next a w → Q .normal a w) {id : Nat} {σ : AS} {a : Act} {w : World} {O : Nat → Prop} {β : Map} (hs : SR a w O β σ) (hst : ST w0 O0 β0 w O β) (h : dRegion P B ops ex next σ) : (Code.region id ops true).wp P Q a w := by
  refine wp_region_any hm ?_
  unfold dRegion at h
  obtain ⟨r, s, hs0, htr, hnext⟩ := dList_trace ops.toList 0 [] _ rfl (fun j => by simp) h
  simp only [Nat.zero_add, Array.length_toList] at htr hnext
  have ht : Tr P B ops ex σ.h.next (σ.withH ⟨σ.h.next + ops.size, σ.h.blk⟩) r s := by
    refine ⟨hok, hs0, rfl, fun i hi => ?_, fun i o ho => (htr i o (by simpa using ho)).1, fun i o ho => (htr i o (by simpa using ho)).2.1, fun i o ho => (htr i o (by simpa using ho)).2.2.1, fun i o ho => (htr i o (by simpa using ho)).2.2.2.1, fun i o ho p hp hpi => ?_⟩
    · show σ.h.blk (σ.h.next + i) = none
      cases hb : σ.h.blk (σ.h.next + i) with
      | none => rfl
      | some B' =>
        obtain ⟨L, _, _, hL, _⟩ := hs.heap.live _ _ hb
        rw [hs.heap.next _ (by omega)] at hL
        cases hL
    · have := (htr i o (by simpa using ho)).2.2.2.2 p hp (by simpa using hpi)
      simpa using this
  have hw : ST w O β { w with drawn := w.drawn + 1 } O β := ⟨rfl, rfl, rfl, Nat.le_refl _, fun _ _ _ => rfl, fun _ _ _ => rfl, fun _ _ => Iff.rfl, fun _ _ h => h, fun b L h => Or.inr ⟨b, L, h, rfl⟩⟩
  refine ht.any (w0 := w0) (O0 := O0) (β0 := β0) (fun a' w' O' β' h1 h2 => hQ a' w' ⟨O', β', _, h1, h2, hnext⟩) _ _ a _ O β (by simp) (by simp [List.count_replicate]) ⟨⟨fun i j hj => ?_, fun i hi => ?_⟩, hk, ?_, hst.trans hw, fun i hi _ => hs.heap.next _ (by omega)⟩
  · exfalso
    simp only [lst, Array.getD_eq_getD_getElem?, Array.getElem?_replicate] at hj
    split at hj <;> simp at hj
  · exfalso
    simp only [lst, Array.getD_eq_getD_getElem?, Array.getElem?_replicate] at hi
    split at hi <;> simp at hi
  · have e : stS ops σ.h.next (σ.withH ⟨σ.h.next + ops.size, σ.h.blk⟩) r (lst (Array.replicate ops.size false)) = σ.withH ⟨σ.h.next + ops.size, σ.h.blk⟩ := by
      have e1 : ∀ {α : Type} (hit : Nat → Bool) (val : Nat → α) (d : α), lastV hit val d (lst (Array.replicate ops.size false)) ops.size = d := fun hit val d => lastV_none fun i hi => by simp [lst, hi]
      simp only [stS, e1]
      rfl
    rw [e]
    have hH := hs.heap.kept (w' := { w with drawn := w.drawn + 1 }) ⟨rfl, rfl, rfl, Nat.le_refl _, fun _ _ _ => rfl, fun _ _ _ => rfl, fun _ _ => Iff.rfl, fun _ _ h => h, fun b L h => by simp [noMap] at h⟩
    exact hs.step hw ⟨hH.live, hH.inj, hH.lt, fun b hb => hH.next b (by simp only at hb; omega)⟩
end
end Go.M3
