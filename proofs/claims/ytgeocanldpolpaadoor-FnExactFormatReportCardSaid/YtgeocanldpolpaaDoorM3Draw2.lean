/- A statement whose order is left open: in every order it comes to what the text's order comes to. -/
import Derived.Test.YtgeocanldpolpaaDoorM3Draw
set_option linter.unusedVariables false
namespace Go.M3

/-- The last of the first n that was done and that hits. -/
def lastV {α : Type} (hit : Nat → Bool) (val : Nat → α) (d : α) (S : Nat → Bool) : Nat → α
  | 0 => d
  | n + 1 => if S n = true ∧ hit n = true then val n else lastV hit val d S n

theorem lastV_none {α : Type} {hit : Nat → Bool} {val : Nat → α} {d : α} {S : Nat → Bool} : ∀ {n : Nat}, (∀ i, i < n → S i = false) → lastV hit val d S n = d
  | 0, h => rfl
  | n + 1, h => by
    unfold lastV
    rw [if_neg (by simp [h n (by omega)])]
    exact lastV_none fun i hi => h i (by omega)

theorem lastV_congr {α : Type} {hit : Nat → Bool} {val : Nat → α} {d : α} {S S' : Nat → Bool} : ∀ {n : Nat}, (∀ i, i < n → hit i = true → S i = S' i) → lastV hit val d S n = lastV hit val d S' n
  | 0, h => rfl
  | n + 1, h => by
    unfold lastV
    rw [lastV_congr (fun i hi => h i (by omega))]
    by_cases hh : hit n = true
    · rw [h n (by omega) hh]
    · simp [hh]

theorem lastV_add {α : Type} {hit : Nat → Bool} {val : Nat → α} {d : α} {S S' : Nat → Bool} {j : Nat} (hS : ∀ i, S' i = if i = j then true else S i) : ∀ {n : Nat}, (∀ i, j < i → i < n → S i = true → hit j = true → hit i = false) →
    lastV hit val d S' n = if j < n ∧ hit j = true then val j else if S j = true ∧ j < n ∧ hit j = true then val j else lastV hit val d S n
  | 0, h => by simp [lastV]
  | n + 1, h => by
    have ih := lastV_add (val := val) (d := d) (hit := hit) hS (n := n) (fun i h1 h2 => h i h1 (by omega))
    unfold lastV
    rw [ih]
    by_cases hnj : n = j
    · subst hnj
      rw [hS n]
      by_cases hh : hit n = true <;> simp [hh]
    · rw [hS n, if_neg hnj]
      by_cases hh : S n = true ∧ hit n = true
      · rw [if_pos hh]
        by_cases hc : j < n + 1 ∧ hit j = true
        · have := h n (by omega) (by omega) hh.1 hc.2
          rw [hh.2] at this
          cases this
        · rw [if_neg hc, if_neg (fun h => hc h.2), if_pos hh]
      · rw [if_neg hh, if_neg hh]
        have e : (j < n + 1) ↔ (j < n) := by omega
        simp only [e]

section
variable {P : Program}

/-- What a call leaves that writes nothing of what was there. -/
def POut (w : World) (O : Nat → Prop) (β : Map) (d : AV) (v : Value) (w' : World) : Prop := ST w noOwn noMap w' noOwn noMap ∧ VR w' O β d v

theorem HR.below {w : World} {O : Nat → Prop} {β : Map} {H : AH} (base : Nat) (h : HR w O β H) : HR w O β (below base H) := by
  have hb : ∀ b B, (M3.below base H).blk b = some B → H.blk b = some B := fun b B hB => by
    simp only [M3.below] at hB
    split at hB
    · exact hB
    · cases hB
  exact ⟨fun b B hB => h.live b B (hb b B hB), fun b b' B B' L L' h1 h2 => h.inj b b' B B' L L' (hb _ _ h1) (hb _ _ h2), h.lt, h.next⟩

theorem below_eq {base : Nat} {H H2 : AH} (hag : ∀ b, b < base → H2.blk b = H.blk b) (hn : H2.next = H.next) : below base H2 = below base H := by
  unfold below
  rw [hn]
  congr 1
  funext b
  split
  · exact hag b (by assumption)
  · rfl

theorem Pure1.run [Tabs] {g : FuncId} {args : List AV} {base : Nat} {H H2 : AH} {d : AV} (h : Pure1 P g args base H d) (hag : ∀ b, b < base → H2.blk b = H.blk b) (hn : H2.next = H.next) {w : World} {O : Nat → Prop} {β : Map} {vs : Array Value} (hkn : Known P w O) (hH : HR w O β H2) (hv : VRs w O β args vs) :
    (Enters P g ∧ Calls P g vs w fun e w' => ∃ v, e = .returned v ∧ POut w O β d v w') ∨ (∃ x w', (callFunc g vs).run P w = .ok (.value x) w' ∧ POut w O β d x w') := by
  cases h with
  | flat N args' hs hf h =>
    rw [← below_eq hag hn] at hs
    have hv' : VRs w noOwn noMap args' vs := VRs.snap (hH.below base) (fun k hk => hk.elim) (fun b B L _ _ hk => hk.elim) hs hv
    rcases h w noOwn vs (hkn.less fun k hk => hk.elim) (fun k hk => hk.elim) hv' with ⟨he, hc⟩ | ⟨x, w', hx, ho⟩
    · exact Or.inl ⟨he, hc.mono fun e w' ⟨v, hv, ho⟩ => ⟨v, hv, ho.1, ho.2.flat hf⟩⟩
    · exact Or.inr ⟨x, w', hx, ho.1, ho.2.flat hf⟩
  | view N args' hs h =>
    have e0 : M3.below 0 H2 = M3.below 0 H := below_eq (fun b hb => by omega) hn
    rw [← e0] at hs
    have hv' : VRs w O noMap args' vs := VRs.snap (hH.below 0) (fun k hk => hk) (fun b B L h => by simp [M3.below] at h) hs hv
    rcases h w O vs hkn hH.lt hv' with ⟨he, hc⟩ | ⟨x, w', hx, ho⟩
    · exact Or.inl ⟨he, hc.mono fun e w' ⟨v, hv, ho⟩ => ⟨v, hv, ho.1, ho.2.map⟩⟩
    · exact Or.inr ⟨x, w', hx, ho.1, ho.2.map⟩

theorem rdOf_mem {op : Op} {σ : Operand → AV} {b : Nat} (h : b ∈ rdOf op σ) : memOp op = true := by
  unfold rdOf at h
  split at h <;> first | rfl | (simp at h)

theorem wrOf_mem {op : Op} {σ : Operand → AV} {b nx : Nat} (h : b ∈ wrOf op σ nx) : memOp op = true ∧ (b = nx ∨ (b ∈ rdOf op σ ∧ wrOp op = true)) := by
  unfold wrOf at h
  split at h
  · exact ⟨rfl, Or.inr ⟨by simpa [rdOf] using h, rfl⟩⟩
  · exact ⟨rfl, Or.inl (by simpa using h)⟩
  · exact ⟨rfl, Or.inl (by simpa using h)⟩
  · exact ⟨rfl, Or.inl (by simpa using h)⟩
  · exact ⟨rfl, Or.inl (by simpa using h)⟩
  · refine ⟨rfl, ?_⟩
    split at h
    · rename_i s x ha
      rcases List.mem_cons.1 h with h | h
      · exact Or.inl h
      · exact Or.inr ⟨by simp [rdOf, ha, h], rfl⟩
    · simp at h
  · simp at h

/-- The trace of the text's order. -/
structure Tr [Tabs] (P : Program) (B : Nat → Bool) (ops : Array Oper) (ex : List (Nat × Nat)) (base : Nat) (σ : AS) (r : Nat → DRec) (s : Nat → AS) : Prop where
  ok : drawOk ops ex = true
  s0 : s 0 = σ
  nx : σ.h.next = base + ops.size
  fresh : ∀ i, i < ops.size → σ.h.blk (base + i) = none
  run : ∀ i o, ops[i]? = some o → OpRun P B ops base i o (s i) (r i)
  dst : ∀ i o, ops[i]? = some o → inSlots o.dst (s i).n
  step : ∀ i o, ops[i]? = some o → s (i + 1) = ((s i).withH (r i).H').puto o.dst (r i).v
  rd : ∀ i o, ops[i]? = some o → ∀ b ∈ (r i).ft.rd, b < base ∨ (base ≤ b ∧ befB ops (b - base) i = true)
  ex : ∀ i o, ops[i]? = some o → ∀ p ∈ ex, p.2 = i → dis base (if p.1 < i then (r p.1).ft else Ft.none) (r i).ft

/-- The state when some have been done. -/
def stS (ops : Array Oper) (base : Nat) (σ : AS) (r : Nat → DRec) (S : Nat → Bool) : AS :=
  ⟨σ.n, fun t => lastV (fun i => decide ((ops[i]?).bind (·.dst) = some t)) (fun i => (r i).v) (σ.t t) S ops.size,
    ⟨base + ops.size, fun b => lastV (fun i => decide (b ∈ (r i).ft.wr)) (fun i => (r i).H'.blk b) (σ.h.blk b) S ops.size⟩⟩

theorem stS_add {ops : Array Oper} {base : Nat} {σ : AS} {r : Nat → DRec} {S S' : Nat → Bool} {j : Nat} {o : Oper} (hS : ∀ i, S' i = if i = j then true else S i) (ho : ops[j]? = some o) (hSj : S j = false)
    (hd : ∀ i, j < i → S i = true → ∀ t, o.dst = some t → (ops[i]?).bind (·.dst) ≠ some t) (hw : ∀ i, j < i → i < ops.size → S i = true → ∀ b ∈ (r j).ft.wr, b ∉ (r i).ft.wr)
    {H3 : AH} (h3n : H3.next = base + ops.size) (h3w : ∀ b ∈ (r j).ft.wr, H3.blk b = (r j).H'.blk b) (h3o : ∀ b, b ∉ (r j).ft.wr → H3.blk b = (stS ops base σ r S).h.blk b) :
    stS ops base σ r S' = ((stS ops base σ r S).withH H3).puto o.dst (r j).v := by
  have hj : j < ops.size := by
    rcases Nat.lt_or_ge j ops.size with h | h
    · exact h
    · rw [Array.getElem?_eq_none h] at ho; cases ho
  have ht : ∀ t, (stS ops base σ r S').t t = if o.dst = some t then (r j).v else (stS ops base σ r S).t t := fun t => by
    simp only [stS]
    rw [lastV_add hS (fun i h1 h2 h3 h4 => by
      simp only [decide_eq_true_eq, ho, Option.bind_some] at h4
      simpa using hd i h1 h3 t h4)]
    have hoj : ops[j] = o := by rw [Array.getElem?_eq_getElem hj] at ho; exact Option.some.inj ho
    simp [hj, hoj, hSj]
  have hh : (stS ops base σ r S').h = H3 := by
    have hb : ∀ b, (stS ops base σ r S').h.blk b = H3.blk b := fun b => by
      by_cases hbw : b ∈ (r j).ft.wr
      · rw [h3w b hbw]
        simp only [stS]
        rw [lastV_add hS (fun i h1 h2 h3 h4 => by simpa using hw i h1 h2 h3 b hbw)]
        simp [hj, hbw]
      · rw [h3o b hbw]
        simp only [stS]
        rw [lastV_add hS (fun i h1 h2 h3 h4 => by simp [hbw] at h4)]
        simp [hbw]
    have hn : (stS ops base σ r S').h.next = H3.next := h3n.symm
    generalize (stS ops base σ r S').h = H at hb hn
    obtain ⟨n1, b1⟩ := H
    obtain ⟨n2, b2⟩ := H3
    simp only at hb hn
    rw [hn, funext hb]
  have hn : (stS ops base σ r S').n = σ.n := rfl
  have hnn : (stS ops base σ r S).n = σ.n := rfl
  generalize stS ops base σ r S' = X at ht hh hn
  generalize stS ops base σ r S = Y at ht hnn
  obtain ⟨n1, t1, h1⟩ := X
  obtain ⟨n2, t2, h2⟩ := Y
  simp only at ht hh hn hnn
  subst hh
  have : t1 = fun t => if o.dst = some t then (r j).v else t2 t := funext ht
  subst this
  rw [hn, ← hnn]
  cases hdst : o.dst with
  | none => simp [AS.puto, AS.withH]
  | some d =>
    simp only [AS.puto, AS.withH, AS.put, Option.some.injEq]
    congr 1
    funext t
    by_cases h : d = t
    · subst h; simp
    · rw [if_neg h, if_neg (Ne.symm h)]

variable [Tabs] {B : Nat → Bool} {ops : Array Oper} {ex : List (Nat × Nat)} {base : Nat} {σ : AS} {r : Nat → DRec} {s : Nat → AS}

theorem Tr.fwd (h : Tr P B ops ex base σ r s) {j : Nat} {o : Oper} (ho : ops[j]? = some o) {e : Edge} (he : e ∈ o.after.toList) (hb : Region.binds .any e = true) : e.on < j := by
  have hj : j < ops.size := by
    rcases Nat.lt_or_ge j ops.size with h | h
    · exact h
    · rw [Array.getElem?_eq_none h] at ho; cases ho
  have := h.ok
  simp only [drawOk, List.all_eq_true, List.mem_range] at this
  have := this j hj
  simp only [ho, Bool.and_eq_true, List.all_eq_true, Bool.or_eq_true, Bool.not_eq_true', decide_eq_true_eq] at this
  rcases this.2 e he with h' | h'
  · rw [hb] at h'; cases h'
  · exact h'

theorem Tr.pair (h : Tr P B ops ex base σ r s) {i j : Nat} {x y : Oper} (hij : i < j) (hx : ops[i]? = some x) (hy : ops[j]? = some y) :
    befB ops i j = true ∨ (x.apart ops y = true ∧ ((memOp x.op = true → memOp y.op = true → (wrOp x.op = true ∨ wrOp y.op = true) → (i, j) ∈ ex))) := by
  have hj : j < ops.size := by
    rcases Nat.lt_or_ge j ops.size with h | h
    · exact h
    · rw [Array.getElem?_eq_none h] at hy; cases hy
  have := h.ok
  simp only [drawOk, List.all_eq_true, List.mem_range] at this
  have := this j hj
  simp only [Bool.and_eq_true, List.all_eq_true, List.mem_range] at this
  have := this.1 i hij
  unfold pairOk at this
  simp only [hx, hy, Bool.or_eq_true, Bool.and_eq_true, Bool.not_eq_true', Bool.and_eq_false_iff, Bool.or_eq_false_iff] at this
  rcases this with h1 | ⟨h1, h2⟩
  · exact Or.inl h1
  · refine Or.inr ⟨h1, fun a b c => ?_⟩
    rcases h2 with h2 | h2
    · rcases h2 with (h2 | h2) | h2
      · rw [a] at h2; cases h2
      · rw [b] at h2; cases h2
      · rcases c with c | c
        · rw [c] at h2; cases h2.1
        · rw [c] at h2; cases h2.2
    · exact List.contains_iff_mem.1 h2

theorem Tr.bef_lt (h : Tr P B ops ex base σ r s) : ∀ (j k : Nat), befB ops k j = true → k < j := by
  intro j
  induction j using Nat.strongRecOn with
  | ind j ih =>
    intro k hk
    obtain ⟨o, e, ho, he, hb, hke⟩ := before_spec ops j k hk
    have := h.fwd ho he hb
    rcases hke with hke | ⟨hlt, hke⟩
    · omega
    · have := ih e.on hlt k hke
      omega

/-- What the places of an operation tell. -/
theorem Tr.wr (h : Tr P B ops ex base σ r s) {i : Nat} {o : Oper} (ho : ops[i]? = some o) {b : Nat} (hb : b ∈ (r i).ft.wr) : memOp o.op = true ∧ (b = base + i ∨ (b ∈ (r i).ft.rd ∧ wrOp o.op = true)) := by
  cases h.run i o ho with
  | skip _ _ _ hf => rw [hf] at hb; simp [Ft.none] at hb
  | run _ _ _ hf => rw [hf] at hb ⊢; exact wrOf_mem hb
  | call _ _ _ _ _ _ _ _ _ _ _ hf => rw [hf] at hb; simp at hb

theorem Tr.rdm (h : Tr P B ops ex base σ r s) {i : Nat} {o : Oper} (ho : ops[i]? = some o) {b : Nat} (hb : b ∈ (r i).ft.rd) : memOp o.op = true := by
  cases h.run i o ho with
  | skip _ _ _ hf => rw [hf] at hb; simp [Ft.none] at hb
  | run _ _ _ hf => rw [hf] at hb; exact rdOf_mem hb
  | call _ _ _ _ _ _ _ _ _ _ _ hf => rw [hf] at hb; simp at hb

/-- Two operations of open order: what the later in the text looks at or writes, the earlier does not write; and so round. -/
theorem Tr.free (h : Tr P B ops ex base σ r s) {i j : Nat} {x y : Oper} (hij : i < j) (hx : ops[i]? = some x) (hy : ops[j]? = some y) (hn : befB ops i j = false) :
    (∀ b ∈ (r i).ft.wr, b ∉ (r j).ft.rd ∧ b ∉ (r j).ft.wr ∧ (memOp y.op = true → (r j).ft.old = true → base ≤ b)) ∧ (∀ b ∈ (r j).ft.wr, b ∉ (r i).ft.rd ∧ b ∉ (r i).ft.wr ∧ (memOp x.op = true → (r i).ft.old = true → base ≤ b)) := by
  have hdis : memOp x.op = true → memOp y.op = true → (wrOp x.op = true ∨ wrOp y.op = true) → dis base (r i).ft (r j).ft := by
    intro a b c
    rcases h.pair hij hx hy with h1 | ⟨_, h1⟩
    · rw [hn] at h1; cases h1
    · have := h.ex j y hy (i, j) (h1 a b c) rfl
      simpa [hij] using this
  have own : ∀ k l z, ops[l]? = some z → k ≠ l → befB ops k l = false → base + k ∉ (r l).ft.rd := by
    intro k l z hz hkl hkn hb
    rcases h.rd l z hz _ hb with h1 | ⟨_, h1⟩
    · omega
    · rw [show base + k - base = k by omega, hkn] at h1; cases h1
  have ownw : ∀ k l z, ops[l]? = some z → k ≠ l → befB ops k l = false → base + k ∉ (r l).ft.wr := by
    intro k l z hz hkl hkn hb
    rcases (h.wr hz hb).2 with h1 | ⟨h1, _⟩
    · omega
    · exact own k l z hz hkl hkn h1
  have hnj : befB ops j i = false := by
    cases hc : befB ops j i with
    | false => rfl
    | true => have := h.bef_lt i j hc; omega
  refine ⟨fun b hb => ?_, fun b hb => ?_⟩
  · obtain ⟨hm, h1⟩ := h.wr hx hb
    rcases h1 with rfl | ⟨_, hwx⟩
    · exact ⟨own i j y hy (by omega) hn, ownw i j y hy (by omega) hn, fun _ _ => by omega⟩
    · refine ⟨fun hr => ?_, fun hr => ?_, fun hmy ho => ?_⟩
      · exact ((hdis hm (h.rdm hy hr) (Or.inl hwx)).1 b hb).1 hr
      · exact ((hdis hm (h.wr hy hr).1 (Or.inl hwx)).1 b hb).2.1 hr
      · exact ((hdis hm hmy (Or.inl hwx)).1 b hb).2.2 ho
  · obtain ⟨hm, h1⟩ := h.wr hy hb
    rcases h1 with rfl | ⟨_, hwx⟩
    · exact ⟨own j i x hx (by omega) hnj, ownw j i x hx (by omega) hnj, fun _ _ => by omega⟩
    · refine ⟨fun hr => ?_, fun hr => ?_, fun hmy ho => ?_⟩
      · exact ((hdis (h.rdm hx hr) hm (Or.inr hwx)).2 b hb).1 hr
      · exact ((hdis (h.wr hx hr).1 hm (Or.inr hwx)).2 b hb).2.1 hr
      · exact ((hdis hmy hm (Or.inr hwx)).2 b hb).2.2 ho
end
end Go.M3
