/- A statement whose order is left open: what makes the order not matter, and that it does not. -/
import Derived.Test.YtgeocanldpolpaaDoorM3Local
set_option linter.unusedVariables false
namespace Go.M3

/-- What an operation looks at in memory and what it writes. 'old': all that was there before the statement. -/
structure Ft where
  old : Bool
  rd : List Nat
  wr : List Nat

def Ft.none : Ft := ⟨false, [], []⟩

def memOp : Op → Bool
  | .load _ _ | .convert _ _ _ | .store _ _ _ | .alloc _ | .box _ _ | .buildSlice _ _ _ | .makeSlice _ _ _ => true
  | .call ⟨.builtin .append, _, _⟩ => true
  | .call ⟨.value _, _, _⟩ => true
  | _ => false

def wrOp : Op → Bool
  | .store _ _ _ => true
  | .call ⟨.builtin .append, _, _⟩ => true
  | _ => false

def befB (ops : Array Oper) (k i : Nat) : Bool := ((Region.before ops).getD i 0).testBit k

/-- The order of two operations is settled, or does not matter, or is asked of the walk. -/
def pairOk (ops : Array Oper) (ex : List (Nat × Nat)) (i j : Nat) : Bool :=
  befB ops i j ||
    match ops[i]?, ops[j]? with
    | some x, some y => x.apart ops y && (!(memOp x.op && memOp y.op && (wrOp x.op || wrOp y.op)) || ex.contains (i, j))
    | _, _ => true

def drawOk (ops : Array Oper) (ex : List (Nat × Nat)) : Bool :=
  (List.range ops.size).all fun j => (List.range j).all (fun i => pairOk ops ex i j) && (match ops[j]? with | some o => o.after.toList.all fun e => !Region.binds .any e || decide (e.on < j) | none => true)

def below (base : Nat) (H : AH) : AH := ⟨H.next, fun b => if b < base then H.blk b else none⟩

/-- A call inside such a statement: it writes nothing that was there. -/
inductive Pure1 [Tabs] (P : Program) (g : FuncId) (args : List AV) (base : Nat) (H : AH) (d : AV) : Prop
  | flat (N : Nat) (args' : List AV) (hs : snapL (snap N (below base H)) args = some args') (hf : d.flat = true) (h : VCall P g args' d)
  | view (N : Nat) (args' : List AV) (hs : snapL (snap N (below 0 H)) args = some args') (h : VCall P g args' d)

def dis (base : Nat) (f g : Ft) : Prop :=
  (∀ b ∈ f.wr, b ∉ g.rd ∧ b ∉ g.wr ∧ (g.old = true → base ≤ b)) ∧ (∀ b ∈ g.wr, b ∉ f.rd ∧ b ∉ f.wr ∧ (f.old = true → base ≤ b))

/-- What is asked of an operation's places. -/
def ftOk (ops : Array Oper) (base : Nat) (ex : List (Nat × Nat)) (i : Nat) (fs : List Ft) (ft : Ft) : Prop :=
  (∀ b ∈ ft.rd, b < base ∨ (base ≤ b ∧ befB ops (b - base) i = true)) ∧ (∀ p ∈ ex, p.2 = i → dis base (fs.getD p.1 Ft.none) ft)

def dCall [Tabs] (P : Program) (g : FuncId) (args : List AV) (base : Nat) (H : AH) (next : AV → Prop) : Prop := ∃ d, Pure1 P g args base H d ∧ next d

/-- One operation in the text's order. -/
def dOp [Tabs] (P : Program) (sl : Bool) (base i : Nat) (o : Oper) (σ : AS) (next : AV → AH → Ft → Prop) : Prop :=
  match o.op with
  | .call ⟨.value f, args, _⟩ =>
    match σ.ev f with
    | .fn g first caps => dCall P g (first ++ args.toList.map σ.ev ++ caps) base σ.h fun d => next d σ.h ⟨true, [], []⟩
    | _ => False
  | op => match aop P sl op σ.ev σ.h (base + i) with
    | some (v, H') => next v H' ⟨false, rdOf op σ.ev, wrOf op σ.ev (base + i)⟩
    | none => False

def dList [Tabs] (P : Program) (B : Nat → Bool) (ops : Array Oper) (ex : List (Nat × Nat)) (base : Nat) (next : AS → Prop) : Nat → List Oper → List Ft → AS → Prop
  | _, [], _, σ => next σ
  | i, o :: rest, fs, σ => match want ops o σ with
    | some b => (b = true → dOp P (B i) base i o σ fun v H' ft => ftOk ops base ex i fs ft ∧ inSlots o.dst σ.n ∧ dList P B ops ex base next (i + 1) rest (fs ++ [ft]) ((σ.withH H').puto o.dst v)) ∧
        (b = false → inSlots o.dst σ.n ∧ dList P B ops ex base next (i + 1) rest (fs ++ [Ft.none]) (σ.puto o.dst (.tup [])))
    | none => False

/-- The walk over such a statement. -/
def dRegion [Tabs] (P : Program) (B : Nat → Bool) (ops : Array Oper) (ex : List (Nat × Nat)) (next : AS → Prop) (σ : AS) : Prop :=
  dList P B ops ex σ.h.next next 0 ops.toList [] (σ.withH ⟨σ.h.next + ops.size, σ.h.blk⟩)

/-- What the text's order tells of one operation. -/
structure DRec where
  v : AV
  H' : AH
  ft : Ft

/-- One operation, as told. -/
inductive OpRun [Tabs] (P : Program) (B : Nat → Bool) (ops : Array Oper) (base i : Nat) (o : Oper) (σ : AS) (r : DRec) : Prop
  | skip (hw : want ops o σ = some false) (hv : r.v = .tup []) (hH : r.H' = σ.h) (hf : r.ft = Ft.none)
  | run (hw : want ops o σ = some true) (hn : ∀ f args tys, o.op ≠ .call ⟨.value f, args, tys⟩) (ha : aop P (B i) o.op σ.ev σ.h (base + i) = some (r.v, r.H')) (hf : r.ft = ⟨false, rdOf o.op σ.ev, wrOf o.op σ.ev (base + i)⟩)
  | call (hw : want ops o σ = some true) (f : Operand) (args : Array Operand) (tys : Array TypeId) (g : FuncId) (first caps : List AV) (ho : o.op = .call ⟨.value f, args, tys⟩) (hg : σ.ev f = .fn g first caps)
      (hp : Pure1 P g (first ++ args.toList.map σ.ev ++ caps) base σ.h r.v) (hH : r.H' = σ.h) (hf : r.ft = ⟨true, [], []⟩)

section
variable [Tabs] {P : Program}

theorem dList_trace {B : Nat → Bool} {ops : Array Oper} {ex : List (Nat × Nat)} {base : Nat} {next : AS → Prop} : ∀ (rest : List Oper) (i : Nat) (fs : List Ft) (σ : AS), fs.length = i → (∀ j, rest[j]? = ops[i + j]?) → dList P B ops ex base next i rest fs σ →
    ∃ (r : Nat → DRec) (s : Nat → AS), s i = σ ∧ (∀ j o, rest[j]? = some o → OpRun P B ops base (i + j) o (s (i + j)) (r (i + j)) ∧ inSlots o.dst (s (i + j)).n ∧ s (i + j + 1) = ((s (i + j)).withH (r (i + j)).H').puto o.dst (r (i + j)).v ∧
      (∀ b ∈ (r (i + j)).ft.rd, b < base ∨ (base ≤ b ∧ befB ops (b - base) (i + j) = true)) ∧ (∀ p ∈ ex, p.2 = i + j → dis base (if p.1 < i then fs.getD p.1 Ft.none else if p.1 < i + j then (r p.1).ft else Ft.none) (r (i + j)).ft)) ∧ next (s (i + rest.length))
  | [], i, fs, σ, hl, hr, h => ⟨fun _ => ⟨.any, AH.empty, Ft.none⟩, fun _ => σ, rfl, fun j o hj => by simp at hj, by simpa [dList] using h⟩
  | o :: rest, i, fs, σ, hl, hr, h => by
    unfold dList at h
    have hr' : ∀ j, rest[j]? = ops[i + 1 + j]? := fun j => by have := hr (j + 1); simpa [Nat.add_assoc, Nat.add_comm 1 j] using this
    have fin : ∀ (rec : DRec) (σ' : AS), OpRun P B ops base i o σ rec → inSlots o.dst σ.n → σ' = (σ.withH rec.H').puto o.dst rec.v → ftOk ops base ex i fs rec.ft → dList P B ops ex base next (i + 1) rest (fs ++ [rec.ft]) σ' →
        ∃ (r : Nat → DRec) (s : Nat → AS), s i = σ ∧ (∀ j o', (o :: rest)[j]? = some o' → OpRun P B ops base (i + j) o' (s (i + j)) (r (i + j)) ∧ inSlots o'.dst (s (i + j)).n ∧ s (i + j + 1) = ((s (i + j)).withH (r (i + j)).H').puto o'.dst (r (i + j)).v ∧
          (∀ b ∈ (r (i + j)).ft.rd, b < base ∨ (base ≤ b ∧ befB ops (b - base) (i + j) = true)) ∧ (∀ p ∈ ex, p.2 = i + j → dis base (if p.1 < i then fs.getD p.1 Ft.none else if p.1 < i + j then (r p.1).ft else Ft.none) (r (i + j)).ft)) ∧ next (s (i + (o :: rest).length)) := by
      intro rec σ' hrun hin hσ' hft hd
      obtain ⟨r, s, h1, h2, h3⟩ := dList_trace rest (i + 1) (fs ++ [rec.ft]) σ' (by simp [hl]) hr' hd
      refine ⟨fun k => if k = i then rec else r k, fun k => if k = i then σ else s k, by simp, fun j o' hj => ?_, ?_⟩
      · cases j with
        | zero =>
          simp only [List.getElem?_cons_zero, Option.some.injEq] at hj
          subst hj
          simp only [Nat.add_zero, if_true, show ¬ i + 1 = i by omega, if_false]
          refine ⟨hrun, hin, by rw [h1, hσ'], hft.1, fun p hp hpi => ?_⟩
          have := hft.2 p hp hpi
          by_cases hlt : p.1 < i
          · rw [if_pos hlt]; exact this
          · rw [if_neg hlt, if_neg hlt]
            have e0 : fs.getD p.1 Ft.none = Ft.none := by rw [List.getD_eq_getElem?_getD, List.getElem?_eq_none (by omega)]; rfl
            rw [e0] at this
            exact this
        | succ j =>
          have hj' : rest[j]? = some o' := by simpa using hj
          obtain ⟨g1, g2, g3, g4, g5⟩ := h2 j o' hj'
          have e1 : i + (j + 1) = i + 1 + j := by omega
          have hne : ¬ i + 1 + j = i := by omega
          have hne2 : ¬ i + 1 + j + 1 = i := by omega
          rw [e1]
          simp only [hne, hne2, if_false]
          refine ⟨g1, g2, g3, g4, fun p hp hpi => ?_⟩
          have := g5 p hp hpi
          by_cases hlt : p.1 < i
          · rw [if_pos hlt]
            rw [if_pos (show p.1 < i + 1 by omega)] at this
            rwa [List.getD_eq_getElem?_getD, List.getElem?_append_left (by omega), ← List.getD_eq_getElem?_getD] at this
          · rw [if_neg hlt]
            by_cases hpe : p.1 = i
            · rw [if_pos (show p.1 < i + 1 + j by omega), if_pos hpe]
              rw [if_pos (show p.1 < i + 1 by omega), hpe, List.getD_eq_getElem?_getD, List.getElem?_append_right (by omega)] at this
              simpa [hl] using this
            · rw [if_neg hpe]
              rw [if_neg (show ¬ p.1 < i + 1 by omega)] at this
              exact this
      · have : ¬ i + (o :: rest).length = i := by simp
        simp only [this, if_false]
        rw [show i + (o :: rest).length = i + 1 + rest.length by simp; omega]
        exact h3
    split at h
    · rename_i b hw
      cases b with
      | true =>
        have h := h.1 rfl
        unfold dOp at h
        split at h
        · rename_i f args tys ho
          split at h
          · rename_i g first caps hg
            obtain ⟨d, hp, hft, hin, hd⟩ := h
            exact fin ⟨d, σ.h, ⟨true, [], []⟩⟩ _ (.call hw f args tys g first caps ho hg hp rfl rfl) hin rfl hft hd
          · exact h.elim
        · rename_i op hno
          split at h
          · rename_i v H' ha
            obtain ⟨hft, hin, hd⟩ := h
            exact fin ⟨v, H', _⟩ _ (.run hw (fun f args tys e => hno f args tys e) ha rfl) hin rfl hft hd
          · exact h.elim
      | false =>
        obtain ⟨hin, hd⟩ := h.2 rfl
        exact fin ⟨.tup [], σ.h, Ft.none⟩ _ (.skip hw rfl rfl rfl) hin (by cases σ; rfl) ⟨fun b hb => by simp [Ft.none] at hb, fun p hp _ => ⟨fun b hb => by
          refine ⟨by simp [Ft.none], by simp [Ft.none], by simp [Ft.none]⟩, fun b hb => by simp [Ft.none] at hb⟩⟩ hd
    · exact h.elim

omit [Tabs] in
/-- What stands before an operation stands before it by an edge, or before what an edge leads to. -/
theorem before_spec (ops : Array Oper) : ∀ (j k : Nat), ((Region.before ops).getD j 0).testBit k = true → ∃ o e, ops[j]? = some o ∧ e ∈ o.after.toList ∧ Region.binds .any e = true ∧ (k = e.on ∨ (e.on < j ∧ ((Region.before ops).getD e.on 0).testBit k = true)) := by
  have key : ∀ (l : List Oper) (acc : Array Nat) (pre : List Oper), acc.size = pre.length →
      (∀ (j k : Nat), j < acc.size → (acc.getD j 0).testBit k = true → ∃ o e, pre[j]? = some o ∧ e ∈ o.after.toList ∧ Region.binds .any e = true ∧ (k = e.on ∨ (e.on < j ∧ (acc.getD e.on 0).testBit k = true))) →
      ∀ R, R = l.foldl (fun acc o => acc.push (o.after.foldl (fun s e => if Region.binds .any e then s ||| 2 ^ e.on ||| acc.getD e.on 0 else s) 0)) acc →
      R.size = (pre ++ l).length ∧ ∀ (j k : Nat), j < R.size → (R.getD j 0).testBit k = true → ∃ o e, (pre ++ l)[j]? = some o ∧ e ∈ o.after.toList ∧ Region.binds .any e = true ∧ (k = e.on ∨ (e.on < j ∧ (R.getD e.on 0).testBit k = true)) := by
    intro l
    induction l with
    | nil => intro acc pre hsz hacc R hR; simp at hR; subst hR; simpa [hsz] using hacc
    | cons o l ih =>
      intro acc pre hsz hacc R hR
      rw [List.foldl_cons] at hR
      have hbits : ∀ (es : List Edge) (s0 k : Nat), ((es.foldl (fun s e => if Region.binds .any e then s ||| 2 ^ e.on ||| acc.getD e.on 0 else s) s0).testBit k = true) → s0.testBit k = true ∨ ∃ e ∈ es, Region.binds .any e = true ∧ (k = e.on ∨ (acc.getD e.on 0).testBit k = true) := by
        intro es
        induction es with
        | nil => intro s0 k h; exact Or.inl h
        | cons e es ihe =>
          intro s0 k h
          rw [List.foldl_cons] at h
          rcases ihe _ _ h with h | ⟨e', he', hb, hk⟩
          · by_cases hbd : Region.binds .any e = true
            · rw [if_pos hbd, Nat.testBit_or, Nat.testBit_or, Nat.testBit_two_pow] at h
              simp only [Bool.or_eq_true, decide_eq_true_eq] at h
              rcases h with (h | h) | h
              · exact Or.inl h
              · exact Or.inr ⟨e, by simp, hbd, Or.inl h.symm⟩
              · exact Or.inr ⟨e, by simp, hbd, Or.inr h⟩
            · rw [if_neg hbd] at h; exact Or.inl h
          · exact Or.inr ⟨e', by simp [he'], hb, hk⟩
      have := ih (acc.push (o.after.foldl (fun s e => if Region.binds .any e then s ||| 2 ^ e.on ||| acc.getD e.on 0 else s) 0)) (pre ++ [o]) (by simp [hsz]) (fun j k hj hk => by
        simp only [Array.size_push] at hj
        have hpush : ∀ q, q < acc.size → (acc.push (o.after.foldl (fun s e => if Region.binds .any e then s ||| 2 ^ e.on ||| acc.getD e.on 0 else s) 0)).getD q 0 = acc.getD q 0 := fun q hq => by
          simp [Array.getD_eq_getD_getElem?, Array.getElem?_push, show ¬ q = acc.size by omega]
        by_cases hlt : j < acc.size
        · rw [hpush j hlt] at hk
          obtain ⟨o', e, h1, h2, h3, h4⟩ := hacc j k hlt hk
          refine ⟨o', e, by rw [List.getElem?_append_left (by omega)]; exact h1, h2, h3, h4.imp id (fun h => ⟨h.1, by rw [hpush _ (by omega)]; exact h.2⟩)⟩
        · have hje : j = acc.size := by omega
          subst hje
          have hlast : ∀ X, (acc.push X).getD acc.size 0 = X := fun X => by simp [Array.getD_eq_getD_getElem?]
          rw [hlast, ← Array.foldl_toList] at hk
          rcases hbits _ _ _ hk with h | ⟨e, he, hb, h⟩
          · simp at h
          · refine ⟨o, e, by simp [hsz], he, hb, ?_⟩
            by_cases helt : e.on < acc.size
            · exact h.imp id (fun h => ⟨helt, by rw [hpush _ helt]; exact h⟩)
            · rcases h with h | h
              · exact Or.inl h
              · rw [show acc.getD e.on 0 = 0 by simp [Array.getD_eq_getD_getElem?, Array.getElem?_eq_none (Nat.le_of_not_lt helt)]] at h
                simp at h) R hR
      simpa using this
  intro j k h
  have hR := key ops.toList #[] [] rfl (fun j k hj => by simp at hj) (Region.before ops) (by unfold Region.before; rw [← Array.foldl_toList])
  simp only [List.nil_append, Array.length_toList] at hR
  have hj : j < (Region.before ops).size := by
    rcases Nat.lt_or_ge j (Region.before ops).size with h' | h'
    · exact h'
    · simp [Array.getD_eq_getD_getElem?, Array.getElem?_eq_none h'] at h
  obtain ⟨o, e, h1, h2⟩ := hR.2 j k hj h
  exact ⟨o, e, by simpa using h1, h2⟩

end
end Go.M3
