/- Composite values; what is left of the operations that look at values alone. -/
import Derived.Test.YtgeocanldpolpaaDoorM3Val3
set_option linter.unusedVariables false
namespace Go.M3

/-- All cells of it can be stored. -/
def AV.solid (v : AV) : Bool := v.cells.all AV.one

def splice (cells : List AV) (off : Nat) (v : List AV) : List AV := cells.take off ++ v ++ cells.drop (off + v.length)

def aFill (place : Nat → Option (Nat × Nat)) (cells : List AV) : List (Nat × AV) → Option (List AV)
  | [] => some cells
  | (i, v) :: rest =>
    match place i with
    | none => none
    | some (off, size) => if v.cells.length = size ∧ off + size ≤ cells.length ∧ v.solid = true then aFill place (splice cells off v.cells) rest else none

def zeroCellsOf (P : Program) (t : TypeId) : Option (List AV) :=
  match P.info? t with
  | some i => match i.zero with
    | some z => some (z.cells.toList.map ofConst)
    | none => none
  | none => none

def infoAll (P : Program) (fs : Array Field) : Bool := fs.all fun f => (P.info? f.type).isSome

def aBuild (P : Program) (t : TypeId) (parts : List (Nat × AV)) : Option AV :=
  match P.underlying t, zeroCellsOf P t with
  | some (.struct fs), some z => if infoAll P fs = true then (aFill (fun i => (fs[i]?).map fun f => (f.offset, P.cellsOf f.type)) z parts).map .agg else none
  | some (.array _ e), some z => if P.cellsOf e ≠ 0 then (aFill (fun i => some (i * P.cellsOf e, P.cellsOf e)) z parts).map .agg else none
  | _, _ => none

section
variable {P : Program} {w : World} {O : Nat → Prop} {β : Map}

/-- Cells, in order. -/
def VC (w : World) (O : Nat → Prop) (β : Map) (cs : List AV) (a : List Value) : Prop := a.length = cs.length ∧ ∀ (i : Nat) (c : AV), cs[i]? = some c → ∃ x, a[i]? = some x ∧ VR w O β c x

theorem VC.nil : VC w O β [] [] := ⟨rfl, fun i c h => by simp at h⟩

theorem VC.append {cs ds : List AV} {a b : List Value} (h : VC w O β cs a) (k : VC w O β ds b) : VC w O β (cs ++ ds) (a ++ b) := by
  refine ⟨by simp [h.1, k.1], fun i c hc => ?_⟩
  rw [List.getElem?_append] at hc ⊢
  rw [h.1]
  split at hc
  · rename_i hlt; rw [if_pos hlt]; exact h.2 i c hc
  · rename_i hlt; rw [if_neg hlt]; exact k.2 _ c hc

theorem VC.take {cs : List AV} {a : List Value} (h : VC w O β cs a) (n : Nat) : VC w O β (cs.take n) (a.take n) := by
  refine ⟨by simp [h.1], fun i c hc => ?_⟩
  rw [List.getElem?_take] at hc ⊢
  split at hc
  · rename_i hlt; rw [if_pos hlt]; exact h.2 i c hc
  · cases hc

theorem VC.drop {cs : List AV} {a : List Value} (h : VC w O β cs a) (n : Nat) : VC w O β (cs.drop n) (a.drop n) := by
  refine ⟨by simp [h.1], fun i c hc => ?_⟩
  rw [List.getElem?_drop] at hc ⊢
  exact h.2 _ c hc

theorem VC.of_array {cs : List AV} {a : Array Value} (hl : a.size = cs.length) (h : ∀ i c, cs[i]? = some c → VR w O β c (a.getD i undef)) : VC w O β cs a.toList := by
  refine ⟨by simpa using hl, fun i c hc => ?_⟩
  have hlt : i < a.size := by have := (List.getElem?_eq_some_iff.1 hc).1; omega
  have := h i c hc
  exact ⟨a[i], by simp [hlt], by simpa [hlt] using this⟩

theorem VC.to_array {cs : List AV} {a : Array Value} (h : VC w O β cs a.toList) : a.size = cs.length ∧ ∀ i c, cs[i]? = some c → VR w O β c (a.getD i undef) := by
  refine ⟨by simpa using h.1, fun i c hc => ?_⟩
  obtain ⟨x, hx, hv⟩ := h.2 i c hc
  have hlt : i < a.size := by have := (List.getElem?_eq_some_iff.1 hx).1; simpa using this
  have : a[i] = x := by simpa [hlt] using hx
  simpa [hlt, this] using hv

theorem one_of {v : AV} {x : Value} (h : VR w O β v x) (ho : v.one = true) : x.oneCell' = true ∧ x.cells = #[x] := by
  cases h <;> simp_all [AV.one, Value.oneCell', Value.cells]

theorem VR.cells {v : AV} {x : Value} (h : VR w O β v x) (ho : v.solid = true) : VC w O β v.cells x.cells.toList ∧ ∀ y ∈ x.cells.toList, y.oneCell' = true := by
  by_cases hag : ∃ cs, v = .agg cs
  · obtain ⟨cs, rfl⟩ := hag
    cases h with
    | agg _ a hl hs =>
      refine ⟨VC.of_array hl hs, fun y hy => ?_⟩
      simp only [Value.cells] at hy
      obtain ⟨i, hi, rfl⟩ := List.getElem_of_mem hy
      have hi' : i < cs.length := by simp at hi; omega
      have ho' : cs[i].one = true := by
        have := List.all_eq_true.1 ho cs[i] (List.getElem_mem hi')
        exact this
      have hv := hs i cs[i] (by simp [hi'])
      have hia : i < a.size := by omega
      have := (one_of hv ho').1
      simpa [hia] using this
  · have h1 : v.cells = [v] := by
      cases v <;> first | rfl | (exact absurd ⟨_, rfl⟩ hag)
    rw [AV.solid, h1] at ho
    have ho' : v.one = true := by simpa using ho
    have hx := one_of h ho'
    rw [h1, hx.2]
    exact ⟨⟨rfl, fun i c hc => by
      cases i with
      | zero => simp at hc; subst hc; exact ⟨x, rfl, h⟩
      | succ i => simp at hc⟩, fun y hy => by simp at hy; subst hy; exact hx.1⟩

theorem set_cells (v : List Value) : ∀ (cells : Array Value) (off n : Nat), off + n + v.length ≤ cells.size →
    ((v.zipIdx n).foldl (fun (cs : Array Value) (p : Value × Nat) => cs.setIfInBounds (off + p.2) p.1) cells).toList = cells.toList.take (off + n) ++ v ++ cells.toList.drop (off + n + v.length) := by
  induction v with
  | nil => intro cells off n h; simp
  | cons c v ih =>
    intro cells off n h
    simp only [List.length_cons] at h
    rw [List.zipIdx_cons, List.foldl_cons, ih _ _ _ (by simp; omega)]
    simp only [Array.toList_setIfInBounds]
    have hlt : off + n < cells.toList.length := by simp; omega
    rw [show off + (n + 1) = off + n + 1 by omega, List.take_add_one, List.getElem?_set_self hlt, List.take_set_of_le (Nat.le_refl _), List.drop_set_of_lt (by omega)]
    simp only [Option.toList_some, List.append_assoc, List.singleton_append, List.length_cons]
    congr 3
    rw [show off + n + 1 + v.length = off + n + (v.length + 1) by omega]

theorem aFill_sound {place : Nat → Option (Nat × Nat)} : ∀ {parts : List (Nat × AV)} {vals : List (Nat × Value)} {cells : List AV} {a : Array Value} {r : List AV}, aFill place cells parts = some r → VC w O β cells a.toList →
    (parts.length = vals.length ∧ ∀ (i : Nat) (p : Nat × AV), parts[i]? = some p → ∃ x, vals[i]? = some (p.1, x) ∧ VR w O β p.2 x) →
    ∃ b, Instr.fill place a vals = some b ∧ VC w O β r b.toList
  | [], vals, cells, a, r, h, hc, hp => by
    obtain rfl : vals = [] := List.eq_nil_of_length_eq_zero (by simpa using hp.1.symm)
    simp only [aFill, Option.some.injEq] at h
    subst h
    exact ⟨a, rfl, hc⟩
  | (i, v) :: parts, [], cells, a, r, h, hc, hp => by simp at hp
  | (i, v) :: parts, (i', x) :: vals, cells, a, r, h, hc, hp => by
    obtain ⟨x', hx', hv⟩ := hp.2 0 (i, v) rfl
    obtain ⟨rfl, rfl⟩ : i' = i ∧ x = x' := by simpa using hx'
    unfold aFill at h
    cases hpl : place i' with
    | none => simp [hpl] at h
    | some os =>
      obtain ⟨off, size⟩ := os
      simp only [hpl] at h
      split at h
      · rename_i hcond
        obtain ⟨h1, h2, h3⟩ := hcond
        obtain ⟨hvc, hone⟩ := VR.cells hv h3
        have hsz : x.cells.size = size := by have := hvc.1; simp at this; omega
        have hcl : a.size = cells.length := by have := hc.1; simpa using this
        have hset := set_cells x.cells.toList a off 0 (by simp; omega)
        have hvc' : VC w O β (splice cells off v.cells) (x.cells.zipIdx.foldl (fun (cs : Array Value) (p : Value × Nat) => cs.setIfInBounds (off + p.2) p.1) a).toList := by
          rw [← Array.foldl_toList, Array.toList_zipIdx, hset]
          simp only [Nat.add_zero]
          unfold splice
          have hle : x.cells.toList.length = v.cells.length := hvc.1
          rw [hle]
          exact (VC.append (VC.append (hc.take off) hvc) (hc.drop _))
        obtain ⟨b, hb, hbr⟩ := aFill_sound h hvc' ⟨by simpa using hp.1, fun j p hj => by have := hp.2 (j + 1) p (by simpa using hj); simpa using this⟩
        refine ⟨b, ?_, hbr⟩
        unfold Instr.fill
        simp only [hpl]
        rw [if_neg (by simp; omega)]
        exact hb
      · cases h

end
end Go.M3
