/- Lists as loops leave them. -/
import Derived.Test.YtgeocanldpolpaaDoorM3Simp
import Derived.Sort.Grow
import Derived.Lib.AppendIntMem
set_option linter.unusedVariables false
set_option linter.unusedSectionVars false
namespace Go.M3

/-- A list, filled up to k; behind it zeros. -/
def filled {α β : Type} (f : α → β) (z : β) (l : List α) (k : Nat) : List β := (l.take k).map f ++ List.replicate (l.length - k) z

section
variable {α β : Type} {f : α → β} {z : β} {l : List α} {k : Nat}
theorem filled_zero : filled f z l 0 = List.replicate l.length z := by simp [filled]
theorem filled_all : filled f z l l.length = l.map f := by simp [filled]
theorem filled_length (h : k ≤ l.length) : (filled f z l k).length = l.length := by simp [filled]; omega
theorem filled_get (h : k < l.length) : (filled f z l k)[k]? = some z := by
  unfold filled
  have e1 : min k l.length = k := by omega
  rw [List.getElem?_append_right (by simp; omega), List.getElem?_replicate]
  simp [e1, show 0 < l.length - k by omega]
theorem filled_set (h : k < l.length) : (filled f z l k).set k (f l[k]) = filled f z l (k + 1) := by
  unfold filled
  apply List.ext_getElem?
  intro i
  have e1 : min k l.length = k := by omega
  have e2 : min (k + 1) l.length = k + 1 := by omega
  rw [List.getElem?_set]
  simp only [List.getElem?_append, List.length_map, List.length_take, List.length_append, List.length_replicate, List.getElem?_map, List.getElem?_take, List.getElem?_replicate, e1, e2]
  by_cases hi : k = i
  · subst hi
    rw [if_pos rfl, if_pos (by omega), if_pos (by omega), if_pos (by omega), List.getElem?_eq_getElem h]
    rfl
  · rw [if_neg hi]
    by_cases h1 : i < k
    · simp [h1, show i < k + 1 by omega]
    · simp [h1, show ¬ i < k + 1 by omega, show (i - k < l.length - k) ↔ (i - (k + 1) < l.length - (k + 1)) by omega]
end
@[simp] theorem take_map_all {α β : Type} {f : α → β} {l : List α} : List.take l.length (l.map f) = l.map f := List.take_of_length_le (by simp)
@[simp] theorem ite_twice {α : Type} {c : Prop} [Decidable c] {a b d : α} : (if c then a else if c then b else d) = if c then a else d := by by_cases h : c <;> simp [h]

theorem ST.grow (w : World) (k : Nat) (os : Array Obj) : ST w noOwn noMap (Sort.grow (w.drewN k) os) noOwn noMap := by
  have hd : (w.drewN k).heap = w.heap ∧ (w.drewN k).os = w.os ∧ (w.drewN k).tape = w.tape ∧ (w.drewN k).output = w.output := ⟨rfl, rfl, rfl, rfl⟩
  refine ⟨rfl, rfl, rfl, ?_, fun b hb _ => ?_, fun b hb _ => ?_, fun _ _ => Iff.rfl, fun b L h => by simp [noMap] at h, fun b L h => by simp [noMap] at h⟩
  · simp [Sort.grow, hd.1]
  · exact Lib.heap_grow_old w k os b hb
  · exact Lib.heap_grow_old w k os b hb

theorem VRs.one {w : World} {O : Nat → Prop} {β : Map} {v : AV} {a : Array Value} (h : VRs w O β [v] a) : ∃ x, a = #[x] ∧ VR w O β v x := by
  obtain ⟨h1, h2⟩ := h
  match a, h1 with
  | ⟨[x]⟩, _ => exact ⟨x, rfl, by simpa using h2 0 v rfl⟩

theorem Enters.of {P : Program} {f : FuncId} {fn : Func} (hf : P.funcs[f]? = some fn) (hb : fn.body.isSome = true) (hn : (fn.name == "runtime.NumGoroutine") = false) : Enters P f := by
  obtain ⟨c, hc⟩ := Option.isSome_iff_exists.1 hb
  exact ⟨fn, c, hf, hc, hn⟩
end Go.M3
