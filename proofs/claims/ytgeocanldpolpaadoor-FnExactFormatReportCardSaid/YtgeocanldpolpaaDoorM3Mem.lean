/- Loads, stores, new variables. -/
import Derived.Test.YtgeocanldpolpaaDoorM3Heap
set_option linter.unusedVariables false
namespace Go.M3

def aLoadCells (P : Program) (t : TypeId) (cs : List AV) : Option AV :=
  match isAggT P t with
  | some true => if P.cellsOf t ≠ 0 ∧ P.cellsOf t ≤ cs.length then some (.agg (cs.take (P.cellsOf t))) else none
  | some false => cs[0]?
  | none => none

def aLoad (P : Program) (H : AH) (t : TypeId) (p : AV) : Option AV :=
  match p with
  | .ref b i j => match H.blk b with
    | some B => match B.es[i]? with
      | some e => aLoadCells P t (e.drop j)
      | none => none
    | none => none
  | .rptr cs => aLoadCells P t cs
  | _ => none

def aStore (P : Program) (H : AH) (t : TypeId) (p v : AV) : Option AH :=
  match p with
  | .ref b i j => match H.blk b with
    | some B => match B.es[i]? with
      | some e => if v.solid = true ∧ v.cells.length = P.cellsOf t ∧ P.cellsOf t ≠ 0 ∧ j + v.cells.length ≤ e.length then some (H.set b ⟨B.whole, B.es.set i (splice e j v.cells)⟩) else none
      | none => none
    | none => none
  | _ => none

def aAlloc (P : Program) (H : AH) (nx : Nat) (t : TypeId) : Option (AV × AH) :=
  match zeroCellsOf P t with
  | some z => some (.ref nx 0 0, H.new nx ⟨true, [z]⟩)
  | none => none

def aBox (H : AH) (nx : Nat) (v : AV) : Option (AV × AH) := if v.solid = true then some (.ref nx 0 0, H.new nx ⟨true, [v.cells]⟩) else none

section
variable {P : Program} {w : World} {O : Nat → Prop} {β : Map} {H : AH}

/-- Cells of memory from a place on. -/
def At (w : World) (O : Nat → Prop) (β : Map) (cs : List AV) (k o : Nat) : Prop := ∀ (j : Nat) (c : AV), cs[j]? = some c → ∃ x, w.cell? ⟨k, o + j, none⟩ = some x ∧ VR w O β c x

theorem At.drop {cs : List AV} {k o : Nat} (h : At w O β cs k o) (n : Nat) : At w O β (cs.drop n) k (o + n) := fun j c hc => by
  rw [List.getElem?_drop] at hc
  have := h _ c hc
  rwa [Nat.add_assoc]

theorem cells_list {cs : List AV} {k o : Nat} (h : At w O β cs k o) : ∃ vs : List Value, VC w O β cs vs ∧ ∀ (j : Nat) (v : Value), vs[j]? = some v → w.cell? ⟨k, o + j, none⟩ = some v := by
  refine ⟨(List.range cs.length).map fun j => (w.cell? ⟨k, o + j, none⟩).getD undef, ⟨by simp, fun i c hc => ?_⟩, fun j v hv => ?_⟩
  · have hlt : i < cs.length := (List.getElem?_eq_some_iff.1 hc).1
    obtain ⟨x, hx, hv⟩ := h i c hc
    exact ⟨x, by simp [hlt, hx], hv⟩
  · have hlt : j < cs.length := by have := (List.getElem?_eq_some_iff.1 hv).1; simpa using this
    obtain ⟨x, hx, _⟩ := h j cs[j] (by simp [hlt])
    simp [hlt, hx] at hv
    rw [hx, hv]

theorem loadVar_sound {t : TypeId} {cs : List AV} {k o : Nat} {v : AV} (h : aLoadCells P t cs = some v) (hc : At w O β cs k o) : ∃ x, (loadVar t ⟨k, o, none⟩).run P w = .ok x w ∧ VR w O β v x := by
  unfold aLoadCells at h
  split at h
  · rename_i ha
    split at h
    · rename_i hn
      obtain rfl := Option.some.inj h
      have hc' : At w O β (cs.take (P.cellsOf t)) k o := fun j c hj => by
        rw [List.getElem?_take] at hj
        split at hj
        · exact hc j c hj
        · cases hj
      obtain ⟨vs, hvs, hcell⟩ := cells_list hc'
      have hl : vs.length = P.cellsOf t := by rw [hvs.1]; simp; omega
      have hr := run_loadCells_list (P := P) w ⟨k, o, none⟩ vs (fun j v hj => by rw [Addr.add_eq]; exact hcell j v hj)
      rw [hl] at hr
      have := VC.to_array (a := vs.toArray) (by simpa using hvs)
      exact ⟨.agg vs.toArray, by simp [loadVar, run_isAgg ha, run_size hn.1, hr], .agg _ _ this.1 this.2⟩
    · cases h
  · rename_i ha
    obtain ⟨x, hx, hv⟩ := hc 0 v h
    exact ⟨x, by simp [loadVar, run_isAgg ha, show w.cell? ⟨k, o, none⟩ = some x from hx], hv⟩
  · cases h

theorem HR.at (hH : HR w O β H) {b : Nat} {B : Blk} (hb : H.blk b = some B) {i : Nat} {e : List AV} (he : B.es[i]? = some e) {L : Loc} (hL : β b = some L) : At w O β e L.k (L.o + i * L.m) := fun j c hc => by
  obtain ⟨L0, a, t, h1, h2, h3, h4, h5, h6, h7, h8⟩ := hH.live b B hb
  rw [hL] at h1
  obtain rfl : L = L0 := by simpa using h1
  have hcell : cellAt? B.es i j = some c := by simp [cellAt?, he, hc]
  have hv := h8 i j c hcell
  have hilt : i < B.es.length := (List.getElem?_eq_some_iff.1 he).1
  have hjlt : j < L.m := by rw [← h4 e (List.mem_of_getElem? he)]; exact (List.getElem?_eq_some_iff.1 hc).1
  have hlt : L.o + i * L.m + j < a.size := by
    have : (i + 1) * L.m ≤ L.cp * L.m := Nat.mul_le_mul_right _ (by omega)
    rw [Nat.add_mul] at this
    omega
  exact ⟨a[L.o + i * L.m + j], by simp [World.cell?, h3, hlt], by simpa [hlt] using hv⟩

theorem aLoad_sound {t : TypeId} {p v : AV} {y : Value} (h : aLoad P H t p = some v) (hH : HR w O β H) (hp : VR w O β p y) : ∃ x, (Instr.loadAt t y).run P w = .ok x w ∧ VR w O β v x := by
  unfold aLoad at h
  split at h
  · rename_i b i j
    split at h
    · rename_i B hb
      split at h
      · rename_i e he
        cases hp with
        | ref _ _ _ L hL =>
          obtain ⟨x, hx, hv⟩ := loadVar_sound h ((hH.at hb he hL).drop j)
          exact ⟨x, by simpa [Instr.loadAt, Instr.sureAddr] using hx, hv⟩
      · cases h
    · cases h
  · rename_i cs
    cases hp with
    | rptr _ k o g hO hk hc hs =>
      obtain ⟨x, hx, hv⟩ := loadVar_sound h (k := k) (o := o) (fun j c hj => ⟨g j, hc j c hj, hs j c hj⟩)
      exact ⟨x, by simpa [Instr.loadAt, Instr.sureAddr] using hx, hv⟩
  · cases h

theorem cellAt?_set {es : List (List AV)} {i : Nat} {e : List AV} {i' j' : Nat} {c : AV} (h : cellAt? (es.set i e) i' j' = some c) : (i' = i ∧ e[j']? = some c) ∨ (i' ≠ i ∧ cellAt? es i' j' = some c) := by
  unfold cellAt? at h
  rw [List.getElem?_set] at h
  by_cases hi : i = i'
  · subst hi
    rw [if_pos rfl] at h
    split at h
    · exact Or.inl ⟨rfl, by simpa using h⟩
    · cases h
  · rw [if_neg hi] at h
    exact Or.inr ⟨fun e => hi e.symm, h⟩

theorem getElem?_splice {e : List AV} {j : Nat} {v : List AV} (hj : j + v.length ≤ e.length) (n : Nat) : (splice e j v)[n]? = if j ≤ n ∧ n < j + v.length then v[n - j]? else e[n]? := by
  unfold splice
  have h1 : (e.take j).length = j := by simp; omega
  rw [List.append_assoc, List.getElem?_append, h1]
  by_cases hn : n < j
  · rw [if_pos hn, List.getElem?_take, if_pos hn, if_neg (by omega)]
  · rw [if_neg hn, List.getElem?_append]
    by_cases hm : n - j < v.length
    · rw [if_pos hm, if_pos (by omega)]
    · rw [if_neg hm, if_neg (by omega), List.getElem?_drop]
      congr 1
      omega

theorem length_splice {e : List AV} {j : Nat} {v : List AV} (hj : j + v.length ≤ e.length) : (splice e j v).length = e.length := by
  simp [splice]; omega

theorem aStore_sound {t : TypeId} {p v : AV} {H' : AH} {y z : Value} (h : aStore P H t p v = some H') (hH : HR w O β H) (hp : VR w O β p y) (hv : VR w O β v z) :
    ∃ w', (Instr.storeAt t y z).run P w = .ok () w' ∧ ST w O β w' O β ∧ HR w' O β H' := by
  unfold aStore at h
  split at h
  · rename_i b i j
    split at h
    · rename_i B hb
      split at h
      · rename_i e he
        split at h
        · rename_i hcond
          obtain ⟨hsol, hlen, hnz, hle⟩ := hcond
          obtain rfl := Option.some.inj h
          cases hp with
          | ref _ _ _ L hL =>
            obtain ⟨L0, a, ty, h1, h2, h3, h4, h5, h6, h7, h8⟩ := hH.live b B hb
            rw [hL] at h1
            obtain rfl : L = L0 := by simpa using h1
            obtain ⟨hvc, hone⟩ := VR.cells hv hsol
            have hilt : i < B.es.length := (List.getElem?_eq_some_iff.1 he).1
            have hem : e.length = L.m := h4 e (List.mem_of_getElem? he)
            have hzl : z.cells.toList.length = v.cells.length := hvc.1
            have hfit : L.o + i * L.m + j + z.cells.toList.length ≤ a.size := by
              have : (i + 1) * L.m ≤ L.cp * L.m := Nat.mul_le_mul_right _ (by omega)
              rw [Nat.add_mul] at this
              omega
            have hr := run_storeCells_at P L.k (L.o + i * L.m + j) ty z.cells.toList 0 a w h3 (by simpa using hfit) hone
            simp only [Nat.add_zero] at hr
            refine ⟨w.setRow L.k (a.toList.take (L.o + i * L.m + j) ++ z.cells.toList ++ a.toList.drop (L.o + i * L.m + j + z.cells.toList.length)).toArray, ?_, ?_⟩
            rotate_left
            · refine HR.put (arr' := (a.toList.take (L.o + i * L.m + j) ++ z.cells.toList ++ a.toList.drop (L.o + i * L.m + j + z.cells.toList.length)).toArray) hH hb hL h3 ?_ (by simp) ?_ ?_
              · intro x hx
                rcases List.mem_or_eq_of_mem_set hx with hx | hx
                · exact h4 x hx
                · rw [hx, length_splice hle, hem]
              · have : a.toList.length = a.size := by simp
                simp only [List.size_toArray, List.length_append, List.length_take, List.length_drop, this]
                omega
              · intro i' j' c hc
                have hget : ∀ n, ((a.toList.take (L.o + i * L.m + j) ++ z.cells.toList ++ a.toList.drop (L.o + i * L.m + j + z.cells.toList.length)).toArray).getD n undef =
                    if L.o + i * L.m + j ≤ n ∧ n < L.o + i * L.m + j + z.cells.toList.length then z.cells.toList.getD (n - (L.o + i * L.m + j)) undef else a.getD n undef := by
                  intro n
                  have hal : a.toList.length = a.size := by simp
                  simp only [Array.getD_eq_getD_getElem?, List.getElem?_toArray, List.append_assoc, List.getD_eq_getElem?_getD]
                  have ht : (a.toList.take (L.o + i * L.m + j)).length = L.o + i * L.m + j := by simp; omega
                  rw [List.getElem?_append, ht]
                  by_cases hn : n < L.o + i * L.m + j
                  · rw [if_pos hn, List.getElem?_take, if_pos hn, if_neg (by omega)]; simp
                  · rw [if_neg hn, List.getElem?_append]
                    by_cases hm : n - (L.o + i * L.m + j) < z.cells.toList.length
                    · rw [if_pos hm, if_pos (by omega)]
                    · rw [if_neg hm, if_neg (by omega), List.getElem?_drop]
                      have : L.o + i * L.m + j + z.cells.toList.length + (n - (L.o + i * L.m + j) - z.cells.toList.length) = n := by omega
                      rw [this]; simp
                rw [hget]
                rcases cellAt?_set hc with ⟨rfl, hd⟩ | ⟨hne, hd⟩
                · rw [getElem?_splice hle] at hd
                  split at hd
                  · rename_i hin
                    obtain ⟨x, hx, hvx⟩ := hvc.2 _ _ hd
                    rw [if_pos (by omega)]
                    rw [show L.o + i' * L.m + j' - (L.o + i' * L.m + j) = j' - j by omega]
                    simpa [List.getD_eq_getElem?_getD, hx] using hvx
                  · rename_i hin
                    rw [if_neg (by omega)]
                    exact h8 i' j' c (by simp [cellAt?, he, hd])
                · have hj' : j' < L.m ∧ i' < B.es.length := by
                    have := Even.cell (m := L.m) h4 hd
                    exact ⟨this.2.1, this.2.2⟩
                  have : L.o + i * L.m + j ≤ L.o + i' * L.m + j' → ¬ (L.o + i' * L.m + j' < L.o + i * L.m + j + z.cells.toList.length) := by
                    intro hle1 hlt1
                    rcases Nat.lt_or_gt_of_ne hne with hlt | hgt
                    · have : (i' + 1) * L.m ≤ i * L.m := Nat.mul_le_mul_right _ hlt
                      rw [Nat.add_mul] at this; omega
                    · have : (i + 1) * L.m ≤ i' * L.m := Nat.mul_le_mul_right _ hgt
                      rw [Nat.add_mul] at this; omega
                  rw [if_neg (fun hh => this hh.1 hh.2)]
                  exact h8 i' j' c hd
            · have hsz : z.cells.size = P.cellsOf t := by rw [← hlen, ← hzl]; simp
              simp only [Instr.storeAt, Instr.sureAddr, Sem.run_bind, Sem.run_pure, Result.andThen_ok, storeVar, run_size hnz, hsz, ne_eq, not_true_eq_false, if_false]
              exact hr
        · cases h
      · cases h
    · cases h
  · cases h

theorem aBox_sound {t : TypeId} {v r : AV} {H' : AH} {z : Value} {nx : Nat} (h : aBox H nx v = some (r, H')) (hH : HR w O β H) (hnx : β nx = none) (hv : VR w O β v z) :
    ∃ x w' O' β', (Instr.box t z).run P w = .ok x w' ∧ ST w O β w' O' β' ∧ HR w' O' β' H' ∧ VR w' O' β' r x ∧ ∀ b, b ≠ nx → β' b = β b := by
  unfold aBox at h
  split at h
  · rename_i hsol
    simp only [Option.some.injEq, Prod.mk.injEq] at h
    obtain ⟨rfl, rfl⟩ := h
    obtain ⟨hvc, hone⟩ := VR.cells hv hsol
    refine ⟨.pointer (some ⟨w.heap.size, 0, none⟩), w.alloc (.cells z.cells t (0, 0)), oNew w O, bNew β nx ⟨w.heap.size, 0, v.cells.length, 1⟩, ?_, ST.new hnx _ _ rfl, ?_, ?_, fun b hb => by simp [bNew, hb]⟩
    · simp [Instr.box, newVar, newRow]
    · have hl : z.cells.toList.length = v.cells.length := hvc.1
      refine HR.new hH hnx (fun e he => by simp at he; rw [he]) ?_ (by simp) (by simp at hl; simp [hl]) (by simp)
      simp only [List.flatten_cons, List.flatten_nil, List.append_nil, List.length_singleton, Nat.one_mul]
      rw [List.take_of_length_le (by omega)]
      exact hvc
    · have := VR.ref (w := w.alloc (.cells z.cells t (0, 0))) (O := oNew w O) (β := bNew β nx ⟨w.heap.size, 0, v.cells.length, 1⟩) nx 0 0 ⟨w.heap.size, 0, v.cells.length, 1⟩ (by simp [bNew])
      simpa using this
  · cases h

theorem aAlloc_sound {t : TypeId} {r : AV} {H' : AH} {nx : Nat} (h : aAlloc P H nx t = some (r, H')) (hH : HR w O β H) (hnx : β nx = none) :
    ∃ x w' O' β', (Instr.alloc t true (.tuple #[])).run P w = .ok x w' ∧ ST w O β w' O' β' ∧ HR w' O' β' H' ∧ VR w' O' β' r x ∧ ∀ b, b ≠ nx → β' b = β b := by
  unfold aAlloc at h
  split at h
  · rename_i z hz
    simp only [Option.some.injEq, Prod.mk.injEq] at h
    obtain ⟨rfl, rfl⟩ := h
    obtain ⟨i, zv, hi, hzv, hzc⟩ := zeroCells_sound (w := w) (O := O) (β := β) hz
    refine ⟨.pointer (some ⟨w.heap.size, 0, none⟩), w.alloc (.cells zv.cells t (0, 0)), oNew w O, bNew β nx ⟨w.heap.size, 0, z.length, 1⟩, ?_, ST.new hnx _ _ rfl, ?_, ?_, fun b hb => by simp [bNew, hb]⟩
    · simp [Instr.alloc, zeroValue, typeInfo, hi, hzv, newVar, newRow]
    · have hl : zv.cells.toList.length = z.length := hzc.1
      refine HR.new hH hnx (fun e he => by simp at he; rw [he]) ?_ (by simp) (by simp at hl; simp [hl]) (by simp)
      simp only [List.flatten_cons, List.flatten_nil, List.append_nil, List.length_singleton, Nat.one_mul]
      rw [List.take_of_length_le (by omega)]
      exact hzc
    · have := VR.ref (w := w.alloc (.cells zv.cells t (0, 0))) (O := oNew w O) (β := bNew β nx ⟨w.heap.size, 0, z.length, 1⟩) nx 0 0 ⟨w.heap.size, 0, z.length, 1⟩ (by simp [bNew])
      simpa using this
  · cases h

end
end Go.M3
