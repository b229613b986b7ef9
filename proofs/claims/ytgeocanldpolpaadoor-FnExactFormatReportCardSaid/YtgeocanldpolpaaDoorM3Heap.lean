/- The call's own memory: new blocks, stores, loads. -/
import Derived.Test.YtgeocanldpolpaaDoorM3Op
import Derived.Laws.CopyRow
set_option linter.unusedVariables false
namespace Go.M3

section
variable {P : Program} {w : World} {O : Nat → Prop} {β : Map} {H : AH}

/-- All elements have m cells. -/
def Even (m : Nat) (es : List (List AV)) : Prop := ∀ e ∈ es, e.length = m

theorem Even.length_flatten {m : Nat} : ∀ {es : List (List AV)}, Even m es → es.flatten.length = es.length * m
  | [], _ => by simp
  | e :: es, h => by
    have h1 : e.length = m := h e (by simp)
    have h2 := Even.length_flatten (es := es) (fun x hx => h x (by simp [hx]))
    simp only [List.flatten_cons, List.length_append, h1, h2, List.length_cons, Nat.add_mul]
    omega

theorem Even.cell {m : Nat} : ∀ {es : List (List AV)} {i j : Nat} {c : AV}, Even m es → cellAt? es i j = some c → es.flatten[i * m + j]? = some c ∧ j < m ∧ i < es.length
  | [], i, j, c, _, h => by simp [cellAt?] at h
  | e :: es, 0, j, c, hm, h => by
    have h1 : e.length = m := hm e (by simp)
    simp only [cellAt?, List.getElem?_cons_zero, Option.bind_some] at h
    have hlt : j < e.length := (List.getElem?_eq_some_iff.1 h).1
    refine ⟨?_, by omega, by simp⟩
    rw [List.flatten_cons, List.getElem?_append_left (by omega)]
    simpa using h
  | e :: es, i + 1, j, c, hm, h => by
    have h1 : e.length = m := hm e (by simp)
    have h' : cellAt? es i j = some c := by simpa [cellAt?] using h
    obtain ⟨h2, h3, h4⟩ := Even.cell (es := es) (fun x hx => hm x (by simp [hx])) h'
    refine ⟨?_, h3, by simp; omega⟩
    rw [List.flatten_cons, List.getElem?_append_right (by rw [h1, Nat.add_mul]; omega), h1, show (i + 1) * m + j - m = i * m + j by rw [Nat.add_mul]; omega]
    exact h2

/-- Flat cells, as an array holds them from a place on. -/
theorem cells_of_flat {m : Nat} {es : List (List AV)} {a : List Value} (hm : Even m es) (h : VC w O β es.flatten a) {i j : Nat} {c : AV} (hc : cellAt? es i j = some c) : ∃ x, a[i * m + j]? = some x ∧ VR w O β c x :=
  h.2 _ _ (Even.cell hm hc).1

def oNew (w : World) (O : Nat → Prop) : Nat → Prop := fun k => O k ∨ k = w.heap.size
def bNew (β : Map) (b : Nat) (L : Loc) : Map := fun c => if c = b then some L else β c

theorem alloc_heap (w : World) (o : Obj) (k : Nat) (h : k < w.heap.size) : (w.alloc o).heap[k]? = w.heap[k]? := RowKit.Below.heap_alloc w o k h
theorem alloc_new (w : World) (o : Obj) : (w.alloc o).heap[w.heap.size]? = some o := by
  show (w.heap.push o)[w.heap.size]? = _
  simp
theorem alloc_size (w : World) (o : Obj) : (w.alloc o).heap.size = w.heap.size + 1 := by
  show (w.heap.push o).size = _
  simp

theorem ST.new {b0 : Nat} (hb0 : β b0 = none) (o : Obj) (L : Loc) (hk : L.k = w.heap.size) : ST w O β (w.alloc o) (oNew w O) (bNew β b0 L) where
  os := rfl
  tape := rfl
  output := rfl
  size := by rw [alloc_size]; omega
  keep := fun k hk _ => alloc_heap w o k hk
  rest := fun k hk _ => alloc_heap w o k hk
  own := fun k hk => ⟨fun h => h.elim id (fun e => by omega), Or.inl⟩
  map := fun b L' hb => by
    have : b ≠ b0 := fun e => by rw [e, hb0] at hb; cases hb
    simp [bNew, this, hb]
  src := fun b L' hb => by
    by_cases hbn : b = b0
    · simp only [bNew, hbn, if_true, Option.some.injEq] at hb
      subst hb
      exact Or.inl (by omega)
    · simp only [bNew, hbn, if_false] at hb
      exact Or.inr ⟨b, L', hb, rfl⟩

theorem HR.new (hH : HR w O β H) {b0 : Nat} (hb0 : β b0 = none) {es : List (List AV)} {arr : Array Value} {ty : TypeId} {m cp : Nat} {wh : Bool} (hm : Even m es) (hc : VC w O β es.flatten (arr.toList.take (es.length * m))) (hle : es.length ≤ cp) (hcp : cp * m ≤ arr.size) (hwh : wh = true → es.length = cp) :
    HR (w.alloc (.cells arr ty (0, 0))) (oNew w O) (bNew β b0 ⟨w.heap.size, 0, m, cp⟩) (H.new b0 ⟨wh, es⟩) where
  live := fun b B hb => by
    have hst := ST.new (w := w) (O := O) hb0 (.cells arr ty (0, 0)) ⟨w.heap.size, 0, m, cp⟩ rfl
    by_cases hbn : b = b0
    · simp only [AH.new, hbn, if_true, Option.some.injEq] at hb
      subst hb
      refine ⟨⟨w.heap.size, 0, m, cp⟩, arr, ty, by simp [bNew, hbn], Or.inr rfl, alloc_new w _, hm, hle, by simpa using hcp, hwh, fun i j c hcc => ?_⟩
      obtain ⟨x, hx, hv⟩ := cells_of_flat hm hc hcc
      have hx' : arr[i * m + j]? = some x := by
        rw [List.getElem?_take] at hx
        split at hx
        · simpa using hx
        · cases hx
      have := hv.mono hst
      simpa [hx'] using this
    · simp only [AH.new, hbn, if_false] at hb
      obtain ⟨L, a, t, h1, h2, h3, h4, h5, h6, h7, h8⟩ := hH.live b B hb
      have hlt := hH.lt _ h2
      exact ⟨L, a, t, by simp [bNew, hbn, h1], Or.inl h2, by rw [alloc_heap w _ _ hlt]; exact h3, h4, h5, h6, h7, fun i j c hcc => (h8 i j c hcc).mono hst⟩
  inj := fun b b' B B' L L' hb hb' hL hL' hk => by
    by_cases hbn : b = b0 <;> by_cases hbn' : b' = b0
    · rw [hbn, hbn']
    · simp only [AH.new, hbn', if_false] at hb'
      obtain ⟨L2, a, t, h1, h2, h3, _⟩ := hH.live b' B' hb'
      have hlt := hH.lt _ h2
      simp [bNew, hbn] at hL
      simp [bNew, hbn', h1] at hL'
      subst hL; subst hL'
      simp at hk; omega
    · simp only [AH.new, hbn, if_false] at hb
      obtain ⟨L2, a, t, h1, h2, h3, _⟩ := hH.live b B hb
      have hlt := hH.lt _ h2
      simp [bNew, hbn'] at hL'
      simp [bNew, hbn, h1] at hL
      subst hL; subst hL'
      simp at hk; omega
    · simp only [AH.new, hbn, hbn', if_false] at hb hb'
      simp only [bNew, hbn, hbn', if_false] at hL hL'
      exact hH.inj b b' B B' L L' hb hb' hL hL' hk
  lt := fun k hk => by
    rw [alloc_size]
    rcases hk with h | h
    · have := hH.lt k h; omega
    · omega
  next := fun b hb => by
    simp only [AH.new] at hb
    have : b ≠ b0 ∧ H.next ≤ b := by split at hb <;> omega
    simp only [bNew, this.1, if_false]
    exact hH.next b this.2

theorem HR.fresh (hH : HR w O β H) : β H.next = none := hH.next _ (Nat.le_refl _)

/-- A block written anew. -/
theorem HR.put (hH : HR w O β H) {b : Nat} {B : Blk} {es : List (List AV)} {L : Loc} {arr arr' : Array Value} {ty : TypeId} (hb : H.blk b = some B) (hL : β b = some L) (ha : w.heap[L.k]? = some (.cells arr ty (0, 0)))
    (hm : Even L.m es) (hlen : es.length = B.es.length) (hsz : arr'.size = arr.size) (hc : ∀ i j c, cellAt? es i j = some c → VR w O β c (arr'.getD (L.o + i * L.m + j) undef)) :
    ST w O β (w.setRow L.k arr') O β ∧ HR (w.setRow L.k arr') O β (H.set b ⟨B.whole, es⟩) := by
  obtain ⟨L0, a0, t0, h1, h2, h3, h4, h5, h6, h7, h8⟩ := hH.live b B hb
  rw [hL] at h1
  obtain rfl : L = L0 := by simpa using h1
  rw [ha] at h3
  obtain ⟨rfl, rfl⟩ : arr = a0 ∧ ty = t0 := by simpa using h3
  have hst : ST w O β (w.setRow L.k arr') O β := ⟨rfl, rfl, rfl, by simp [World.setRow], fun k hk hO => setRow_other w L.k k arr' (fun e => hO (e ▸ h2)), fun k hk hno => setRow_other w L.k k arr' (fun e => hno b L hL e.symm), fun _ _ => Iff.rfl, fun _ _ h => h, fun b L h => Or.inr ⟨b, L, h, rfl⟩⟩
  refine ⟨hst, ?_⟩
  refine ⟨fun c C hC => ?_, fun c c' C C' M M' hC hC' hM hM' hk => ?_, fun k hk => by have := hH.lt k hk; simpa [World.setRow] using this, hH.next⟩
  · by_cases hcb : c = b
    · simp only [AH.set, hcb, if_true, Option.some.injEq] at hC
      subst hC
      refine ⟨L, arr', ty, by rw [hcb]; exact hL, h2, setRow_heap w L.k arr arr' ty _ ha, hm, by rw [hlen]; exact h5, by rw [hsz]; exact h6, fun hw => by rw [hlen]; exact h7 hw, fun i j d hd => (hc i j d hd).mono hst⟩
    · simp only [AH.set, hcb, if_false] at hC
      obtain ⟨M, a, t, g1, g2, g3, g4, g5, g6, g7, g8⟩ := hH.live c C hC
      have hne : M.k ≠ L.k := fun e => hcb (hH.inj c b C B M L hC hb g1 hL e)
      exact ⟨M, a, t, g1, g2, by rw [setRow_other w L.k M.k arr' hne]; exact g3, g4, g5, g6, g7, fun i j d hd => (g8 i j d hd).mono hst⟩
  · have hx : ∀ d D, (H.set b ⟨B.whole, es⟩).blk d = some D → ∃ D', H.blk d = some D' := fun d D hD => by
      by_cases hdb : d = b
      · exact ⟨B, by rw [hdb]; exact hb⟩
      · simp only [AH.set, hdb, if_false] at hD; exact ⟨D, hD⟩
    obtain ⟨D, hD⟩ := hx c C hC
    obtain ⟨D', hD'⟩ := hx c' C' hC'
    exact hH.inj c c' D D' M M' hD hD' hM hM' hk

theorem HR.kill (hH : HR w O β H) (b : Nat) : HR w O β (H.kill b) where
  live := fun c C hC => by
    by_cases hcb : c = b
    · simp [AH.kill, hcb] at hC
    · simp only [AH.kill, hcb, if_false] at hC
      exact hH.live c C hC
  inj := fun c c' C C' M M' hC hC' hM hM' hk => by
    have hx : ∀ d D, (H.kill b).blk d = some D → H.blk d = some D := fun d D hD => by
      by_cases hdb : d = b
      · simp [AH.kill, hdb] at hD
      · simpa only [AH.kill, hdb, if_false] using hD
    exact hH.inj c c' C C' M M' (hx _ _ hC) (hx _ _ hC') hM hM' hk
  lt := hH.lt
  next := hH.next

end
end Go.M3
