/- Slices that are made and appended to: soundness. -/
import Derived.Test.YtgeocanldpolpaaDoorM3Sl
set_option linter.unusedVariables false
namespace Go.M3

section
variable {P : Program} {w : World} {O : Nat → Prop} {β : Map} {H : AH}

theorem splice_flatten {m : Nat} : ∀ {es : List (List AV)} {i : Nat} {c : List AV}, Even m es → i < es.length → c.length = m → (es.set i c).flatten = splice es.flatten (i * m) c ∧ i * m + m ≤ es.flatten.length
  | [], i, c, h, hi, hc => by simp at hi
  | e :: es, 0, c, h, hi, hc => by
    have he : e.length = m := h e (by simp)
    refine ⟨?_, by simp; omega⟩
    simp only [List.set_cons_zero, List.flatten_cons, splice, Nat.zero_mul, List.take_zero, List.nil_append, Nat.zero_add]
    rw [hc, ← he, List.drop_left]
  | e :: es, i + 1, c, h, hi, hc => by
    have he : e.length = m := h e (by simp)
    obtain ⟨h1, h2⟩ := splice_flatten (es := es) (i := i) (c := c) (fun x hx => h x (by simp [hx])) (by simpa using hi) hc
    have hmul : (i + 1) * m = e.length + i * m := by rw [he, Nat.add_mul]; omega
    refine ⟨?_, by simp only [List.flatten_cons, List.length_append]; omega⟩
    simp only [List.set_cons_succ, List.flatten_cons, h1, splice, hmul]
    rw [List.take_length_add_append, show e.length + i * m + c.length = e.length + (i * m + c.length) by omega, List.drop_length_add_append]
    simp

theorem Even.set {m : Nat} {es : List (List AV)} {i : Nat} {c : List AV} (h : Even m es) (hc : c.length = m) : Even m (es.set i c) := fun e he => by
  rcases List.mem_or_eq_of_mem_set he with he | he
  · exact h e he
  · rw [he]; exact hc

theorem aFillE_flat {m : Nat} : ∀ {parts : List (Nat × AV)} {es r : List (List AV)}, aFillE m es parts = some r → Even m es → aFill (fun i => some (i * m, m)) es.flatten parts = some r.flatten ∧ Even m r ∧ r.length = es.length
  | [], es, r, h, hE => by simp only [aFillE, Option.some.injEq] at h; subst h; exact ⟨rfl, hE, rfl⟩
  | (i, v) :: parts, es, r, h, hE => by
    unfold aFillE at h
    split at h
    · rename_i hc
      obtain ⟨h1, h2, h3⟩ := hc
      obtain ⟨hs, hle⟩ := splice_flatten hE h1 h2
      obtain ⟨g1, g2, g3⟩ := aFillE_flat h (hE.set h2)
      refine ⟨?_, g2, by rw [g3]; simp⟩
      unfold aFill
      simp only
      rw [if_pos ⟨h2, hle, h3⟩, ← hs]
      exact g1
    · cases h

theorem flatten_replicate_get {z : List AV} {m : Nat} (hz : z.length = m) (hm : m ≠ 0) : ∀ (n i : Nat), i < n * m → (List.replicate n z).flatten[i]? = z[i % m]?
  | 0, i, h => by simp at h
  | n + 1, i, h => by
    rw [List.replicate_succ, List.flatten_cons]
    by_cases hi : i < m
    · rw [List.getElem?_append_left (by omega), Nat.mod_eq_of_lt hi]
    · rw [List.getElem?_append_right (by omega), hz, flatten_replicate_get hz hm n (i - m) (by rw [Nat.add_mul] at h; omega)]
      congr 1
      rw [Nat.mod_eq_sub_mod (by omega : i ≥ m)]

theorem zeros_VC {z : List AV} {zv : Array Value} {m : Nat} (hzl : z.length = m) (hm : m ≠ 0) (hz : VC w O β z zv.toList) (n : Nat) : VC w O β (List.replicate n z).flatten (((Array.range (n * m)).map (zv[· % zv.size]!)).toList) := by
  have hsz : zv.size = m := by have := hz.1; simp at this; omega
  have hE : Even m (List.replicate n z) := fun e he => by rw [(List.mem_replicate.1 he).2]; exact hzl
  refine ⟨by simp [hE.length_flatten], fun i c hc => ?_⟩
  have hlt : i < n * m := by have := (List.getElem?_eq_some_iff.1 hc).1; rwa [hE.length_flatten, List.length_replicate] at this
  rw [flatten_replicate_get hzl hm n i hlt] at hc
  obtain ⟨x, hx, hv⟩ := hz.2 _ _ hc
  have hmod : i % m < zv.size := by rw [hsz]; exact Nat.mod_lt _ (by omega)
  have hx' : zv[i % m] = x := by simpa [hmod] using hx
  refine ⟨x, ?_, hv⟩
  simp [hlt, hsz, getElem!_pos zv (i % m) hmod, hx']

theorem even_replicate {m n : Nat} {z : List AV} (h : z.length = m) : Even m (List.replicate n z) := fun e he => by rw [(List.mem_replicate.1 he).2]; exact h

/-- A new block that nobody will write: a slice over it, read. -/
theorem sealed_new (hH : HR w O β H) {es : List (List AV)} {arr : Array Value} {ty : TypeId} {m : Nat} (hm : Even m es) (hc : VC w O β es.flatten arr.toList) :
    ST w O β (w.alloc (.cells arr ty (0, 0))) O β ∧ HR (w.alloc (.cells arr ty (0, 0))) O β H ∧ VR (w.alloc (.cells arr ty (0, 0))) O β (.lst es) (.slice (some ⟨w.heap.size, 0, none⟩) es.length es.length) := by
  have hst : ST w O β (w.alloc (.cells arr ty (0, 0))) O β := ⟨rfl, rfl, rfl, by rw [alloc_size]; omega, fun k hk _ => alloc_heap w _ k hk, fun k hk _ => alloc_heap w _ k hk, fun _ _ => Iff.rfl, fun _ _ h => h, fun b L h => Or.inr ⟨b, L, h, rfl⟩⟩
  refine ⟨hst, ⟨fun b B hb => ?_, hH.inj, fun k hk => by rw [alloc_size]; have := hH.lt k hk; omega, hH.next⟩, ?_⟩
  · obtain ⟨L, a, t, h1, h2, h3, h4, h5, h6, h7, h8⟩ := hH.live b B hb
    exact ⟨L, a, t, h1, h2, by rw [alloc_heap w _ _ (hH.lt _ h2)]; exact h3, h4, h5, h6, h7, fun i j c hcc => (h8 i j c hcc).mono hst⟩
  · refine .lst es w.heap.size 0 es.length m (fun i j => arr.getD (i * m + j) undef) (Nat.le_refl _) (fun h => by have := hH.lt _ h; omega) (by rw [alloc_size]; omega) hm (fun i j c hcc => ?_) (fun i j c hcc => ?_)
    · obtain ⟨x, hx, hv⟩ := cells_of_flat hm hc hcc
      have hx' : arr[i * m + j]? = some x := by simpa using hx
      simp only [World.cell?, alloc_new, Option.isSome_none, Bool.false_eq_true, if_false, Nat.zero_add]
      rw [Array.getD_eq_getD_getElem?, hx']; rfl
    · obtain ⟨x, hx, hv⟩ := cells_of_flat hm hc hcc
      have hx' : arr[i * m + j]? = some x := by simpa using hx
      simpa [hx'] using hv.mono hst

theorem aBuildSlice_sound {sl : Bool} {t : TypeId} {len : Nat} {parts : List (Nat × AV)} {r : AV} {H' : AH} {vals : Array (Nat × Value)} {nx : Nat} (h : aBuildSlice P H nx sl t len parts = some (r, H')) (hH : HR w O β H) (hnx : β nx = none)
    (hp : parts.length = vals.toList.length ∧ ∀ (i : Nat) (p : Nat × AV), parts[i]? = some p → ∃ x, vals.toList[i]? = some (p.1, x) ∧ VR w O β p.2 x) :
    ∃ x w' O' β', (Instr.buildSlice t len vals).run P w = .ok x w' ∧ ST w O β w' O' β' ∧ HR w' O' β' H' ∧ VR w' O' β' r x ∧ ∀ b, b ≠ nx → β' b = β b := by
  unfold aBuildSlice at h
  split at h
  · rename_i e hu
    split at h
    · rename_i z hz
      split at h
      · rename_i hcond
        obtain ⟨hne, hzl, hbig⟩ := hcond
        obtain ⟨i, zv, hi, hzv, hzc⟩ := zeroCells_sound (w := w) (O := O) (β := β) hz
        split at h
        · rename_i es hf
          obtain ⟨hflat, hE, hlen⟩ := aFillE_flat hf (even_replicate hzl)
          rw [List.length_replicate] at hlen
          have hzs := zeros_VC (w := w) (O := O) (β := β) hzl hne hzc len
          obtain ⟨arr, harr, hvc⟩ := aFill_sound hflat hzs hp
          have hasz : arr.size = len * P.cellsOf e := by
            have := hvc.1
            rw [hE.length_flatten, hlen] at this
            simpa using this
          have hzsz : zv.cells.size = P.cellsOf e := by have := hzc.1; simp at this; omega
          have hrun : (Instr.buildSlice t len vals).run P w = .ok (.slice (some ⟨w.heap.size, 0, none⟩) len len) (w.alloc (.cells arr e (0, 0))) := by
            unfold Instr.buildSlice
            have h24 : ¬ len * P.cellsOf e > 2 ^ 24 := by simp; omega
            simp only [Sem.run_bind, run_und hu, Result.andThen_ok, run_size hne, if_neg h24]
            by_cases h0 : len * P.cellsOf e = 0
            · have hl0 : len = 0 := by rcases Nat.mul_eq_zero.1 h0 with h | h; exact h; exact absurd h hne
              subst hl0
              have hr0 : ∀ f : Nat → Value, (Array.range 0).map f = #[] := fun f => Array.eq_empty_of_size_eq_zero (by simp)
              rw [Nat.zero_mul, hr0] at harr
              simp only [Nat.zero_mul, if_true, Sem.run_pure, Result.andThen_ok, hr0, harr]
              simp [newRow]
            · simp only [h0, if_false, zeroValue, typeInfo, Sem.run_bind, run_program, Result.andThen_ok, hi, hzv, Sem.run_pure, harr, newRow, run_newObj]
              rfl
          split at h
          · rename_i h0
            simp only [Option.some.injEq, Prod.mk.injEq] at h
            obtain ⟨rfl, rfl⟩ := h
            subst h0
            have hs := sealed_new (ty := e) hH hE hvc
            exact ⟨_, _, O, β, hrun, hs.1, hs.2.1, .zsl _, fun _ _ => rfl⟩
          · rename_i h0
            split at h
            · simp only [Option.some.injEq, Prod.mk.injEq] at h
              obtain ⟨rfl, rfl⟩ := h
              have hs := sealed_new (ty := e) hH hE hvc
              rw [hlen] at hs
              exact ⟨_, _, O, β, hrun, hs.1, hs.2.1, hs.2.2, fun _ _ => rfl⟩
            · simp only [Option.some.injEq, Prod.mk.injEq] at h
              obtain ⟨rfl, rfl⟩ := h
              refine ⟨_, _, oNew w O, bNew β nx ⟨w.heap.size, 0, P.cellsOf e, len⟩, hrun, ST.new hnx _ _ rfl, HR.new hH hnx hE ?_ (by omega) (by omega) (fun _ => hlen), ?_, fun b hb => by simp [bNew, hb]⟩
              · rw [List.take_of_length_le (by simp; rw [hasz, hlen]; exact Nat.le_refl _)]; exact hvc
              · have := VR.own (w := w.alloc (.cells arr e (0, 0))) (O := oNew w O) (β := bNew β nx ⟨w.heap.size, 0, P.cellsOf e, len⟩) nx (P.cellsOf e) 0 len ⟨w.heap.size, 0, P.cellsOf e, len⟩ (by simp [bNew]) rfl (by simp)
                simpa using this
        · cases h
      · cases h
    · cases h
  · cases h

theorem aMakeSlice_sound {t : TypeId} {l c r : AV} {H' : AH} {x y : Value} {nx : Nat} (h : aMakeSlice P H nx t l c = some (r, H')) (hH : HR w O β H) (hnx : β nx = none) (hl : VR w O β l x) (hc : VR w O β c y) :
    ∃ v w' O' β', (Instr.makeSlice t x y).run P w = .ok v w' ∧ ST w O β w' O' β' ∧ HR w' O' β' H' ∧ VR w' O' β' r v ∧ ∀ b, b ≠ nx → β' b = β b := by
  unfold aMakeSlice at h
  split at h
  · rename_i e l c hu
    cases hl
    cases hc
    split at h
    · rename_i z hz
      split at h
      · rename_i hcond
        obtain ⟨hne, hzl, h0, hlc, hmax, hby⟩ := hcond
        obtain ⟨i, zv, hi, hzv, hzc⟩ := zeroCells_sound (w := w) (O := O) (β := β) hz
        have hib : i.bytes = P.bytesOf e := by simp [Program.bytesOf, hi]
        have wl : IntKind.i64.wrap l = l := by simp [IntKind.wrap, IntKind.bits, IntKind.signed]; omega
        have wc : IntKind.i64.wrap c = c := by simp [IntKind.wrap, IntKind.bits, IntKind.signed]; omega
        have hzs := zeros_VC (w := w) (O := O) (β := β) hzl hne hzc c.toNat
        have hrun : (Instr.makeSlice t (.int .i64 l) (.int .i64 c)).run P w = .ok (.slice (some ⟨w.heap.size, 0, none⟩) l.toNat c.toNat) (w.alloc (.cells (if c.toNat * P.cellsOf e = 0 then #[] else (Array.range (c.toNat * P.cellsOf e)).map (zv.cells[· % zv.cells.size]!)) e (0, 0))) := by
          unfold Instr.makeSlice
          have hn1 : ¬ (c < 0 ∨ (P.bytesOf e : Int) * c > 2 ^ 48) := by
            have : (2 : Int) ^ 48 = 281474976710656 := by decide
            rw [this]; omega
          have hn2 : ¬ (l < 0) := by omega
          have hn3 : ¬ (l > c) := by omega
          simp only [Sem.run_bind, run_und hu, Result.andThen_ok, asInt, asIntOf, Sem.run_pure, typeInfo, run_program, hi, wl, wc, hib]
          have hcnd : (((decide (c < 0) || decide ((P.bytesOf e : Int) * c > 2 ^ 48)) || decide (l < 0) || decide (l > c)) = true) = False := by
            simp only [Bool.or_eq_true, decide_eq_true_eq, eq_iff_iff, iff_false]
            exact fun hh => hh.elim (fun hh => hh.elim hn1 hn2) hn3
          rw [if_neg (by rw [hcnd]; exact not_false)]
          simp only [run_askRoom, Result.andThen_ok, run_size hne, Sem.run_bind]
          by_cases hz0 : c.toNat * P.cellsOf e = 0
          · have hr0 : ∀ f : Nat → Value, (Array.range 0).map f = #[] := fun f => Array.eq_empty_of_size_eq_zero (by simp)
            simp only [hz0, if_true, Sem.run_pure, Result.andThen_ok, hr0]
            simp [newRow]
          · simp only [hz0, if_false, zeroValue, typeInfo, Sem.run_bind, run_program, Result.andThen_ok, hi, hzv, Sem.run_pure, newRow, run_newObj]
            rfl
        split at h
        · rename_i hc0
          simp only [Option.some.injEq, Prod.mk.injEq] at h
          obtain ⟨rfl, rfl⟩ := h
          obtain rfl : l = 0 := by omega
          subst hc0
          have hs := sealed_new (ty := e) (arr := if (0 : Int).toNat * P.cellsOf e = 0 then #[] else (Array.range ((0 : Int).toNat * P.cellsOf e)).map (zv.cells[· % zv.cells.size]!)) (es := []) (m := P.cellsOf e) hH (fun e he => by simp at he) (by simp; exact VC.nil)
          exact ⟨_, _, O, β, hrun, hs.1, hs.2.1, .zsl _, fun _ _ => rfl⟩
        · rename_i hc0
          simp only [Option.some.injEq, Prod.mk.injEq] at h
          obtain ⟨rfl, rfl⟩ := h
          have hz0 : ¬ c.toNat * P.cellsOf e = 0 := fun hh => by
            rcases Nat.mul_eq_zero.1 hh with hh | hh
            · omega
            · exact hne hh
          simp only [hz0, if_false] at hrun
          refine ⟨_, _, oNew w O, bNew β nx ⟨w.heap.size, 0, P.cellsOf e, c.toNat⟩, hrun, ST.new hnx _ _ rfl, HR.new hH hnx (even_replicate hzl) ?_ (by simp) (by simp) (fun _ => by simp), ?_, fun b hb => by simp [bNew, hb]⟩
          · rw [List.take_of_length_le (by simp)]
            exact hzs
          · have := VR.own (w := w.alloc (.cells ((Array.range (c.toNat * P.cellsOf e)).map (zv.cells[· % zv.cells.size]!)) e (0, 0))) (O := oNew w O) (β := bNew β nx ⟨w.heap.size, 0, P.cellsOf e, c.toNat⟩) nx (P.cellsOf e) 0 l.toNat ⟨w.heap.size, 0, P.cellsOf e, c.toNat⟩ (by simp [bNew]) rfl (by simp; omega)
            simpa using this
      · cases h
    · cases h
  · cases h

end
end Go.M3
