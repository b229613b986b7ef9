/- From what a row gives of its arguments to the walk's values, and back from the walk to the row. -/
import Derived.Test.YtgeocanldpolpaaDoorM3Lib
import Derived.ProofKit
import Derived.Carry
set_option linter.unusedVariables false
set_option linter.unusedSectionVars false
namespace Go.M3
open Go

/-- Cells of a type without pointers. -/
def typedF (ty : TypeId → List AV → Prop) : List Field → List AV → Prop
  | [], cs => cs = []
  | f :: fs, cs => ∃ p q, cs = p ++ q ∧ ty f.type p ∧ typedF ty fs q

def typed (P : Program) : Nat → TypeId → List AV → Prop
  | 0, _, _ => False
  | n + 1, t, cs => match P.underlying t with
    | some .bool => ∃ b, cs = [.bool b]
    | some (.int k) => ∃ m, cs = [.int k m] ∧ (Lit.int k m).wf = true
    | some .string => ∃ s, cs = [.str s] ∧ s.size ≤ maxLen
    | some (.slice e) => ∃ es, cs = [.lst es] ∧ es.length ≤ maxLen ∧ ∀ x ∈ es, typed P n e x
    | some (.struct fs) => typedF (typed P n) fs.toList cs
    | _ => False

def contig (P : Program) : List Field → Nat → Nat → Bool
  | [], o, tot => o == tot
  | f :: fs, o, tot => f.offset == o && contig P fs (o + P.cellsOf f.type) tot

def plainT (P : Program) : Nat → TypeId → Bool
  | 0, _ => false
  | n + 1, t => match P.underlying t with
    | some .bool => true
    | some (.int _) => true
    | some .string => true
    | some (.slice e) => P.cellsOf e != 0 && plainT P n e
    | some (.struct fs) => contig P fs.toList 0 (P.cellsOf t) && fs.toList.all fun f => plainT P n f.type
    | _ => false

section
variable {H : Type} {enc : TypeId × Value → H} {P : Program} {W : World} {spare : Nat → Bool} {held : Bool}

theorem VC.single {w : World} {O : Nat → Prop} {β : Map} {c : AV} {x : Value} (h : VR w O β c x) : VC w O β [c] [x] := ⟨rfl, fun i c' hc => by
  cases i with
  | zero => simp at hc; subst hc; exact ⟨x, rfl, h⟩
  | succ i => simp at hc⟩

theorem mapM_range_get {α : Type} {f : Nat → Option α} {n : Nat} {l : List α} (h : (List.range n).mapM f = some l) : l.length = n ∧ ∀ i, i < n → f i = l[i]? := by
  have h1 := Lib.mapM_at h
  have hlen : l.length = n := by
    have : ∀ (a : List Nat) (r : List α), a.mapM f = some r → r.length = a.length := by
      intro a
      induction a with
      | nil => intro r hr; simp at hr; subst hr; rfl
      | cons x a ih =>
        intro r hr
        simp only [List.mapM_cons, Option.bind_eq_bind, Option.bind_eq_some_iff, Option.pure_def, Option.some.injEq] at hr
        obtain ⟨b, hb, r', hr', rfl⟩ := hr
        simp [ih r' hr']
    simpa using this _ _ h
  refine ⟨hlen, fun i hi => ?_⟩
  obtain ⟨b, hb, hf⟩ := h1 i i (by simp [hi])
  rw [hf, hb]

theorem cells_get {a : Addr} {n : Nat} {cs : List Value} (h : W.cells? 0 a n = some cs) : cs.length = n ∧ ∀ j, j < n → W.cell? (a.add j) = cs[j]? := by
  unfold World.cells? at h
  rw [if_pos (Nat.zero_le _)] at h
  exact mapM_range_get h

theorem cell_plain {a : Addr} {x : Value} (h : W.cell? a = some x) : a.spot = none ∧ a.block < W.heap.size := by
  unfold World.cell? at h
  split at h
  · rename_i c t s hb
    refine ⟨?_, ?_⟩
    · cases hs : a.spot with
      | none => rfl
      | some v => simp [hs] at h
    · rcases Nat.lt_or_ge a.block W.heap.size with hlt | hge
      · exact hlt
      · rw [Array.getElem?_eq_none hge] at hb; cases hb
  · cases h

theorem add_plain {a : Addr} (h : a.spot = none) (n : Nat) : a.add n = ⟨a.block, a.off + n, none⟩ := by
  obtain ⟨b, o, s⟩ := a
  simp only at h
  subst h
  unfold Addr.add
  split <;> simp_all

theorem trod_fields {n : Nat} (ih : ∀ t, plainT P n t = true → ∀ fuel vs x, DataW.trod enc P W 0 spare held fuel t vs = some x → ∃ cs, typed P n t cs ∧ VC W noOwn noMap cs vs ∧ cs.length = vs.length) :
    ∀ (fs : List Field) (o : Nat) (vs : List Value) (fuel : Nat), contig P fs o vs.length = true → (fs.all fun f => plainT P n f.type) = true →
      (∀ f ∈ fs, ∃ x, DataW.trod enc P W 0 spare held fuel f.type ((vs.drop f.offset).take (P.cellsOf f.type)) = some x) → o ≤ vs.length → (∀ f ∈ fs, f.offset + P.cellsOf f.type ≤ vs.length) →
      ∃ cs, typedF (typed P n) fs cs ∧ VC W noOwn noMap cs (vs.drop o) ∧ cs.length = (vs.drop o).length
  | [], o, vs, fuel, hc, hp, hf, ho, hle => by
    have : o = vs.length := by simpa [contig] using hc
    subst this
    exact ⟨[], rfl, by simpa using VC.nil, by simp⟩
  | f :: fs, o, vs, fuel, hc, hp, hf, ho, hle => by
    simp only [contig, Bool.and_eq_true, beq_iff_eq] at hc
    simp only [List.all_cons, Bool.and_eq_true] at hp
    obtain ⟨x, hx⟩ := hf f (by simp)
    obtain ⟨p, h1, h2, h3⟩ := ih f.type hp.1 fuel _ x hx
    have hoff := hle f (by simp)
    obtain ⟨q, g1, g2, g3⟩ := trod_fields ih fs (o + P.cellsOf f.type) vs fuel hc.2 hp.2 (fun f' hf' => hf f' (by simp [hf'])) (by rw [← hc.1]; exact hoff) (fun f' hf' => hle f' (by simp [hf']))
    have e : vs.drop o = (vs.drop f.offset).take (P.cellsOf f.type) ++ vs.drop (o + P.cellsOf f.type) := by
      rw [hc.1, ← List.drop_drop, List.take_append_drop]
    refine ⟨p ++ q, ⟨p, q, rfl, h1, g1⟩, ?_, ?_⟩
    · rw [e]; exact h2.append g2
    · rw [e]; simp only [List.length_append, h3, g3]

theorem contig_le : ∀ (fs : List Field) (o tot : Nat), contig P fs o tot = true → o ≤ tot ∧ ∀ f ∈ fs, f.offset + P.cellsOf f.type ≤ tot
  | [], o, tot, h => by simp [contig] at h; subst h; exact ⟨Nat.le_refl _, fun f hf => by simp at hf⟩
  | f :: fs, o, tot, h => by
    simp only [contig, Bool.and_eq_true, beq_iff_eq] at h
    obtain ⟨h1, h2⟩ := contig_le fs _ tot h.2
    refine ⟨by omega, fun f' hf' => ?_⟩
    rcases List.mem_cons.1 hf' with rfl | hf'
    · omega
    · exact h2 f' hf'

theorem list_choose {α : Type} {p : Nat → α → Prop} : ∀ (n : Nat), (∀ i, i < n → ∃ a, p i a) → ∃ l : List α, l.length = n ∧ ∀ i a, l[i]? = some a → p i a
  | 0, h => ⟨[], rfl, fun i a ha => by simp at ha⟩
  | n + 1, h => by
    obtain ⟨l, hl, hp⟩ := list_choose n (fun i hi => h i (by omega))
    obtain ⟨a, ha⟩ := h n (by omega)
    refine ⟨l ++ [a], by simp [hl], fun i b hb => ?_⟩
    by_cases hi : i < n
    · rw [List.getElem?_append_left (by omega)] at hb; exact hp i b hb
    · rw [List.getElem?_append_right (by omega)] at hb
      have : i = n := by
        have := (List.getElem?_eq_some_iff.1 hb).1
        simp at this; omega
      subst this
      simp [hl] at hb
      subst hb
      exact ha

theorem trod_walk : ∀ (n : Nat) (t : TypeId), plainT P n t = true → ∀ fuel vs x, DataW.trod enc P W 0 spare held fuel t vs = some x → ∃ cs, typed P n t cs ∧ VC W noOwn noMap cs vs ∧ cs.length = vs.length
  | 0, t, hp, _, _, _, _ => by simp [plainT] at hp
  | n + 1, t, hp, fuel, vs, x, h => by
    unfold plainT at hp
    unfold typed
    split at hp
    · rename_i hu
      obtain ⟨b, rfl, _⟩ := DataW.trod_bool hu h
      exact ⟨_, ⟨b, rfl⟩, VC.single (.bool b), rfl⟩
    · rename_i k hu
      obtain ⟨m, rfl, _, hw⟩ := DataW.trod_int hu h
      exact ⟨_, ⟨m, rfl, hw⟩, VC.single (.int k m), rfl⟩
    · rename_i hu
      obtain ⟨s, rfl, _, hs⟩ := DataW.trod_string hu h
      exact ⟨_, ⟨s, rfl, hs⟩, VC.single (.str s), rfl⟩
    · rename_i e hu
      simp only [Bool.and_eq_true, bne_iff_ne, ne_eq] at hp
      rcases DataW.trod_slice hu h with ⟨rfl, _⟩ | ⟨a, len, cap, elems, rest, n', _, rfl, _, _, hl, hm, hlen, hel, _, _⟩
      · exact ⟨_, ⟨[], rfl, by simp, fun x hx => by simp at hx⟩, VC.single (.lst0 none 0), rfl⟩
      · by_cases h0 : len = 0
        · subst h0
          exact ⟨_, ⟨[], rfl, by simp, fun x hx => by simp at hx⟩, VC.single (.lst0 (some a) cap), rfl⟩
        · have each : ∀ i, i < len → ∃ cv : List AV × List Value, typed P n e cv.1 ∧ VC W noOwn noMap cv.1 cv.2 ∧ cv.1.length = cv.2.length ∧ cv.2.length = P.cellsOf e ∧ ∀ j, j < P.cellsOf e → W.cell? ((a.add (i * P.cellsOf e)).add j) = cv.2[j]? := by
            intro i hi
            have hb := hel i hi
            have : ∃ y, elems[i]? = some y := ⟨elems[i]'(by omega), by simp [show i < elems.length by omega]⟩
            obtain ⟨y, hy⟩ := this
            rw [hy, Option.bind_eq_some_iff] at hb
            obtain ⟨cs', hcs, ht⟩ := hb
            obtain ⟨h1, h2⟩ := cells_get hcs
            obtain ⟨cs, g1, g2, g3⟩ := trod_walk n e hp.2 n' cs' y ht
            exact ⟨(cs, cs'), g1, g2, g3, h1, h2⟩
          obtain ⟨l, hll, hl2⟩ := list_choose len each
          have hsp : a.spot = none ∧ a.block < W.heap.size := by
            obtain ⟨y, hy⟩ : ∃ y, l[0]? = some y := ⟨l[0]'(by omega), by simp [show 0 < l.length by omega]⟩
            obtain ⟨_, _, _, h4, h5⟩ := hl2 0 y hy
            have := h5 0 (by omega)
            obtain ⟨z, hz⟩ : ∃ z, y.2[0]? = some z := ⟨y.2[0]'(by omega), by simp [show 0 < y.2.length by omega]⟩
            rw [hz] at this
            have e0 : (a.add (0 * P.cellsOf e)).add 0 = a := by simp [Addr.add]
            rw [e0] at this
            exact cell_plain this
          refine ⟨[.lst (l.map (·.1))], ⟨l.map (·.1), rfl, by simp [hll]; omega, fun x hx => ?_⟩, VC.single ?_, rfl⟩
          · obtain ⟨y, hy, rfl⟩ := List.mem_map.1 hx
            obtain ⟨i, hi⟩ := List.mem_iff_getElem?.1 hy
            exact (hl2 i y hi).1
          · have hab : a = ⟨a.block, a.off, none⟩ := by rw [← hsp.1]
            have hcell : ∀ i j c, cellAt? (l.map (·.1)) i j = some c → ∃ y z, l[i]? = some y ∧ y.2[j]? = some z ∧ VR W noOwn noMap c z ∧ W.cell? ⟨a.block, a.off + i * P.cellsOf e + j, none⟩ = some z := by
              intro i j c hc
              unfold cellAt? at hc
              rw [Option.bind_eq_some_iff] at hc
              obtain ⟨ci, h1, h2⟩ := hc
              rw [List.getElem?_map, Option.map_eq_some_iff] at h1
              obtain ⟨y, hy, rfl⟩ := h1
              obtain ⟨g1, g2, g3, g4, g5⟩ := hl2 i y hy
              obtain ⟨z, hz, hv⟩ := g2.2 j c h2
              have hj : j < P.cellsOf e := by
                have := (List.getElem?_eq_some_iff.1 hz).1
                omega
              have := g5 j hj
              rw [hz, add_plain hsp.1, add_plain rfl] at this
              exact ⟨y, z, hy, hz, hv, this⟩
            rw [hab, show len = (l.map (·.1)).length by simp [hll]]
            refine .lst (l.map (·.1)) a.block a.off cap (P.cellsOf e) (fun i j => ((l[i]?).bind fun y => y.2[j]?).getD undef) (by simp [hll]; exact hl) (show ¬ noOwn a.block from fun h => h) hsp.2 (fun x hx => ?_) (fun i j c hc => ?_) (fun i j c hc => ?_)
            · obtain ⟨y, hy, rfl⟩ := List.mem_map.1 hx
              obtain ⟨i, hi⟩ := List.mem_iff_getElem?.1 hy
              obtain ⟨_, _, g3, g4, _⟩ := hl2 i y hi
              rw [g3, g4]
            · obtain ⟨y, z, hy, hz, hv, hw⟩ := hcell i j c hc
              simp only [hy, Option.bind_some, hz, Option.getD_some]
              exact hw
            · obtain ⟨y, z, hy, hz, hv, hw⟩ := hcell i j c hc
              simp only [hy, Option.bind_some, hz, Option.getD_some]
              exact hv
    · rename_i fs hu
      simp only [Bool.and_eq_true] at hp
      obtain ⟨xs, n', _, _, hlen, hxl, hf⟩ := DataW.trod_struct hu h
      rw [← hlen] at hp
      obtain ⟨hle1, hle2⟩ := contig_le _ _ _ hp.1
      obtain ⟨cs, g1, g2, g3⟩ := trod_fields (trod_walk n) fs.toList 0 vs n' hp.1 hp.2 (fun f hf' => by
        obtain ⟨i, hi⟩ := List.mem_iff_getElem?.1 hf'
        have hi' : fs[i]? = some f := by simpa using hi
        have hlt : i < fs.size := arr_lt hi'
        have := hf i f hi'
        exact ⟨xs[i]'(by omega), by rw [this]; simp [show i < xs.length by omega]⟩) (Nat.zero_le _) hle2
      exact ⟨cs, g1, by simpa using g2, by simpa using g3⟩
    · cases hp

/-- A struct that comes in, whole. -/
theorem Trod_struct {n : Nat} {t : TypeId} {v : Value} {d : DataW H} {ps : List MemPlace} {r : Reach} {base : Nat} {fs : Array Field} (hu : P.underlying t = some (.struct fs)) (hp : plainT P n t = true) (hok : Value.okWide P W r base t v) (h : DataW.Trod enc P W 0 spare held t v d ps) :
    ∃ cs, typed P n t cs ∧ VR W noOwn noMap (.agg cs) v := by
  obtain ⟨fuel, h⟩ := h
  obtain ⟨cs, h1, h2, h3⟩ := trod_walk n t hp fuel _ _ h
  obtain ⟨a, rfl, ha⟩ := WideShapes.okWide_struct hu hok
  have h2' : VC W noOwn noMap cs a.toList := h2
  have := VC.to_array (a := a) h2'
  exact ⟨cs, h1, .agg cs a this.1 this.2⟩
end

/-- A list of cells of one form. -/
theorem typed_map {α : Type} {g : α → List AV} {p : α → Prop} : ∀ {es : List (List AV)}, (∀ x ∈ es, ∃ a, x = g a ∧ p a) → ∃ l : List α, es = l.map g ∧ ∀ a ∈ l, p a
  | [], h => ⟨[], rfl, fun a ha => by simp at ha⟩
  | x :: es, h => by
    obtain ⟨a, rfl, ha⟩ := h x (by simp)
    obtain ⟨l, rfl, hl⟩ := typed_map (es := es) (fun y hy => h y (by simp [hy]))
    exact ⟨a :: l, rfl, fun b hb => by
      rcases List.mem_cons.1 hb with rfl | hb
      · exact ha
      · exact hl b hb⟩

section
variable [Tabs] {P : Program} {W : World}

/-- What a law that writes nothing gives the row. -/
theorem VCall.calls {f : FuncId} {args : List AV} {d : AV} {vs : Array Value} (h : VCall P f args d) (he : Enters P f) (hk : Known P W noOwn) (hv : VRs W noOwn noMap args vs) :
    Calls P f vs W fun e W' => ∃ v, e = .returned v ∧ RowKit.Below W.heap.size W W' ∧ VR W' noOwn noMap d v := by
  rcases h W noOwn vs hk (fun k hk => hk.elim) hv with ⟨_, hc⟩ | ⟨x, w', hx, _⟩
  · refine hc.mono fun e W' ho => ?_
    obtain ⟨v, rfl, hst, hv⟩ := ho
    exact ⟨v, rfl, ⟨hst.os, hst.tape, hst.output, hst.size, fun k hk => hst.keep k hk (fun h => h)⟩, hv⟩
  · obtain ⟨fn, c, hfn, hb, hn⟩ := he
    have hcf : (callFunc f vs).run P W = .ok (.enter f vs) W := by
      simp [callFunc, hfn, hb, show ¬ fn.name = "runtime.NumGoroutine" by simpa using hn]
    rw [hcf] at hx
    cases hx
end
end Go.M3
