/- Operations that look at values alone, further. -/
import Derived.Test.YtgeocanldpolpaaDoorM3Val
set_option linter.unusedVariables false
namespace Go.M3

def isAggT (P : Program) (t : TypeId) : Option Bool :=
  match P.underlying t with
  | some (.struct _) => some true
  | some (.array _ _) => some true
  | some _ => some false
  | none => none

/-- The part of a struct or an array that begins at a cell. -/
def aPart (P : Program) (t : TypeId) (cs : List AV) (off : Nat) : Option AV :=
  match isAggT P t with
  | some true => if P.cellsOf t = 0 then none else some (.agg ((cs.drop off).take (P.cellsOf t)))
  | some false => cs[off]?
  | none => none

def aField (P : Program) (t : TypeId) (x : AV) (f : Nat) : Option AV :=
  match P.underlying t, x with
  | some (.struct fs), .agg cs =>
    match fs[f]? with
    | some fd => aPart P fd.type cs fd.offset
    | none => none
  | _, _ => none

def aIndex (P : Program) (t : TypeId) (x i : AV) : Option AV :=
  match P.underlying t, x, i with
  | some (.array n e), .agg cs, .int _ i => if 0 ≤ i ∧ i < n then (if P.cellsOf e = 0 then none else aPart P e cs (i.toNat * P.cellsOf e)) else none
  | some .string, .str s, .int _ i => if 0 ≤ i then (s.data[i.toNat]?).map fun b => .int .u8 b.toNat else none
  | _, _, _ => none

def aFieldAddr (P : Program) (t : TypeId) (x : AV) (f : Nat) : Option AV :=
  match P.underlying t with
  | some (.struct fs) =>
    match fs[f]? with
    | some fd =>
      if P.cellsOf fd.type = 0 then none else
      match x with
      | .ref b i j => some (.ref b i (j + fd.offset))
      | .rptr cs => some (.rptr (cs.drop fd.offset))
      | _ => none
    | none => none
  | _ => none

def aIndexAddr (P : Program) (t : TypeId) (x i : AV) : Option AV :=
  match i with
  | .int _ i =>
    match P.underlying t, x with
    | some (.array n e), .ref b bi j => if 0 ≤ i ∧ i < n ∧ P.cellsOf e ≠ 0 then some (.ref b bi (j + i.toNat * P.cellsOf e)) else none
    | some (.array n e), .rptr cs => if 0 ≤ i ∧ i < n ∧ P.cellsOf e ≠ 0 then some (.rptr (cs.drop (i.toNat * P.cellsOf e))) else none
    | some (.slice e), .lst es =>
      if 0 ≤ i then
        match es[i.toNat]? with
        | some c => if P.cellsOf e ≠ 0 ∧ c.length = P.cellsOf e then some (.rptr c) else none
        | none => none
      else none
    | some (.slice e), .own b m off len => if 0 ≤ i ∧ i < len ∧ P.cellsOf e ≠ 0 ∧ P.cellsOf e = m then some (.ref b (off + i.toNat) 0) else none
    | _, _ => none
  | _ => none

def bound (d : Nat) : Option AV → Option Nat
  | none => some d
  | some (.int _ i) => if 0 ≤ i then some i.toNat else none
  | some _ => none

/-- A slice expression without a third index. -/
def aSlice (P : Program) (t : TypeId) (x : AV) (lo hi : Option AV) : Option AV :=
  match P.underlying t, x with
  | some .string, .str s =>
    match bound 0 lo, bound s.size hi with
    | some l, some h => if l ≤ h ∧ h ≤ s.size then some (.str (s.extract l h)) else none
    | _, _ => none
  | some (.slice e), .lst es =>
    match bound 0 lo, bound es.length hi with
    | some l, some h => if l ≤ h ∧ h ≤ es.length ∧ P.cellsOf e ≠ 0 ∧ (∀ c ∈ es, c.length = P.cellsOf e) then some (.lst ((es.take h).drop l)) else none
    | _, _ => none
  | some (.slice e), .own b m off len =>
    match bound 0 lo, bound len hi with
    | some l, some h => if l ≤ h ∧ h ≤ len ∧ P.cellsOf e ≠ 0 ∧ P.cellsOf e = m then (if l < len then some (.own b m (off + l) (h - l)) else some (.lst [])) else none
    | _, _ => none
  | some (.slice e), .zsl =>
    match bound 0 lo, bound 0 hi with
    | some l, some h => if l = 0 ∧ h = 0 ∧ P.cellsOf e ≠ 0 then some .zsl else none
    | _, _ => none
  | _, _ => none

def aConv (P : Program) (s d : TypeId) (x : AV) : Option AV :=
  match P.underlying s, P.underlying d, x with
  | some _, some (.int k), .int _ n => some (.int k (k.wrap n))
  | some _, some .string, .str s => some (.str s)
  | _, _, _ => none

def aLen (P : Program) (t : TypeId) (x : AV) : Option AV :=
  match P.underlying t, x with
  | some .string, .str s => some (.int .i64 s.size)
  | some (.slice _), .lst es => some (.int .i64 es.length)
  | some (.slice _), .own _ _ _ len => some (.int .i64 len)
  | some (.slice _), .zsl => some (.int .i64 0)
  | some (.array n _), _ => some (.int .i64 n)
  | _, _ => none

def aMax : List AV → Option AV
  | [.int k a, .int k' b] => if k = k' then some (.int k (if b > a then b else a)) else none
  | [.int k a, .int k' b, .int k'' c] => if k = k' ∧ k = k'' then some (.int k (if c > (if b > a then b else a) then c else (if b > a then b else a))) else none
  | _ => none
def aMin : List AV → Option AV
  | [.int k a, .int k' b] => if k = k' then some (.int k (if b < a then b else a)) else none
  | [.int k a, .int k' b, .int k'' c] => if k = k' ∧ k = k'' then some (.int k (if c < (if b < a then b else a) then c else (if b < a then b else a))) else none
  | _ => none

section
variable {P : Program} {w : World} {O : Nat → Prop} {β : Map}

theorem run_isAgg {t : TypeId} {b : Bool} (h : isAggT P t = some b) (w' : World) : (isAgg t).run P w' = .ok b w' := by
  unfold isAggT at h
  split at h <;> first | (cases h; done) | (rename_i hu; obtain rfl := Option.some.inj h; simp [isAgg, run_und hu])
  all_goals (split <;> simp_all)

theorem run_part {t : TypeId} {cs : List AV} {off : Nat} {v : AV} {a : Array Value} (h : aPart P t cs off = some v) (hl : a.size = cs.length) (hs : ∀ i c, cs[i]? = some c → VR w O β c (a.getD i undef)) : Val P w O β (part t a off) v := by
  unfold aPart at h
  split at h
  · rename_i hi
    split at h
    · cases h
    · rename_i hz
      obtain rfl := Option.some.inj h
      refine ⟨.agg (a.extract off (off + P.cellsOf t)), fun w' => by simp [part, run_isAgg hi, run_size hz], .agg _ _ ?_ fun i c hc => ?_⟩
      · simp; omega
      · have hc' : cs[off + i]? = some c ∧ i < P.cellsOf t := by
          rw [List.getElem?_take] at hc
          split at hc
          · rename_i hlt; exact ⟨by simpa using hc, hlt⟩
          · cases hc
        have := hs _ _ hc'.1
        have hlt : off + i < a.size := by
          have := (List.getElem?_eq_some_iff.1 hc'.1).1
          omega
        simpa [Array.getElem?_extract, hc'.2, hlt, show off + i < min (off + P.cellsOf t) a.size by omega, show i < min (off + P.cellsOf t) a.size - off by omega] using this
  · rename_i hi
    have := hs _ _ h
    have hlt : off < a.size := by
      have := (List.getElem?_eq_some_iff.1 h).1
      omega
    refine ⟨a[off], fun w' => by simp [part, run_isAgg hi, hlt], by simpa [hlt] using this⟩
  · cases h

theorem aField_sound {t : TypeId} {x : AV} {f : Nat} {v : AV} {y : Value} (h : aField P t x f = some v) (hx : VR w O β x y) : Val P w O β (Instr.field t y f) v := by
  unfold aField at h
  split at h
  · rename_i fs cs hu
    split at h
    · rename_i fd hf
      cases hx with
      | agg _ a hl hs =>
        obtain ⟨z, hz, hv⟩ := run_part h hl hs
        refine ⟨z, fun w' => ?_, hv⟩
        simp [Instr.field, run_und hu, hf, asAgg, hz]
    · cases h
  · cases h

theorem run_bounds_none (n c h : Nat) (y : Value) : True := trivial

theorem aIndex_sound {t : TypeId} {x i : AV} {v : AV} {y j : Value} (h : aIndex P t x i = some v) (hx : VR w O β x y) (hi : VR w O β i j) : Val P w O β (Instr.index t y j) v := by
  unfold aIndex at h
  split at h
  · rename_i n e cs k i hu
    split at h
    · rename_i hb
      split at h
      · cases h
      · rename_i hz
        cases hi
        cases hx with
        | agg _ a hl hs =>
          obtain ⟨z, hz', hv⟩ := run_part h hl hs
          exact ⟨z, fun w' => by simp [Instr.index, asIntOf, run_und hu, hb, run_size hz, hz'], hv⟩
    · cases h
  · rename_i s k i hu
    split at h
    · rename_i hb
      cases hi
      cases hx
      cases hg : s.data[i.toNat]? with
      | none => simp [hg] at h
      | some b =>
        rw [hg] at h
        obtain rfl := Option.some.inj h
        have hg' : s[i.toNat]? = some b := by
          have hlt := (Array.getElem?_eq_some_iff.1 hg)
          obtain ⟨hlt, he⟩ := hlt
          have hs : i.toNat < s.size := hlt
          rw [getElem?_pos s i.toNat hs, ← he]; rfl
        exact ⟨.int .u8 b.toNat, fun w' => by simp [Instr.index, asIntOf, run_und hu, hb, hg'], .int _ _⟩
    · cases h
  · cases h

theorem aFieldAddr_sound {t : TypeId} {x : AV} {f : Nat} {v : AV} {y : Value} (h : aFieldAddr P t x f = some v) (hx : VR w O β x y) : Val P w O β (Instr.fieldAt t y f) v := by
  unfold aFieldAddr at h
  split at h
  · rename_i fs hu
    split at h
    · rename_i fd hf
      split at h
      · cases h
      · rename_i hz
        split at h
        · obtain rfl := Option.some.inj h
          cases hx with
          | ref _ i j L hb =>
            refine ⟨.pointer (some ⟨L.k, L.o + _ * L.m + (_ + fd.offset), none⟩), fun w' => ?_, .ref _ _ _ L hb⟩
            simp only [Instr.fieldAt, Sem.run_bind, run_und hu, Result.andThen_ok, hf, Instr.sureAddr, Sem.run_pure, fieldPlace, run_size hz, if_neg hz]
            unfold Addr.add
            split <;> simp_all [Nat.add_assoc]
        · obtain rfl := Option.some.inj h
          cases hx with
          | rptr cs k o g hO hk hc hs =>
            refine ⟨.pointer (some ⟨k, o + fd.offset, none⟩), fun w' => ?_, .rptr _ k (o + fd.offset) (fun j => g (fd.offset + j)) hO hk (fun j c hj => ?_) (fun j c hj => ?_)⟩
            · simp only [Instr.fieldAt, Sem.run_bind, run_und hu, Result.andThen_ok, hf, Instr.sureAddr, Sem.run_pure, fieldPlace, run_size hz, if_neg hz]
              unfold Addr.add
              split <;> simp_all [Nat.add_assoc]
            · rw [List.getElem?_drop] at hj
              have := hc _ _ hj
              rw [Nat.add_assoc]; exact this
            · rw [List.getElem?_drop] at hj
              exact hs _ _ hj
        · cases h
    · cases h
  · cases h

theorem Addr.add_eq (k o n : Nat) : (⟨k, o, none⟩ : Addr).add n = ⟨k, o + n, none⟩ := by unfold Addr.add; split <;> simp_all

theorem aIndexAddr_sound {t : TypeId} {x i : AV} {v : AV} {y j : Value} (h : aIndexAddr P t x i = some v) (hx : VR w O β x y) (hi : VR w O β i j) : Val P w O β (Instr.indexAt t y j) v := by
  unfold aIndexAddr at h
  split at h
  · rename_i k i
    cases hi
    split at h
    · rename_i n e b bi c hu
      split at h
      · rename_i hb
        obtain rfl := Option.some.inj h
        cases hx with
        | ref _ _ _ L hβ =>
          refine ⟨.pointer (some ⟨L.k, L.o + bi * L.m + (c + i.toNat * P.cellsOf e), none⟩), fun w' => ?_, .ref _ _ _ L hβ⟩
          simp [Instr.indexAt, asIntOf, run_und hu, Instr.sureAddr, hb.1, hb.2.1, run_size hb.2.2, Addr.add_eq, Nat.add_assoc]
      · cases h
    · rename_i n e cs hu
      split at h
      · rename_i hb
        obtain rfl := Option.some.inj h
        cases hx with
        | rptr cs k o g hO hk hc hs =>
          refine ⟨.pointer (some ⟨k, o + i.toNat * P.cellsOf e, none⟩), fun w' => ?_, .rptr _ k _ (fun j => g (i.toNat * P.cellsOf e + j)) hO hk (fun j c hj => ?_) (fun j c hj => ?_)⟩
          · simp [Instr.indexAt, asIntOf, run_und hu, Instr.sureAddr, hb.1, hb.2.1, run_size hb.2.2, Addr.add_eq]
          · rw [List.getElem?_drop] at hj
            have := hc _ _ hj
            rw [Nat.add_assoc]; exact this
          · rw [List.getElem?_drop] at hj
            exact hs _ _ hj
      · cases h
    · rename_i e es hu
      split at h
      · rename_i h0
        split at h
        · rename_i c hc
          split at h
          · rename_i hz
            obtain rfl := Option.some.inj h
            have hlt : i.toNat < es.length := (List.getElem?_eq_some_iff.1 hc).1
            cases hx with
            | lst _ k o cap m g hcap hO hk hm hcc hs =>
              have hcm : P.cellsOf e = m := by rw [← hz.2]; exact hm c (List.mem_of_getElem? hc)
              refine ⟨.pointer (some ⟨k, o + i.toNat * m, none⟩), fun w' => ?_, .rptr _ k _ (fun j => g i.toNat j) hO hk (fun j d hj => ?_) (fun j d hj => ?_)⟩
              · have hlt' : i < (es.length : Int) := by omega
                simp [Instr.indexAt, asIntOf, run_und hu, h0, hlt', run_size hz.1, Addr.add_eq, hcm]
              · exact hcc i.toNat j d (by simp [cellAt?, hc, hj])
              · exact hs i.toNat j d (by simp [cellAt?, hc, hj])
            | lst0 a cap => simp at hlt
          · cases h
        · cases h
      · cases h
    · rename_i e b m off len hu
      split at h
      · rename_i hb
        obtain ⟨h0, hl, hz, hm⟩ := hb
        obtain rfl := Option.some.inj h
        cases hx with
        | own _ _ _ _ L hβ hLm hcp =>
          refine ⟨.pointer (some ⟨L.k, L.o + (off + i.toNat) * L.m + 0, none⟩), fun w' => ?_, .ref _ _ _ L hβ⟩
          simp [Instr.indexAt, asIntOf, run_und hu, h0, hl, run_size hz, Addr.add_eq, hm, hLm, Nat.add_mul, Nat.add_assoc]
      · cases h
    · cases h
  · cases h
end
end Go.M3
