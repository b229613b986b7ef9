/- Bytes read as a string. -/
import Derived.Test.YtgeocanldpolpaaDoorM3App
import Derived.Laws.BytesArg
set_option linter.unusedVariables false
namespace Go.M3

def byteNums : List (List AV) → Option (List Int)
  | [] => some []
  | [.int .u8 n] :: es => (byteNums es).map (n :: ·)
  | _ => none

def aBytes (P : Program) (H : AH) (s d : TypeId) (x : AV) : Option AV :=
  match P.underlying s, P.underlying d with
  | some (.slice e), some .string => match P.underlying e with
    | some (.int .u8) => match x with
      | .zsl => some (.str ⟨#[]⟩)
      | .lst es => (byteNums es).map fun ns => .str (strOfNums ns)
      | .own b m off len => match H.blk b with
        | some B => if m = 1 ∧ off + len ≤ B.es.length then (byteNums ((B.es.drop off).take len)).map fun ns => .str (strOfNums ns) else none
        | none => none
      | _ => none
    | _ => none
  | _, _ => none

theorem byteNums_spec : ∀ {es : List (List AV)} {ns : List Int}, byteNums es = some ns → ns.length = es.length ∧ ∀ i, i < es.length → es[i]? = some [.int .u8 (ns.getD i 0)]
  | [], ns, h => by simp [byteNums] at h; subst h; exact ⟨rfl, fun i hi => by simp at hi⟩
  | e :: es, ns, h => by
    unfold byteNums at h
    split at h
    · rename_i heq; cases heq
    · rename_i n es' heq
      obtain ⟨rfl, rfl⟩ := List.cons.inj heq
      cases hb : byteNums es with
      | none => simp [hb] at h
      | some r =>
        simp only [hb, Option.map_some, Option.some.injEq] at h
        subst h
        obtain ⟨h1, h2⟩ := byteNums_spec hb
        refine ⟨by simp [h1], fun i hi => ?_⟩
        cases i with
        | zero => simp
        | succ i =>
          have := h2 i (by simpa using hi)
          simpa using this
    · cases h

section
variable {P : Program} {w : World} {O : Nat → Prop} {β : Map} {H : AH}

theorem VR.int_inv {k : IntKind} {n : Int} {x : Value} (h : VR w O β (.int k n) x) : x = .int k n := by cases h; rfl

theorem aBytes_sound {s d : TypeId} {x v : AV} {y : Value} (h : aBytes P H s d x = some v) (hH : HR w O β H) (hx : VR w O β x y) : ∃ z, (convert s d y).run P w = .ok z w ∧ VR w O β v z := by
  unfold aBytes at h
  split at h
  · rename_i e hs hd
    split at h
    · rename_i he
      split at h
      · obtain rfl := Option.some.inj h
        cases hx with
        | zsl a =>
          cases a with
          | none => exact ⟨_, run_convert_bytes_nil w s e hs he 0 0 d hd, .str _⟩
          | some a =>
            refine ⟨.string ⟨#[]⟩, ?_, .str _⟩
            rw [run_convert_bytes_string w s d e _ 0 0 hs he hd]
            rw [run_bytesToString w a 0 0 [] (by simp [loadCells, loadCellsFrom])]
            rfl
      · rename_i es
        cases hb : byteNums es with
        | none => simp [hb] at h
        | some ns =>
          simp only [hb, Option.map_some, Option.some.injEq] at h
          subst h
          obtain ⟨h1, h2⟩ := byteNums_spec hb
          cases hx with
          | lst _ k o cap m g hcap hO hk hm hc hv =>
            have hm1 : ∀ i, i < es.length → m = 1 := fun i hi => by
              have := hm _ (List.mem_of_getElem? (h2 i hi))
              simpa using this.symm
            refine ⟨_, run_convert_bytes_arg w s e hs he k o es.length cap ns h1 (fun i hi => ?_) d hd, .str _⟩
            have hcell : cellAt? es i 0 = some (.int .u8 (ns.getD i 0)) := by simp [cellAt?, h2 i hi]
            have := hc i 0 _ hcell
            rw [hm1 i hi] at this
            rw [show o + i * 1 + 0 = o + i by omega] at this
            rw [this, (hv i 0 _ hcell).int_inv]
          | lst0 a cap =>
            simp [byteNums] at hb
            subst hb
            cases a with
            | none =>
              refine ⟨_, run_convert_bytes_nil w s e hs he 0 cap d hd, ?_⟩
              exact .str _
            | some a =>
              refine ⟨.string ⟨#[]⟩, ?_, .str _⟩
              rw [run_convert_bytes_string w s d e _ 0 cap hs he hd]
              rw [run_bytesToString w a 0 cap [] (by simp [loadCells, loadCellsFrom])]
              rfl
      · rename_i b m off len
        split at h
        · rename_i B hB
          split at h
          · rename_i hc
            cases hb : byteNums ((B.es.drop off).take len) with
            | none => simp [hb] at h
            | some ns =>
              simp only [hb, Option.map_some, Option.some.injEq] at h
              subst h
              obtain ⟨h1, h2⟩ := byteNums_spec hb
              have hlen : ((B.es.drop off).take len).length = len := by simp; omega
              cases hx with
              | own _ _ _ _ L hL hm hcp =>
                refine ⟨_, run_convert_bytes_arg w s e hs he L.k (L.o + off * m) len _ ns (by rw [h1, hlen]) (fun i hi => ?_) d hd, .str _⟩
                have h3 := h2 i (by rw [hlen]; exact hi)
                have he' : B.es[off + i]? = some [.int .u8 (ns.getD i 0)] := by
                  rw [List.getElem?_take, if_pos hi, List.getElem?_drop] at h3
                  exact h3
                obtain ⟨x, hx, hv⟩ := hH.at hB he' hL 0 _ rfl
                rw [hv.int_inv] at hx
                rw [← hx, hm, hc.1]
                congr 2
                omega
          · cases h
        · cases h
      · cases h
    · cases h
  · cases h
end
end Go.M3
