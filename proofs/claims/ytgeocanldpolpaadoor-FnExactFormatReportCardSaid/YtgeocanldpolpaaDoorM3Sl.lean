/- Slices that are made, appended to, copied. -/
import Derived.Test.YtgeocanldpolpaaDoorM3Mem
set_option linter.unusedVariables false
namespace Go.M3

def allOne (es : List (List AV)) : Bool := es.all fun e => e.all AV.one

/-- The elements of a slice (or of a string's bytes). -/
def srcEls (H : AH) (x : AV) (m : Nat) : Option (List (List AV)) :=
  match x with
  | .lst es => if ∀ e ∈ es, e.length = m then some es else none
  | .zsl => some []
  | .own b m' off len => match H.blk b with
    | some B => if m' = m ∧ off + len ≤ B.es.length then some ((B.es.drop off).take len) else none
    | none => none
  | .str s => if m = 1 then some (s.data.toList.map fun c => [.int .u8 c.toNat]) else none
  | _ => none

def aFillE (m : Nat) (es : List (List AV)) : List (Nat × AV) → Option (List (List AV))
  | [] => some es
  | (i, v) :: rest => if i < es.length ∧ v.cells.length = m ∧ v.solid = true then aFillE m (es.set i v.cells) rest else none

/-- A slice literal; 'sealed': nobody writes it. -/
def aBuildSlice (P : Program) (H : AH) (nx : Nat) (sealed : Bool) (t : TypeId) (len : Nat) (parts : List (Nat × AV)) : Option (AV × AH) :=
  match P.underlying t with
  | some (.slice e) =>
    match zeroCellsOf P e with
    | some z =>
      if P.cellsOf e ≠ 0 ∧ z.length = P.cellsOf e ∧ len * P.cellsOf e ≤ 16777216 then
        match aFillE (P.cellsOf e) (List.replicate len z) parts with
        | some es => if len = 0 then some (.zsl, H) else if sealed then some (.lst es, H) else some (.own nx (P.cellsOf e) 0 len, H.new nx ⟨true, es⟩)
        | none => none
      else none
    | none => none
  | _ => none

def aMakeSlice (P : Program) (H : AH) (nx : Nat) (t : TypeId) (l c : AV) : Option (AV × AH) :=
  match P.underlying t, l, c with
  | some (.slice e), .int .i64 l, .int .i64 c =>
    match zeroCellsOf P e with
    | some z =>
      if P.cellsOf e ≠ 0 ∧ z.length = P.cellsOf e ∧ 0 ≤ l ∧ l ≤ c ∧ c ≤ 1099511627776 ∧ P.bytesOf e * c ≤ 281474976710656 then
        if c = 0 then some (.zsl, H) else some (.own nx (P.cellsOf e) 0 l.toNat, H.new nx ⟨true, List.replicate c.toNat z⟩)
      else none
    | none => none
  | _, _, _ => none

def notInt (P : Program) (t : TypeId) : Bool :=
  match P.underlying t with
  | some (.slice _) => true
  | some .string => true
  | _ => false

def aAppend (P : Program) (H : AH) (nx : Nat) (t t2 : TypeId) (s x : AV) : Option (AV × AH) :=
  match P.underlying t with
  | some (.slice e) =>
    match srcEls H x (P.cellsOf e), zeroCellsOf P e with
    | some src, some z =>
      if P.cellsOf e ≠ 0 ∧ z.length = P.cellsOf e ∧ allOne src = true ∧ notInt P t2 = true then
        match s with
        | .zsl => if src.length ≤ 1099511627776 ∧ src.length * P.bytesOf e ≤ 140737488355328 then (if src.length = 0 then some (.zsl, H) else some (.own nx (P.cellsOf e) 0 src.length, H.new nx ⟨false, src⟩)) else none
        | .own b m off len => match H.blk b with
          | some B => if m = P.cellsOf e ∧ off + len ≤ B.es.length ∧ len + src.length ≤ 1099511627776 ∧ (len + src.length) * P.bytesOf e ≤ 140737488355328 then
              some (.own nx m 0 (len + src.length), (H.kill b).new nx ⟨false, (B.es.drop off).take len ++ src⟩) else none
          | none => none
        | _ => none
      else none
    | _, _ => none
  | _ => none

section
variable {P : Program} {w : World} {O : Nat → Prop} {β : Map} {H : AH}

theorem info_of_cells {e : TypeId} (h : P.cellsOf e ≠ 0) : ∃ i, P.info? e = some i ∧ i.size = P.cellsOf e ∧ i.bytes = P.bytesOf e := by
  unfold Program.cellsOf Program.bytesOf at *
  cases hx : P.info? e with
  | none => simp [hx] at h
  | some i => exact ⟨i, rfl, rfl, rfl⟩

theorem flatten_one {es : List (List AV)} (h : allOne es = true) : ∀ c ∈ es.flatten, c.one = true := by
  intro c hc
  obtain ⟨e, he, hce⟩ := List.mem_flatten.1 hc
  have := List.all_eq_true.1 h e he
  exact List.all_eq_true.1 this c hce

theorem VC.one {cs : List AV} {a : List Value} (h : VC w O β cs a) (ho : ∀ c ∈ cs, c.one = true) : ∀ u ∈ a, u.oneCell' = true := by
  intro u hu
  obtain ⟨i, hi, rfl⟩ := List.getElem_of_mem hu
  have hi' : i < cs.length := by rw [← h.1]; exact hi
  obtain ⟨x, hx, hv⟩ := h.2 i cs[i] (by simp [hi'])
  have : a[i] = x := by simpa [hi] using hx
  rw [this]
  exact (one_of hv (ho _ (List.getElem_mem hi'))).1

/-- The cells of a slice's elements, read. -/
theorem srcEls_sound {x : AV} {m : Nat} {es : List (List AV)} {y : Value} (h : srcEls H x m = some es) (hm0 : m ≠ 0) (hH : HR w O β H) (hx : VR w O β x y) (hstr : ∀ s, x ≠ .str s) :
    Even m es ∧ ∃ a cap, y = .slice a es.length cap ∧ ∃ vs, VC w O β es.flatten vs ∧ (∀ w', w'.heap = w.heap → (Builtin.firstCells m es.length y).run P w' = .ok vs.toArray w') := by
  have gen : ∀ (es : List (List AV)) (k o cap : Nat), Even m es → At w O β es.flatten k o → y = .slice (some ⟨k, o, none⟩) es.length cap →
      Even m es ∧ ∃ a cap, y = .slice a es.length cap ∧ ∃ vs, VC w O β es.flatten vs ∧ (∀ w', w'.heap = w.heap → (Builtin.firstCells m es.length y).run P w' = .ok vs.toArray w') := by
    intro es k o cap hE hat hy
    obtain ⟨vs, hvs, hcell⟩ := cells_list hat
    refine ⟨hE, _, cap, hy, vs, hvs, fun w' hw' => ?_⟩
    rw [hy]
    have hl : vs.length = es.length * m := by rw [hvs.1, hE.length_flatten]
    exact run_firstCells_some (P := P) w' m es.length ⟨k, o, none⟩ es.length cap vs hl (fun j v hj => by rw [Addr.add_eq]; rw [← hcell j v hj]; simp [World.cell?, hw'])
  have atflat : ∀ (es : List (List AV)) (k o : Nat), Even m es → (∀ i j c, cellAt? es i j = some c → ∃ x, w.cell? ⟨k, o + i * m + j, none⟩ = some x ∧ VR w O β c x) → At w O β es.flatten k o := by
    intro es k o hE hc n c hn
    have hlt : n < es.length * m := by rw [← hE.length_flatten]; exact (List.getElem?_eq_some_iff.1 hn).1
    have hi : n / m < es.length := (Nat.div_lt_iff_lt_mul (by omega)).2 hlt
    have hjm : n % m < m := Nat.mod_lt _ (by omega)
    have hex : ∃ c', cellAt? es (n / m) (n % m) = some c' := by
      have hl : n % m < (es[n / m]'hi).length := by rw [hE _ (List.getElem_mem hi)]; exact hjm
      exact ⟨(es[n / m]'hi)[n % m]'hl, by simp [cellAt?, hi, hl]⟩
    obtain ⟨c', hce⟩ := hex
    have hfl := (Even.cell hE hce).1
    rw [Nat.mul_comm, Nat.div_add_mod] at hfl
    have hcc : c = c' := by rw [hn] at hfl; simpa using hfl
    obtain ⟨x, hx, hv⟩ := hc _ _ _ hce
    rw [← hcc] at hv
    refine ⟨x, ?_, hv⟩
    rw [Nat.add_assoc, show n / m * m + n % m = n by rw [Nat.mul_comm]; exact Nat.div_add_mod n m] at hx
    exact hx
  unfold srcEls at h
  split at h
  · rename_i es'
    split at h
    · rename_i hE
      obtain rfl := Option.some.inj h
      cases hx with
      | lst _ k o cap m' g hcap hO hk hm hc hs =>
        by_cases hne : es' = []
        · subst hne
          refine ⟨hE, _, cap, rfl, [], VC.nil, fun w' _ => ?_⟩
          have := run_firstCells_some (P := P) w' m 0 ⟨k, o, none⟩ 0 cap [] (by simp) (by simp)
          simpa using this
        · have hmm : m = m' := by
            obtain ⟨e, es'', rfl⟩ := List.exists_cons_of_ne_nil hne
            rw [← hE e (by simp), hm e (by simp)]
          subst hmm
          exact gen es' k o cap hE (atflat es' k o hE fun i j c hcc => ⟨g i j, hc i j c hcc, hs i j c hcc⟩) rfl
      | lst0 a cap =>
        refine ⟨hE, a, cap, rfl, [], VC.nil, fun w' _ => ?_⟩
        cases a with
        | none => simp [run_firstCells_none]
        | some a =>
          have := run_firstCells_some (P := P) w' m 0 a 0 cap [] (by simp) (by simp)
          simpa using this
    · cases h
  · obtain rfl := Option.some.inj h
    cases hx with
    | zsl a =>
      refine ⟨fun e he => by simp at he, a, 0, rfl, [], VC.nil, fun w' _ => ?_⟩
      cases a with
      | none => simp [run_firstCells_none]
      | some a =>
        have := run_firstCells_some (P := P) w' m 0 a 0 0 [] (by simp) (by simp)
        simpa using this
  · rename_i b m' off len
    split at h
    · rename_i B hb
      split at h
      · rename_i hcond
        obtain ⟨rfl, hle⟩ := hcond
        obtain rfl := Option.some.inj h
        cases hx with
        | own _ _ _ _ L hL hLm hcp =>
          obtain ⟨L0, a, t, h1, h2, h3, h4, h5, h6, h7, h8⟩ := hH.live b B hb
          rw [hL] at h1
          obtain rfl : L = L0 := by simpa using h1
          have hE : Even m' ((B.es.drop off).take len) := fun e he => by rw [← hLm]; exact h4 e (List.mem_of_mem_drop (List.mem_of_mem_take he))
          have hlen : ((B.es.drop off).take len).length = len := by simp; omega
          refine gen _ L.k (L.o + off * m') (L.cp - off) hE (atflat _ _ _ hE fun i j c hcc => ?_) (by rw [hlen])
          have hcc' : cellAt? B.es (off + i) j = some c := by
            simp only [cellAt?, List.getElem?_take, List.getElem?_drop] at hcc ⊢
            split at hcc
            · exact hcc
            · simp at hcc
          have hEB : Even L.m B.es := h4
          obtain ⟨_, hj, hi⟩ := Even.cell hEB hcc'
          have hv := h8 _ _ _ hcc'
          have hlt : L.o + (off + i) * L.m + j < a.size := by
            have : (off + i + 1) * L.m ≤ L.cp * L.m := Nat.mul_le_mul_right _ (by omega)
            rw [Nat.add_mul (off + i)] at this
            omega
          refine ⟨a[L.o + (off + i) * L.m + j], ?_, by simpa [hlt] using hv⟩
          rw [← hLm, show L.o + off * L.m + i * L.m + j = L.o + (off + i) * L.m + j by rw [Nat.add_mul]; omega]
          simp [World.cell?, h3, hlt]
      · cases h
    · cases h
  · rename_i s
    exact absurd rfl (hstr s)
  · cases h

end
end Go.M3
