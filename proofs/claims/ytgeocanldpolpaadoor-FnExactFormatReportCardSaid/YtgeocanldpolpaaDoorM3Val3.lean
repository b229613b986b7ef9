/- Operations that look at values alone: slices, lengths, conversions, composite values. -/
import Derived.Test.YtgeocanldpolpaaDoorM3Val2
set_option linter.unusedVariables false
namespace Go.M3

section
variable {P : Program} {w : World} {O : Nat → Prop} {β : Map}

/-- The operand of an optional bound. -/
def VRo (w : World) (O : Nat → Prop) (β : Map) : Option AV → Option Value → Prop
  | none, none => True
  | some v, some x => VR w O β v x
  | _, _ => False

theorem sliceBounds_sound {sl : Bool} {len cap : Nat} {lo hi : Option AV} {x y : Option Value} {l h : Nat} (hlo : VRo w O β lo x) (hhi : VRo w O β hi y) (h1 : bound 0 lo = some l) (h2 : bound len hi = some h)
    (hlh : l ≤ h) (hc : h ≤ cap) (w' : World) : (Instr.sliceBounds sl len cap x y none).run P w' = .ok (l, h, cap) w' := by
  have hh : (match y with | some v => Instr.sliceBound v cap (if sl = true then .sliceAcap else .sliceAlen) | none => (pure len : Sem Nat)).run P w' = .ok h w' := by
    cases hi with
    | none => cases y with
      | none => simp [bound] at h2; simp [h2]
      | some y => cases hhi
    | some v => cases y with
      | none => cases hhi
      | some y =>
        cases hhi <;> simp [bound] at h2
        rename_i k n
        obtain ⟨h0, rfl⟩ := h2
        have : n ≤ (cap : Int) := by omega
        simp [Instr.sliceBound, asIntOf, h0, this]
  have hl : (match x with | some v => Instr.sliceBound v h (if (none : Option Value).isSome = true then .slice3C else .sliceB) | none => (pure 0 : Sem Nat)).run P w' = .ok l w' := by
    cases lo with
    | none => cases x with
      | none => simp [bound] at h1; simp [h1]
      | some y => cases hlo
    | some v => cases x with
      | none => cases hlo
      | some y =>
        cases hlo <;> simp [bound] at h1
        rename_i k n
        obtain ⟨h0, rfl⟩ := h1
        have : n ≤ (h : Int) := by omega
        simp [Instr.sliceBound, asIntOf, h0, this]
  unfold Instr.sliceBounds
  cases y <;> cases x <;> simp only [Sem.run_bind, Sem.run_pure, Result.andThen_ok] at hh hl ⊢
  · obtain rfl : len = h := by injection hh
    obtain rfl : 0 = l := by injection hl
    rfl
  · obtain rfl : len = h := by injection hh
    simp only [hl, Result.andThen_ok]
  · obtain rfl : 0 = l := by injection hl
    simp only [hh, Result.andThen_ok]
  · simp only [hh, hl, Result.andThen_ok]

theorem aSlice_sound {t : TypeId} {x : AV} {lo hi : Option AV} {v : AV} {y : Value} {ylo yhi : Option Value} (h : aSlice P t x lo hi = some v) (hx : VR w O β x y) (hlo : VRo w O β lo ylo) (hhi : VRo w O β hi yhi) :
    Val P w O β (Instr.sliceAt t y ylo yhi none) v := by
  unfold aSlice at h
  split at h
  · rename_i s hu
    split at h
    · rename_i l h' h1 h2
      split at h
      · rename_i hb
        obtain rfl := Option.some.inj h
        cases hx
        refine ⟨_, fun w' => ?_, .str _⟩
        simp only [Instr.sliceAt, Instr.slice, Sem.run_bind, run_und hu, Result.andThen_ok]
        simp [sliceBounds_sound hlo hhi h1 h2 hb.1 hb.2]
      · cases h
    · cases h
  · rename_i e es hu
    split at h
    · rename_i l h' h1 h2
      split at h
      · rename_i hb
        obtain ⟨hlh, hhl, hz, hall⟩ := hb
        obtain rfl := Option.some.inj h
        cases hx with
        | lst _ k o cap m g hcap hO hk hm hc hs =>
          have hr : ∀ w', (Instr.sliceAt t (.slice (some ⟨k, o, none⟩) es.length cap) ylo yhi none).run P w' = .ok (.slice (if cap = l then some ⟨k, o, none⟩ else some ⟨k, o + l * P.cellsOf e, none⟩) (h' - l) (cap - l)) w' := by
            intro w'
            simp only [Instr.sliceAt, Instr.slice, Sem.run_bind, run_und hu, Result.andThen_ok]
            simp [sliceBounds_sound hlo hhi h1 h2 hlh (Nat.le_trans hhl hcap), run_size hz, Addr.add_eq]
          by_cases hlt : l < h'
          · have hmm : P.cellsOf e = m := by
              cases es with
              | nil => simp at hhl; omega
              | cons c es => rw [← hall c (by simp)]; exact hm c (by simp)
            have hne : ¬ cap = l := by omega
            refine ⟨.slice (some ⟨k, o + l * m, none⟩) (h' - l) (cap - l), fun w' => by rw [hr, if_neg hne, hmm], ?_⟩
            have hlen : ((es.take h').drop l).length = h' - l := by simp; omega
            have hcell : ∀ i j c, cellAt? ((es.take h').drop l) i j = some c → cellAt? es (l + i) j = some c := by
              intro i j c hcc
              simp only [cellAt?, List.getElem?_drop, List.getElem?_take] at hcc ⊢
              split at hcc
              · exact hcc
              · simp at hcc
            rw [← hlen]
            refine .lst _ k (o + l * m) (cap - l) m (fun i j => g (l + i) j) (by omega) hO hk (fun c hc' => hm c (List.mem_of_mem_take (List.mem_of_mem_drop hc'))) (fun i j c hcc => ?_) (fun i j c hcc => hs _ _ _ (hcell i j c hcc))
            have := hc _ _ _ (hcell i j c hcc)
            rw [show o + l * m + i * m + j = o + (l + i) * m + j by rw [Nat.add_mul]; omega]
            exact this
          · have hle : h' - l = 0 := by omega
            have hnil : (es.take h').drop l = [] := by apply List.eq_nil_of_length_eq_zero; simp; omega
            rw [hnil]
            refine ⟨_, fun w' => by rw [hr, hle], .lst0 _ _⟩
        | lst0 a cap =>
          simp at hhl
          have hl0 : l = 0 := by omega
          subst hl0
          subst hhl
          refine ⟨.slice (if cap = 0 then a else a.map (·.add (0 * P.cellsOf e))) 0 cap, fun w' => ?_, ?_⟩
          · have hsb : ∀ w', (Instr.sliceBounds true 0 cap ylo yhi none).run P w' = .ok (0, 0, cap) w' := sliceBounds_sound hlo hhi h1 (by simpa using h2) (Nat.le_refl 0) (Nat.zero_le cap)
            simp only [Instr.sliceAt, Instr.slice, Sem.run_bind, run_und hu, Result.andThen_ok, hsb, run_size hz, Sem.run_pure, Nat.sub_self, Nat.sub_zero]
          · simpa using VR.lst0 (w := w) (O := O) (β := β) _ _
      · cases h
    · cases h
  · rename_i e b m off len hu
    split at h
    · rename_i l h' h1 h2
      split at h
      · rename_i hb
        obtain ⟨hlh, hhl, hz, hm⟩ := hb
        cases hx with
        | own _ _ _ _ L hβ hLm hcp =>
          have hr : ∀ w', (Instr.sliceAt t (.slice (some ⟨L.k, L.o + off * m, none⟩) len (L.cp - off)) ylo yhi none).run P w' = .ok (.slice (if L.cp - off = l then some ⟨L.k, L.o + off * m, none⟩ else some ⟨L.k, L.o + off * m + l * m, none⟩) (h' - l) (L.cp - off - l)) w' := by
            intro w'
            simp only [Instr.sliceAt, Instr.slice, Sem.run_bind, run_und hu, Result.andThen_ok]
            simp [sliceBounds_sound hlo hhi h1 h2 hlh (show h' ≤ L.cp - off by omega), run_size hz, Addr.add_eq, hm]
          split at h
          · rename_i hlt
            obtain rfl := Option.some.inj h
            have hne : ¬ L.cp - off = l := by omega
            refine ⟨.slice (some ⟨L.k, L.o + (off + l) * m, none⟩) (h' - l) (L.cp - (off + l)), fun w' => ?_, .own _ _ _ _ L hβ hLm (by omega)⟩
            rw [hr, if_neg hne, Nat.add_mul, Nat.add_assoc, Nat.sub_sub]
          · obtain rfl := Option.some.inj h
            have hle : h' - l = 0 := by omega
            exact ⟨_, fun w' => by rw [hr, hle], .lst0 _ _⟩
      · cases h
    · cases h
  · rename_i e hu
    split at h
    · rename_i l h' h1 h2
      split at h
      · rename_i hb
        obtain ⟨rfl, rfl, hz⟩ := hb
        obtain rfl := Option.some.inj h
        cases hx with
        | zsl a =>
          refine ⟨.slice a 0 0, fun w' => ?_, .zsl a⟩
          simp only [Instr.sliceAt, Instr.slice, Sem.run_bind, run_und hu, Result.andThen_ok]
          simp [sliceBounds_sound hlo hhi h1 h2 (Nat.le_refl 0) (Nat.le_refl 0), run_size hz]
      · cases h
    · cases h
  · cases h

theorem aConv_sound {s d : TypeId} {x v : AV} {y : Value} (h : aConv P s d x = some v) (hx : VR w O β x y) : Val P w O β (convert s d y) v := by
  unfold aConv at h
  split at h
  · rename_i ds k k' n hs hd
    obtain rfl := Option.some.inj h
    cases hx
    refine ⟨.int k (k.wrap n), fun w' => ?_, .int _ _⟩
    simp only [convert, Sem.run_bind, run_und hs, run_und hd, Result.andThen_ok]
    cases ds <;> rfl
  · rename_i ds st hs hd
    obtain rfl := Option.some.inj h
    cases hx
    refine ⟨.string st, fun w' => ?_, .str _⟩
    simp only [convert, Sem.run_bind, run_und hs, run_und hd, Result.andThen_ok]
    cases ds <;> first | rfl | skip
  · cases h

theorem aLen_sound {t : TypeId} {x v : AV} {y : Value} {ty : TypeId} (h : aLen P t x = some v) (hx : VR w O β x y) : Val P w O β (Builtin.len_ #[t] ty #[y]) v := by
  unfold aLen at h
  split at h
  · rename_i s hu; obtain rfl := Option.some.inj h; cases hx
    exact ⟨.int .i64 _, fun w' => by simp [Builtin.len_, run_und hu, goInt], .int _ _⟩
  · rename_i e es hu; obtain rfl := Option.some.inj h; cases hx
    · exact ⟨.int .i64 _, fun w' => by simp [Builtin.len_, run_und hu, goInt], .int _ _⟩
    · exact ⟨.int .i64 _, fun w' => by simp [Builtin.len_, run_und hu, goInt], .int _ _⟩
  · rename_i e b m off len hu; obtain rfl := Option.some.inj h; cases hx
    exact ⟨.int .i64 _, fun w' => by simp [Builtin.len_, run_und hu, goInt], .int _ _⟩
  · rename_i e hu; obtain rfl := Option.some.inj h; cases hx
    exact ⟨.int .i64 _, fun w' => by simp [Builtin.len_, run_und hu, goInt], .int _ _⟩
  · rename_i n e hu; obtain rfl := Option.some.inj h
    exact ⟨.int .i64 _, fun w' => by simp [Builtin.len_, run_und hu, goInt], .int _ _⟩
  · cases h
end
end Go.M3
