/- What an operation looks at: its operands, and some blocks of the call's own memory. -/
import Derived.Test.YtgeocanldpolpaaDoorM3Seal
set_option linter.unusedVariables false
namespace Go.M3

def blkOf : AV → List Nat
  | .own b _ _ _ => [b]
  | .ref b _ _ => [b]
  | _ => []

/-- The blocks that an operation reads or writes, its new one aside. -/
def rdOf (op : Op) (σ : Operand → AV) : List Nat :=
  match op with
  | .load _ p => blkOf (σ p)
  | .store _ p _ => blkOf (σ p)
  | .convert _ _ x => blkOf (σ x)
  | .call ⟨.builtin .append, args, _⟩ => match args.toList with | [s, x] => blkOf (σ s) ++ blkOf (σ x) | _ => []
  | _ => []

/-- The blocks that it writes. -/
def wrOf (op : Op) (σ : Operand → AV) (nx : Nat) : List Nat :=
  match op with
  | .store _ p _ => blkOf (σ p)
  | .alloc _ => [nx]
  | .box _ _ => [nx]
  | .buildSlice _ _ _ => [nx]
  | .makeSlice _ _ _ => [nx]
  | .call ⟨.builtin .append, args, _⟩ => match args.toList with | [s, x] => nx :: blkOf (σ s) | _ => []
  | _ => []

section
variable {P : Program}

theorem lookup_congr {σ σ' : Operand → AV} {ps : Array (Nat × Operand)} (h : ∀ x ∈ (ps.toList.map (·.2)), σ x = σ' x) : lookup σ ps = lookup σ' ps := by
  unfold lookup
  apply List.map_congr_left
  intro p hp
  rw [h p.2 (List.mem_map.2 ⟨p, hp, rfl⟩)]

theorem aval_congr {op : Op} {σ σ' : Operand → AV} (h : ∀ x ∈ op.operands, σ x = σ' x) : aval P op σ = aval P op σ' := by
  cases op <;> simp only [Op.operands] at h <;> try (simp only [aval]; done)
  case build t ps => simp only [aval]; rw [lookup_congr (fun x hx => h x (by simpa using hx))]
  case makeFunc fn a b =>
    cases fn <;> simp only [aval]
    rw [List.map_congr_left (l := a.toList) (fun x hx => h x (by simp at hx; simp [hx])), List.map_congr_left (l := b.toList) (fun x hx => h x (by simp at hx; simp [hx]))]
  case slice t x lo hi mx =>
    cases mx with
    | some m => simp only [aval]
    | none => cases lo <;> cases hi <;> simp_all [aval]
  case call c =>
    obtain ⟨callee, args, tys⟩ := c
    cases callee with
    | value f => simp only [aval]
    | invoke r m => simp only [aval]
    | builtin b =>
      have hargs : args.toList.map σ = args.toList.map σ' := List.map_congr_left fun x hx => h x (by simp [Call.operands] at hx ⊢; exact hx)
      cases b <;> simp only [aval] <;> try rw [hargs]
      split
      · rename_i x t hx ht
        have : σ x = σ' x := h x (by simp only [Call.operands]; have : args = #[x] := by apply Array.ext'; simpa using hx
                                     subst this; simp)
        rw [this]
      · rfl
  all_goals (simp_all [aval]; done)

theorem aop_congr {sl : Bool} {op : Op} {σ σ' : Operand → AV} {H : AH} {nx : Nat} (h : ∀ x ∈ op.operands, σ x = σ' x) : aop P sl op σ H nx = aop P sl op σ' H nx := by
  have hv := aval_congr (P := P) h
  cases op <;> try (simp only [aop]; rw [hv]; done)
  case load t p => simp only [aop]; rw [h p (by simp [Op.operands])]
  case store t p v => simp only [aop]; rw [h p (by simp [Op.operands]), h v (by simp [Op.operands])]
  case convert s d x => simp only [aop]; rw [h x (by simp [Op.operands])]
  case alloc t => rfl
  case box t x => simp only [aop]; rw [h x (by simp [Op.operands])]
  case buildSlice t n ps => simp only [aop]; rw [lookup_congr (fun x hx => h x (by simpa [Op.operands] using hx))]
  case makeSlice t l c => simp only [aop]; rw [h l (by simp [Op.operands]), h c (by simp [Op.operands])]
  case call c =>
    obtain ⟨callee, args, tys⟩ := c
    cases callee with
    | value f => simp only [aop]; rw [hv]
    | invoke r m => simp only [aop]; rw [hv]
    | builtin b =>
      cases b <;> try (simp only [aop]; rw [hv]; done)
      simp only [aop]
      split
      · rename_i s x t t2 ha ht
        have : args = #[s, x] := by apply Array.ext'; simpa using ha
        subst this
        rw [h s (by simp [Op.operands, Call.operands]), h x (by simp [Op.operands, Call.operands])]
      · rfl

theorem blkOf_congr_src {H H2 : AH} {x : AV} {m : Nat} (h : ∀ b ∈ blkOf x, H2.blk b = H.blk b) : srcEls H2 x m = srcEls H x m := by
  unfold srcEls
  cases x <;> try rfl
  rename_i b m' off len
  have := h b (by simp [blkOf])
  simp only [this]

theorem aLoad_local {H H2 : AH} {t : TypeId} {p : AV} (h : ∀ b ∈ blkOf p, H2.blk b = H.blk b) : aLoad P H2 t p = aLoad P H t p := by
  unfold aLoad
  cases p <;> try rfl
  rename_i b i j
  simp only [h b (by simp [blkOf])]

/-- Two memories stand in the same way to two others at the blocks that are written, and were left alone elsewhere. -/
def Upd (wr : List Nat) (H H1 H2 H3 : AH) : Prop := H3.next = H2.next ∧ H1.next = H.next ∧ (∀ b, b ∈ wr → H3.blk b = H1.blk b) ∧ (∀ b, b ∉ wr → H3.blk b = H2.blk b ∧ H1.blk b = H.blk b)

theorem Upd.none (H H2 : AH) : Upd [] H H H2 H2 := ⟨rfl, rfl, fun b hb => by simp at hb, fun b _ => ⟨rfl, rfl⟩⟩
theorem Upd.same {wr : List Nat} {H H2 : AH} (h : ∀ b ∈ wr, H2.blk b = H.blk b) : Upd wr H H H2 H2 := ⟨rfl, rfl, h, fun b _ => ⟨rfl, rfl⟩⟩
theorem Upd.new {H H2 : AH} {nx : Nat} (hn : H2.next = H.next) (hlt : nx < H.next) (B : Blk) : Upd [nx] H (H.new nx B) H2 (H2.new nx B) :=
  ⟨by simp [AH.new, hn, hlt], by simp [AH.new, hlt], fun b hb => by simp at hb; simp [AH.new, hb], fun b hb => by simp at hb; simp [AH.new, hb]⟩

theorem aStore_local {H H1 H2 : AH} {t : TypeId} {p v : AV} (h : ∀ b ∈ blkOf p, H2.blk b = H.blk b) (hs : aStore P H t p v = some H1) : ∃ H3, aStore P H2 t p v = some H3 ∧ Upd (blkOf p) H H1 H2 H3 := by
  unfold aStore at hs ⊢
  cases p <;> try (simp at hs; done)
  rename_i b i j
  have hb := h b (by simp [blkOf])
  simp only [hb] at hs ⊢
  cases hB : H.blk b with
  | none => simp [hB] at hs
  | some B =>
    simp only [hB] at hs ⊢
    cases he : B.es[i]? with
    | none => simp [he] at hs
    | some e =>
      simp only [he] at hs ⊢
      split at hs
      · rename_i hc
        obtain rfl := Option.some.inj hs
        rw [if_pos hc]
        exact ⟨_, rfl, rfl, rfl, fun c hc => by simp [blkOf] at hc; simp [AH.set, hc], fun c hc => by simp [blkOf] at hc; simp [AH.set, hc]⟩
      · cases hs

theorem aAppend_local {H H1 H2 : AH} {nx : Nat} {t t2 : TypeId} {s x v : AV} (hs1 : ∀ b ∈ blkOf s, H2.blk b = H.blk b) (hx : ∀ b ∈ blkOf x, H2.blk b = H.blk b) (hnx : H2.blk nx = H.blk nx) (hn : H2.next = H.next) (hlt : nx < H.next)
    (h : aAppend P H nx t t2 s x = some (v, H1)) : ∃ H3, aAppend P H2 nx t t2 s x = some (v, H3) ∧ Upd (nx :: blkOf s) H H1 H2 H3 := by
  unfold aAppend at h ⊢
  cases hu : P.underlying t with
  | none => simp [hu] at h
  | some d =>
    cases d <;> try (simp [hu] at h; done)
    rename_i e
    simp only [hu] at h ⊢
    rw [blkOf_congr_src hx]
    cases hsrc : srcEls H x (P.cellsOf e) with
    | none => simp [hsrc] at h
    | some src =>
      cases hz : zeroCellsOf P e with
      | none => simp [hsrc, hz] at h
      | some z =>
        simp only [hsrc, hz] at h ⊢
        split at h
        · rename_i hc
          rw [if_pos hc]
          cases s <;> try (simp at h; done)
          · simp only at h ⊢
            split at h
            · rename_i hb
              rw [if_pos hb]
              split at h
              · rename_i h0
                rw [if_pos h0]
                simp only [Option.some.injEq, Prod.mk.injEq] at h
                obtain ⟨rfl, rfl⟩ := h
                exact ⟨H2, rfl, Upd.same (fun b hb => by simp [blkOf] at hb; rw [hb]; exact hnx)⟩
              · rename_i h0
                rw [if_neg h0]
                simp only [Option.some.injEq, Prod.mk.injEq] at h
                obtain ⟨rfl, rfl⟩ := h
                exact ⟨_, rfl, Upd.new hn hlt _⟩
            · cases h
          · rename_i b m off len
            have hb := hs1 b (by simp [blkOf])
            simp only [hb] at h ⊢
            cases hB : H.blk b with
            | none => simp [hB] at h
            | some B =>
              simp only [hB] at h ⊢
              split at h
              · rename_i hcc
                rw [if_pos hcc]
                simp only [Option.some.injEq, Prod.mk.injEq] at h
                obtain ⟨rfl, rfl⟩ := h
                refine ⟨_, rfl, by simp [AH.new, AH.kill, hn, hlt], by simp [AH.new, AH.kill, hlt], fun c hc => ?_, fun c hc => ?_⟩
                · simp [blkOf] at hc
                  simp only [AH.new, AH.kill]
                  by_cases hcn : c = nx
                  · simp [hcn]
                  · have : c = b := hc.resolve_left hcn
                    simp [hcn, this]
                · simp [blkOf] at hc
                  simp [AH.new, AH.kill, hc.1, hc.2]
              · cases h
        · cases h

/-- An operation in a memory that agrees at the blocks that it looks at: the same value; the blocks that it writes come out the same, the others stay. -/
theorem aop_local {sl : Bool} {op : Op} {σ : Operand → AV} {H H2 H1 : AH} {nx : Nat} {v : AV} (h : aop P sl op σ H nx = some (v, H1)) (hag : ∀ b ∈ rdOf op σ, H2.blk b = H.blk b) (hnx : H2.blk nx = H.blk nx) (hn : H2.next = H.next) (hlt : nx < H.next) :
    ∃ H3, aop P sl op σ H2 nx = some (v, H3) ∧ Upd (wrOf op σ nx) H H1 H2 H3 := by
  have pure : ∀ o : Option AV, o.map (fun v => (v, H)) = some (v, H1) → ∀ wr, wr = [] → ∃ H3, o.map (fun v => (v, H2)) = some (v, H3) ∧ Upd wr H H1 H2 H3 := by
    intro o ho wr hw
    cases o with
    | none => simp at ho
    | some u =>
      simp only [Option.map_some, Option.some.injEq, Prod.mk.injEq] at ho
      obtain ⟨rfl, rfl⟩ := ho
      subst hw
      exact ⟨H2, rfl, Upd.none H H2⟩
  have hsame : Upd [nx] H H H2 H2 := Upd.same (fun b hb => by simp at hb; rw [hb]; exact hnx)
  unfold aop at h ⊢
  split at h
  · rename_i t p
    rw [aLoad_local hag]
    exact pure _ h _ rfl
  · rename_i t p u
    cases hs : aStore P H t (σ p) (σ u) with
    | none => simp [hs] at h
    | some H1' =>
      simp only [hs, Option.map_some, Option.some.injEq, Prod.mk.injEq] at h
      obtain ⟨rfl, rfl⟩ := h
      obtain ⟨H3, h3, hu⟩ := aStore_local hag hs
      exact ⟨H3, by simp [h3], hu⟩
  · rename_i t
    unfold aAlloc at h ⊢
    split at h
    · simp only [Option.some.injEq, Prod.mk.injEq] at h
      obtain ⟨rfl, rfl⟩ := h
      exact ⟨_, rfl, Upd.new hn hlt _⟩
    · cases h
  · rename_i t x
    unfold aBox at h ⊢
    split at h
    · rename_i hc
      rw [if_pos hc]
      simp only [Option.some.injEq, Prod.mk.injEq] at h
      obtain ⟨rfl, rfl⟩ := h
      exact ⟨_, rfl, Upd.new hn hlt _⟩
    · cases h
  · rename_i t n ps
    unfold aBuildSlice at h ⊢
    cases hu : P.underlying t with
    | none => simp [hu] at h
    | some d =>
      cases d <;> try (simp [hu] at h; done)
      rename_i e
      simp only [hu] at h ⊢
      cases hz : zeroCellsOf P e with
      | none => simp [hz] at h
      | some z =>
        simp only [hz] at h ⊢
        split at h
        · rename_i hc
          rw [if_pos hc]
          cases hf : aFillE (P.cellsOf e) (List.replicate n z) (lookup σ ps) with
          | none => simp [hf] at h
          | some es =>
            simp only [hf] at h ⊢
            split at h
            · rename_i h0
              rw [if_pos h0]
              simp only [Option.some.injEq, Prod.mk.injEq] at h
              obtain ⟨rfl, rfl⟩ := h
              exact ⟨H2, rfl, hsame⟩
            · rename_i h0
              rw [if_neg h0]
              split at h
              · rename_i hsl
                rw [if_pos hsl]
                simp only [Option.some.injEq, Prod.mk.injEq] at h
                obtain ⟨rfl, rfl⟩ := h
                exact ⟨H2, rfl, hsame⟩
              · rename_i hsl
                rw [if_neg hsl]
                simp only [Option.some.injEq, Prod.mk.injEq] at h
                obtain ⟨rfl, rfl⟩ := h
                exact ⟨_, rfl, Upd.new hn hlt _⟩
        · cases h
  · rename_i t l c
    unfold aMakeSlice at h ⊢
    split at h
    · rename_i e l' c' hu hl hc
      split at h
      · rename_i z hz
        split at h
        · rename_i hcond
          split at h
          · rename_i h0
            simp only [Option.some.injEq, Prod.mk.injEq] at h
            obtain ⟨rfl, rfl⟩ := h
            refine ⟨H2, ?_, hsame⟩

            rw [if_pos hcond, if_pos h0]
          · rename_i h0
            simp only [Option.some.injEq, Prod.mk.injEq] at h
            obtain ⟨rfl, rfl⟩ := h
            refine ⟨_, ?_, Upd.new hn hlt _⟩

            rw [if_pos hcond, if_neg h0]
        · cases h
      · cases h
    · cases h
  · rename_i args tys
    split at h
    · rename_i s x t t2 ha ht
      have hag' : ∀ b ∈ blkOf (σ s) ++ blkOf (σ x), H2.blk b = H.blk b := by simpa [rdOf, ha] using hag
      obtain ⟨H3, h3, hu⟩ := aAppend_local (fun b hb => hag' b (by simp [hb])) (fun b hb => hag' b (by simp [hb])) hnx hn hlt h
      refine ⟨H3, ?_, by simpa [wrOf, ha] using hu⟩

      exact h3
    · cases h
  · rename_i s d x
    cases hc : aConv P s d (σ x) with
    | some u =>
      simp only [hc, Option.some.injEq, Prod.mk.injEq] at h ⊢
      obtain ⟨rfl, rfl⟩ := h
      exact ⟨H2, ⟨rfl, rfl⟩, Upd.none _ H2⟩
    | none =>
      simp only [hc] at h ⊢
      have e : aBytes P H2 s d (σ x) = aBytes P H s d (σ x) := by
        unfold aBytes
        cases hx : σ x <;> try rfl
        rename_i b m off len
        simp only [hag b (by simp [rdOf, hx, blkOf])]
      rw [e]
      exact pure _ h _ rfl
  · rename_i h1 h2 h3 h4 h5 h6 h7 h8
    have hw : wrOf op σ nx = [] := by
      cases op <;> try rfl
      case store t p u => exact (h2 _ _ _ rfl).elim
      case alloc t => exact (h3 _ rfl).elim
      case box t x => exact (h4 _ _ rfl).elim
      case buildSlice t n ps => exact (h5 _ _ _ rfl).elim
      case makeSlice t l c => exact (h6 _ _ _ rfl).elim
      case call c =>
        obtain ⟨callee, args, tys⟩ := c
        cases callee with
        | value f => rfl
        | invoke r m => rfl
        | builtin b =>
          cases b <;> try rfl
          exact (h7 _ _ rfl).elim
    exact pure _ h _ hw
end
end Go.M3
