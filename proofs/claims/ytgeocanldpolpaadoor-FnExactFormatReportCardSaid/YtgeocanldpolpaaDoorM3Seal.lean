/- Values with their memory read whole: what a call hands over and hands back. -/
import Derived.Test.YtgeocanldpolpaaDoorM3Call
set_option linter.unusedVariables false
namespace Go.M3

def snapL (f : AV → Option AV) : List AV → Option (List AV)
  | [] => some []
  | c :: cs => match f c, snapL f cs with
    | some a, some b => some (a :: b)
    | _, _ => none

def snapLL (f : AV → Option AV) : List (List AV) → Option (List (List AV))
  | [] => some []
  | c :: cs => match snapL f c, snapLL f cs with
    | some a, some b => some (a :: b)
    | _, _ => none

/-- A value, with all that it leads to in the call's own memory read out. -/
def snap : Nat → AH → AV → Option AV
  | 0, _, _ => none
  | n + 1, H, v => match v with
    | .own b m off len => match H.blk b with
      | some B => if off + len ≤ B.es.length then (snapLL (snap n H) ((B.es.drop off).take len)).map .lst else none
      | none => none
    | .ref b i j => match H.blk b with
      | some B => match B.es[i]? with
        | some e => (snapL (snap n H) (e.drop j)).map .rptr
        | none => none
      | none => none
    | .agg cs => (snapL (snap n H) cs).map .agg
    | .tup cs => (snapL (snap n H) cs).map .tup
    | .lst es => (snapLL (snap n H) es).map .lst
    | .rptr cs => (snapL (snap n H) cs).map .rptr
    | .fn f a b => match snapL (snap n H) a, snapL (snap n H) b with
      | some a', some b' => some (.fn f a' b')
      | _, _ => none
    | .iface t v => (snap n H v).map (.iface t)
    | .zsl => some (.lst [])
    | .bool b => some (.bool b)
    | .int k m => some (.int k m)
    | .str s => some (.str s)
    | .nilp => some .nilp
    | .nilf => some .nilf
    | .niliface => some .niliface
    | .any => some .any

theorem snapL_spec {f : AV → Option AV} : ∀ {l r : List AV}, snapL f l = some r → r.length = l.length ∧ ∀ (i : Nat) (d : AV), r[i]? = some d → ∃ c, l[i]? = some c ∧ f c = some d
  | [], r, h => by obtain rfl := Option.some.inj h; exact ⟨rfl, fun i d hd => by simp at hd⟩
  | c :: cs, r, h => by
    unfold snapL at h
    split at h
    · rename_i a b h1 h2
      obtain rfl := Option.some.inj h
      obtain ⟨g1, g2⟩ := snapL_spec h2
      refine ⟨by simp [g1], fun i d hd => ?_⟩
      cases i with
      | zero => simp at hd; subst hd; exact ⟨c, rfl, h1⟩
      | succ i => simpa using g2 i d (by simpa using hd)
    · cases h

theorem snapLL_spec {f : AV → Option AV} : ∀ {l r : List (List AV)}, snapLL f l = some r → r.length = l.length ∧ (∀ (i : Nat) (e : List AV), r[i]? = some e → ∃ c, l[i]? = some c ∧ snapL f c = some e)
  | [], r, h => by obtain rfl := Option.some.inj h; exact ⟨rfl, fun i d hd => by simp at hd⟩
  | c :: cs, r, h => by
    unfold snapLL at h
    split at h
    · rename_i a b h1 h2
      obtain rfl := Option.some.inj h
      obtain ⟨g1, g2⟩ := snapLL_spec h2
      refine ⟨by simp [g1], fun i d hd => ?_⟩
      cases i with
      | zero => simp at hd; subst hd; exact ⟨c, rfl, h1⟩
      | succ i => simpa using g2 i d (by simpa using hd)
    · cases h

section
variable {P : Program}

theorem snap_sound {w : World} {O O2 : Nat → Prop} {β : Map} {H : AH} (hH : HR w O β H) (hO : ∀ k, O2 k → O k) (hb : ∀ b B L, H.blk b = some B → β b = some L → ¬ O2 L.k) : ∀ (n : Nat) (v d : AV) (x : Value), snap n H v = some d → VR w O β v x → VR w O2 (fun _ => none) d x := by
  intro n
  induction n with
  | zero => intro v d x h _; simp [snap] at h
  | succ n ih =>
    intro v d x h hv
    have ihL : ∀ {l r : List AV}, snapL (snap n H) l = some r → ∀ {g : Nat → Value}, (∀ i c, l[i]? = some c → VR w O β c (g i)) → ∀ i d, r[i]? = some d → VR w O2 (fun _ => none) d (g i) := by
      intro l r hl g hg i d hd
      obtain ⟨c, hc, hcd⟩ := (snapL_spec hl).2 i d hd
      exact ih c d _ hcd (hg i c hc)
    unfold snap at h
    split at h
    · rename_i b m off len
      split at h
      · rename_i B hB
        split at h
        · rename_i hle
          cases hs : snapLL (snap n H) ((B.es.drop off).take len) with
          | none => simp [hs] at h
          | some r =>
            simp only [hs, Option.map_some, Option.some.injEq] at h
            subst h
            obtain ⟨hl, hr⟩ := snapLL_spec hs
            have hlen : r.length = len := by rw [hl]; simp; omega
            cases hv with
            | own _ _ _ _ L hL hLm hcp =>
              obtain ⟨L0, a, ty, h1, h2, h3, h4, h5, h6, h7, h8⟩ := hH.live b B hB
              rw [hL] at h1
              obtain rfl : L = L0 := by simpa using h1
              have hcell : ∀ i j d, cellAt? r i j = some d → ∃ c, cellAt? B.es (off + i) j = some c ∧ snap n H c = some d := by
                intro i j d hd
                cases hri : r[i]? with
                | none => simp [cellAt?, hri] at hd
                | some e =>
                  simp only [cellAt?, hri, Option.bind_some] at hd
                  obtain ⟨c, hc, hce⟩ := hr i e hri
                  obtain ⟨c', hc', hcd⟩ := (snapL_spec hce).2 j d hd
                  rw [List.getElem?_take] at hc
                  split at hc
                  · rw [List.getElem?_drop] at hc
                    exact ⟨c', by simp [cellAt?, hc, hc'], hcd⟩
                  · cases hc
              rw [← hlen]
              refine .lst r L.k (L.o + off * m) (L.cp - off) m (fun i j => a.getD (L.o + (off + i) * L.m + j) undef) (by omega) (hb b B L hB hL) (hH.lt _ h2) (fun e he => ?_) (fun i j d hd => ?_) (fun i j d hd => ?_)
              · obtain ⟨i, hi, rfl⟩ := List.getElem_of_mem he
                obtain ⟨c, hc, hce⟩ := hr i r[i] (by simp [hi])
                have hcm : c ∈ B.es := List.mem_of_mem_drop (List.mem_of_mem_take (List.mem_of_getElem? hc))
                rw [(snapL_spec hce).1, h4 c hcm, hLm]
              · obtain ⟨c, hc, hcd⟩ := hcell i j d hd
                obtain ⟨_, hj, hi⟩ := Even.cell (m := L.m) h4 hc
                have hlt : L.o + (off + i) * L.m + j < a.size := by
                  have : (off + i + 1) * L.m ≤ L.cp * L.m := Nat.mul_le_mul_right _ (by omega)
                  rw [Nat.add_mul (off + i)] at this
                  omega
                rw [← hLm, show L.o + off * L.m + i * L.m + j = L.o + (off + i) * L.m + j by rw [Nat.add_mul]; omega]
                simp [World.cell?, h3, hlt]
              · obtain ⟨c, hc, hcd⟩ := hcell i j d hd
                exact ih c d _ hcd (h8 _ _ _ hc)
        · cases h
      · cases h
    · rename_i b i j
      split at h
      · rename_i B hB
        split at h
        · rename_i e he
          cases hs : snapL (snap n H) (e.drop j) with
          | none => simp [hs] at h
          | some r =>
            simp only [hs, Option.map_some, Option.some.injEq] at h
            subst h
            cases hv with
            | ref _ _ _ L hL =>
              obtain ⟨L0, a, ty, h1, h2, h3, h4, h5, h6, h7, h8⟩ := hH.live b B hB
              rw [hL] at h1
              obtain rfl : L = L0 := by simpa using h1
              have hat := (hH.at hB he hL).drop j
              refine .rptr r L.k (L.o + i * L.m + j) (fun q => (w.cell? ⟨L.k, L.o + i * L.m + j + q, none⟩).getD undef) (hb b B L hB hL) (hH.lt _ h2) (fun q d hd => ?_) (fun q d hd => ?_)
              · obtain ⟨c, hc, hcd⟩ := (snapL_spec hs).2 q d hd
                obtain ⟨x, hx, hvx⟩ := hat q c hc
                simp [hx]
              · obtain ⟨c, hc, hcd⟩ := (snapL_spec hs).2 q d hd
                obtain ⟨x, hx, hvx⟩ := hat q c hc
                simp only [hx, Option.getD_some]
                exact ih c d x hcd hvx
        · cases h
      · cases h
    · rename_i cs
      cases hs : snapL (snap n H) cs with
      | none => simp [hs] at h
      | some r =>
        simp only [hs, Option.map_some, Option.some.injEq] at h
        subst h
        cases hv with
        | agg _ a hl hg => exact .agg r a (by rw [hl, (snapL_spec hs).1]) (ihL hs hg)
    · rename_i cs
      cases hs : snapL (snap n H) cs with
      | none => simp [hs] at h
      | some r =>
        simp only [hs, Option.map_some, Option.some.injEq] at h
        subst h
        cases hv with
        | tup _ a hl hg => exact .tup r a (by rw [hl, (snapL_spec hs).1]) (ihL hs hg)
    · rename_i es
      cases hs : snapLL (snap n H) es with
      | none => simp [hs] at h
      | some r =>
        simp only [hs, Option.map_some, Option.some.injEq] at h
        subst h
        obtain ⟨hl, hr⟩ := snapLL_spec hs
        have hcell : ∀ i j d, cellAt? r i j = some d → ∃ c, cellAt? es i j = some c ∧ snap n H c = some d := by
          intro i j d hd
          cases hri : r[i]? with
          | none => simp [cellAt?, hri] at hd
          | some e =>
            simp only [cellAt?, hri, Option.bind_some] at hd
            obtain ⟨c, hc, hce⟩ := hr i e hri
            obtain ⟨c', hc', hcd⟩ := (snapL_spec hce).2 j d hd
            exact ⟨c', by simp [cellAt?, hc, hc'], hcd⟩
        cases hv with
        | lst _ k o cap m g hcap hOk hk hm hc hg =>
          rw [← hl]
          refine .lst r k o cap m g (by omega) (fun hx => hOk (hO k hx)) hk (fun e he => ?_) (fun i j d hd => ?_) (fun i j d hd => ?_)
          · obtain ⟨i, hi, rfl⟩ := List.getElem_of_mem he
            obtain ⟨c, hc', hce⟩ := hr i r[i] (by simp [hi])
            rw [(snapL_spec hce).1, hm c (List.mem_of_getElem? hc')]
          · obtain ⟨c, hcc, hcd⟩ := hcell i j d hd
            exact hc i j c hcc
          · obtain ⟨c, hcc, hcd⟩ := hcell i j d hd
            exact ih c d _ hcd (hg i j c hcc)
        | lst0 a cap =>
          have : r = [] := List.eq_nil_of_length_eq_zero (by simpa using hl)
          subst this
          exact .lst0 a cap
    · rename_i cs
      cases hs : snapL (snap n H) cs with
      | none => simp [hs] at h
      | some r =>
        simp only [hs, Option.map_some, Option.some.injEq] at h
        subst h
        cases hv with
        | rptr _ k o g hOk hk hc hg =>
          refine .rptr r k o g (fun hx => hOk (hO k hx)) hk (fun j d hd => ?_) (ihL hs hg)
          obtain ⟨c, hcc, _⟩ := (snapL_spec hs).2 j d hd
          exact hc j c hcc
    · rename_i f a b
      split at h
      · rename_i a' b' h1 h2
        obtain rfl := Option.some.inj h
        cases hv with
        | fn _ _ _ a1 a2 g1 g2 g3 g4 =>
          exact .fn f a' b' a1 a2 (by rw [g1, (snapL_spec h1).1]) (by rw [g2, (snapL_spec h2).1]) (ihL h1 g3) (ihL h2 g4)
      · cases h
    · rename_i t u
      cases hs : snap n H u with
      | none => simp [hs] at h
      | some r =>
        simp only [hs, Option.map_some, Option.some.injEq] at h
        subst h
        cases hv with
        | iface _ _ y hy => exact .iface t r y (ih u r y hs hy)
    · obtain rfl := Option.some.inj h; cases hv with | zsl a => exact .lst0 a 0
    · obtain rfl := Option.some.inj h; cases hv; exact .bool _
    · obtain rfl := Option.some.inj h; cases hv; exact .int _ _
    · obtain rfl := Option.some.inj h; cases hv; exact .str _
    · obtain rfl := Option.some.inj h; cases hv; exact .nilp
    · obtain rfl := Option.some.inj h; cases hv; exact .nilf
    · obtain rfl := Option.some.inj h; cases hv; exact .niliface
    · obtain rfl := Option.some.inj h; exact .any _

def noMap : Map := fun _ => none
def noOwn : Nat → Prop := fun _ => False

/-- How a call that writes nothing of what was there ends: its result, read whole, in whatever memory the caller lets it look at. -/
def VOut (w : World) (O : Nat → Prop) (d : AV) (v : Value) (w' : World) : Prop := ST w noOwn noMap w' noOwn noMap ∧ VR w' O noMap d v

/-- A call that writes nothing of what was there; its result may look into its arguments. -/
def VCall [Tabs] (P : Program) (f : FuncId) (args : List AV) (d : AV) : Prop :=
  ∀ (w : World) (O : Nat → Prop) (vs : Array Value), Known P w O → (∀ k, O k → k < w.heap.size) → VRs w O noMap args vs →
    (Enters P f ∧ Calls P f vs w fun e w' => ∃ v, e = .returned v ∧ VOut w O d v w') ∨ (∃ x w', (callFunc f vs).run P w = .ok (.value x) w' ∧ VOut w O d x w')

theorem HR.none {w : World} {O : Nat → Prop} (hlt : ∀ k, O k → k < w.heap.size) : HR w O noMap AH.empty :=
  ⟨fun b B h => by simp [AH.empty] at h, fun b b' B B' L L' h => by simp [AH.empty] at h, hlt, fun b _ => rfl⟩

/-- No memory hangs on it. -/
def AV.flat : AV → Bool
  | .bool _ | .int _ _ | .str _ | .nilp | .nilf | .niliface => true
  | .agg cs => cs.attach.all fun ⟨c, _⟩ => AV.flat c
  | .tup cs => cs.attach.all fun ⟨c, _⟩ => AV.flat c
  | _ => false

theorem VR.flat {w w' : World} {O O' : Nat → Prop} {β β' : Map} {v : AV} {x : Value} (h : VR w O β v x) : v.flat = true → VR w' O' β' v x := by
  induction h with
  | bool b => exact fun _ => .bool b
  | int k n => exact fun _ => .int k n
  | str s => exact fun _ => .str s
  | nilp => exact fun _ => .nilp
  | nilf => exact fun _ => .nilf
  | niliface => exact fun _ => .niliface
  | agg cs a hl h ih =>
    intro hf
    refine .agg cs a hl fun i c hc => ih i c hc ?_
    unfold AV.flat at hf
    exact List.all_eq_true.1 hf ⟨c, List.mem_of_getElem? hc⟩ (List.mem_attach _ _)
  | tup cs a hl h ih =>
    intro hf
    refine .tup cs a hl fun i c hc => ih i c hc ?_
    unfold AV.flat at hf
    exact List.all_eq_true.1 hf ⟨c, List.mem_of_getElem? hc⟩ (List.mem_attach _ _)
  | _ => intro hf; simp [AV.flat] at hf

theorem ST.of_kept {w w' : World} {O : Nat → Prop} {β : Map} (h : ST w noOwn noMap w' noOwn noMap) : ST w O β w' O β :=
  ⟨h.os, h.tape, h.output, h.size, fun k hk _ => h.keep k hk (fun h => h), fun k hk _ => h.keep k hk (fun h => h), fun _ _ => Iff.rfl, fun _ _ h => h, fun b L h => Or.inr ⟨b, L, h, rfl⟩⟩

theorem HR.kept {w w' : World} {O : Nat → Prop} {β : Map} {H : AH} (hH : HR w O β H) (h : ST w noOwn noMap w' noOwn noMap) : HR w' O β H := by
  refine ⟨fun b B hb => ?_, hH.inj, fun k hk => Nat.lt_of_lt_of_le (hH.lt k hk) h.size, hH.next⟩
  obtain ⟨L, a, t, h1, h2, h3, h4, h5, h6, h7, h8⟩ := hH.live b B hb
  exact ⟨L, a, t, h1, h2, by rw [h.keep _ (hH.lt _ h2) (fun h => h)]; exact h3, h4, h5, h6, h7, fun i j c hcc => (h8 i j c hcc).mono (ST.of_kept h)⟩

/-- The arguments, read whole; they hold nothing of the call's own memory. -/
theorem VRs.snap {w : World} {O O2 : Nat → Prop} {β : Map} {H : AH} {N : Nat} {args args' : List AV} {vs : Array Value} (hH : HR w O β H) (hO : ∀ k, O2 k → O k) (hb : ∀ b B L, H.blk b = some B → β b = some L → ¬ O2 L.k) (hs : snapL (M3.snap N H) args = some args') (hv : VRs w O β args vs) : VRs w O2 noMap args' vs := by
  obtain ⟨h1, h2⟩ := snapL_spec hs
  refine ⟨by rw [hv.1, h1], fun i d hd => ?_⟩
  obtain ⟨c, hc, hcd⟩ := h2 i d hd
  exact snap_sound hH hO hb N c d _ hcd (hv.2 i c hc)

/-- A call whose result has no memory: in whatever memory of the caller's own. -/
theorem HCall.of_flat [Tabs] {f : FuncId} {args args' : List AV} {H : AH} {d : AV} (N : Nat) (hs : snapL (snap N H) args = some args') (hf : d.flat = true) (h : VCall P f args' d) : HCall P f args H d H := by
  intro w O β vs hkn hH hv
  have hv' : VRs w noOwn noMap args' vs := VRs.snap hH (fun k hk => hk.elim) (fun b B L _ _ hk => hk.elim) hs hv
  have fin : ∀ v w', VOut w noOwn d v w' → Out w O β H d v w' := fun v w' ho => ⟨O, β, ST.of_kept ho.1, hH.kept ho.1, ho.2.flat hf⟩
  rcases h w noOwn vs (hkn.less fun k hk => hk.elim) (fun k hk => hk.elim) hv' with ⟨he, hc⟩ | ⟨x, w', hx, ho⟩
  · exact Or.inl ⟨he, hc.mono fun e w' ⟨v, hv, ho⟩ => ⟨v, hv, fin v w' ho⟩⟩
  · exact Or.inr ⟨x, w', hx, fin x w' ho⟩

theorem VR.map {w : World} {O : Nat → Prop} {β : Map} {v : AV} {x : Value} (h : VR w O noMap v x) : VR w O β v x := by
  induction h with
  | bool b => exact .bool b
  | int k n => exact .int k n
  | str s => exact .str s
  | agg cs a hl h ih => exact .agg cs a hl ih
  | lst es k o cap m x hcap hO hk hm hc h ih => exact .lst es k o cap m x hcap hO hk hm hc ih
  | lst0 a cap => exact .lst0 a cap
  | zsl a => exact .zsl a
  | own b m off len L hb hm hc => simp [noMap] at hb
  | nilp => exact .nilp
  | ref b i j L hb => simp [noMap] at hb
  | rptr cs k o x hO hk hc h ih => exact .rptr cs k o x hO hk hc ih
  | fn f first caps a1 a2 h1 h2 h3 h4 ih3 ih4 => exact .fn f first caps a1 a2 h1 h2 ih3 ih4
  | nilf => exact .nilf
  | niliface => exact .niliface
  | iface t v x h ih => exact .iface t v x ih
  | tup vs a hl h ih => exact .tup vs a hl ih
  | any x => exact .any x

/-- The arguments hold nothing of the call's own memory: the result may look into them. -/
theorem HCall.of_view [Tabs] {f : FuncId} {args args' : List AV} {H : AH} {d : AV} (N : Nat) (hs : snapL (snap N ⟨H.next, fun _ => none⟩) args = some args') (h : VCall P f args' d) : HCall P f args H d H := by
  intro w O β vs hkn hH hv
  have hB : HR w O β ⟨H.next, fun _ => none⟩ := ⟨fun b B h => by simp at h, fun b b' B B' L L' h => by simp at h, hH.lt, hH.next⟩
  have hv' : VRs w O noMap args' vs := VRs.snap hB (fun k hk => hk) (fun b B L h => by simp at h) hs hv
  have fin : ∀ v w', VOut w O d v w' → Out w O β H d v w' := fun v w' ho => ⟨O, β, ST.of_kept ho.1, hH.kept ho.1,
    ho.2.map⟩
  rcases h w O vs hkn hH.lt hv' with ⟨he, hc⟩ | ⟨x, w', hx, ho⟩
  · exact Or.inl ⟨he, hc.mono fun e w' ⟨v, hv, ho⟩ => ⟨v, hv, fin v w' ho⟩⟩
  · exact Or.inr ⟨x, w', hx, fin x w' ho⟩

end
end Go.M3
