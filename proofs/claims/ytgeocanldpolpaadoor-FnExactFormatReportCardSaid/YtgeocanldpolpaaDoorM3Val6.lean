/- 'aval' is sound. -/
import Derived.Test.YtgeocanldpolpaaDoorM3Val5
set_option linter.unusedVariables false
namespace Go.M3

section
variable {P : Program} {w : World} {O : Nat → Prop} {β : Map}

theorem aUn_sound {op : UnOp} {x v : AV} {y : Value} (h : aUn op x = some v) (hx : VR w O β x y) : Val P w O β (Op.unary op y) v := by
  unfold aUn at h
  split at h
  · obtain rfl := Option.some.inj h; cases hx; exact ⟨_, fun w' => rfl, .bool _⟩
  · obtain rfl := Option.some.inj h; cases hx; exact ⟨_, fun w' => rfl, .int _ _⟩
  · cases h

theorem aBinOp_sound {op : BinOp} {t : TypeId} {x y : Operand} {a b v : AV} {p q : Value} (h : aBinOp P op t x y a b = some v) (ha : VR w O β a p) (hb : VR w O β b q) :
    Val P w O β (do Go.eqGuard op t x y p q; Go.binOp op t p q) v := by
  unfold aBinOp at h
  split at h
  · rename_i xs ys
    obtain ⟨c, rfl, hc⟩ := VC.of_agg ha
    obtain ⟨d, rfl, hd⟩ := VC.of_agg hb
    split at h
    · cases he : aEqStruct P t xs ys with
      | none => simp [he] at h
      | some r =>
        rw [he] at h
        obtain rfl := Option.some.inj h
        refine ⟨.bool r, fun w' => ?_, .bool _⟩
        obtain ⟨h1, h2⟩ := aEqStruct_sound he hc hd .eql x y w'
        simp [h1, run_eql_struct, h2]
    · cases he : aEqStruct P t xs ys with
      | none => simp [he] at h
      | some r =>
        rw [he] at h
        obtain rfl := Option.some.inj h
        refine ⟨.bool (!r), fun w' => ?_, .bool _⟩
        obtain ⟨h1, h2⟩ := aEqStruct_sound he hc hd .neq x y w'
        simp [h1, run_neq_struct, h2]
    · cases h
  · cases ha
    cases hb
    split at h
    · rename_i ms hu
      split at h
      · rename_i hcn
        have hg : ∀ w', (Go.eqGuard op t x y .nilIface .nilIface).run P w' = .ok () w' := eqGuard_ok (w := w) (O := O) (β := β) .niliface .niliface (by simp) (by simp) (by simp) (fun _ _ => hcn)
        have he : ∀ w', (Op.equal t .nilIface .nilIface).run P w' = .ok true w' := by
          intro w'
          have hd : Op.equal t .nilIface .nilIface = Op.equalIn (9999 + 1) t .nilIface .nilIface := rfl
          rw [hd]
          generalize 9999 = d
          simp [Op.equalIn, run_und hu]
        split at h
        · obtain rfl := Option.some.inj h
          exact ⟨.bool true, fun w' => by simp [hg, Go.binOp, he], .bool _⟩
        · obtain rfl := Option.some.inj h
          exact ⟨.bool false, fun w' => by simp [hg, Go.binOp, he], .bool _⟩
        · cases h
      · cases h
    · cases h
  · cases h
  · cases h
  · rename_i h1 h2 h3 h4
    obtain ⟨z, hz, hv⟩ := aBin_sound h ha hb
    refine ⟨z, fun w' => ?_, hv⟩
    have hg := eqGuard_ok (P := P) (op := op) (t := t) (x := x) (y := y) ha hb (fun e => h1 e) (fun e => h2 e) (fun xs ys e1 e2 => h3 xs ys e1 e2) (fun e1 e2 => (h4 e1 e2).elim) w'
    simp [hg, hz]

theorem aMax_sound {l : List AV} {v : AV} {a : Array Value} {tys : Array TypeId} {ty : TypeId} (h : aMax l = some v) (ha : VC w O β l a.toList) : Val P w O β (Builtin.max_ tys ty a) v := by
  unfold aMax at h
  split at h
  · split at h
    · rename_i k x k' y hk
      subst hk
      obtain rfl := Option.some.inj h
      have hl := ha.1
      obtain ⟨p, hp, hvp⟩ := ha.2 0 _ rfl
      obtain ⟨q, hq, hvq⟩ := ha.2 1 _ rfl
      cases hvp
      cases hvq
      have : a.toList = [.int k x, .int k y] := by
        match hh : a.toList, hl, hp, hq with
        | [p, q], _, hp, hq => simp at hp hq; simp [hp, hq]
      refine ⟨_, fun w' => ?_, .int _ _⟩
      simp [Builtin.max_, this, Builtin.max2]
    · cases h
  · split at h
    · rename_i k x k' y k'' z hk
      obtain ⟨rfl, rfl⟩ := hk
      obtain rfl := Option.some.inj h
      have hl := ha.1
      obtain ⟨p, hp, hvp⟩ := ha.2 0 _ rfl
      obtain ⟨q, hq, hvq⟩ := ha.2 1 _ rfl
      obtain ⟨r, hr, hvr⟩ := ha.2 2 _ rfl
      cases hvp
      cases hvq
      cases hvr
      have : a.toList = [.int k x, .int k y, .int k z] := by
        match hh : a.toList, hl, hp, hq, hr with
        | [p, q, r], _, hp, hq, hr => simp at hp hq hr; simp [hp, hq, hr]
      refine ⟨_, fun w' => ?_, .int _ _⟩
      simp [Builtin.max_, this, Builtin.max2]
    · cases h
  · cases h

theorem aMin_sound {l : List AV} {v : AV} {a : Array Value} {tys : Array TypeId} {ty : TypeId} (h : aMin l = some v) (ha : VC w O β l a.toList) : Val P w O β (Builtin.min_ tys ty a) v := by
  unfold aMin at h
  split at h
  · split at h
    · rename_i k x k' y hk
      subst hk
      obtain rfl := Option.some.inj h
      have hl := ha.1
      obtain ⟨p, hp, hvp⟩ := ha.2 0 _ rfl
      obtain ⟨q, hq, hvq⟩ := ha.2 1 _ rfl
      cases hvp
      cases hvq
      have : a.toList = [.int k x, .int k y] := by
        match hh : a.toList, hl, hp, hq with
        | [p, q], _, hp, hq => simp at hp hq; simp [hp, hq]
      refine ⟨_, fun w' => ?_, .int _ _⟩
      simp [Builtin.min_, this, Builtin.min2]
    · cases h
  · split at h
    · rename_i k x k' y k'' z hk
      obtain ⟨rfl, rfl⟩ := hk
      obtain rfl := Option.some.inj h
      have hl := ha.1
      obtain ⟨p, hp, hvp⟩ := ha.2 0 _ rfl
      obtain ⟨q, hq, hvq⟩ := ha.2 1 _ rfl
      obtain ⟨r, hr, hvr⟩ := ha.2 2 _ rfl
      cases hvp
      cases hvq
      cases hvr
      have : a.toList = [.int k x, .int k y, .int k z] := by
        match hh : a.toList, hl, hp, hq, hr with
        | [p, q, r], _, hp, hq, hr => simp at hp hq hr; simp [hp, hq, hr]
      refine ⟨_, fun w' => ?_, .int _ _⟩
      simp [Builtin.min_, this, Builtin.min2]
    · cases h
  · cases h

theorem zeroCells_sound {t : TypeId} {z : List AV} (h : zeroCellsOf P t = some z) : ∃ i v, P.info? t = some i ∧ i.zero = some v ∧ VC w O β z v.cells.toList := by
  unfold zeroCellsOf at h
  split at h
  · rename_i i hi
    split at h
    · rename_i v hv
      obtain rfl := Option.some.inj h
      refine ⟨i, v, hi, hv, by simp, fun j c hc => ?_⟩
      simp only [List.getElem?_map] at hc
      cases hx : v.cells.toList[j]? with
      | none => simp [hx] at hc
      | some x =>
        simp only [hx, Option.map_some, Option.some.injEq] at hc
        subst hc
        exact ⟨x, rfl, VR.ofConst w O β x⟩
    · cases h
  · cases h

theorem places_of {fs : Array Field} (h : infoAll P fs = true) : fs.toList.mapM (fun f => (P.info? f.type).map fun i => (f.offset, i.size)) = some (fs.toList.map fun f => (f.offset, P.cellsOf f.type)) := by
  have hall : ∀ f ∈ fs.toList, (P.info? f.type).isSome = true := by
    intro f hf
    have := Array.all_eq_true_iff_forall_mem.1 h f (by simpa using hf)
    exact this
  generalize fs.toList = l at hall ⊢
  induction l with
  | nil => rfl
  | cons f l ih =>
    obtain ⟨i, hi⟩ := Option.isSome_iff_exists.1 (hall f (by simp))
    simp [List.mapM_cons, hi, ih (fun g hg => hall g (by simp [hg])), Program.cellsOf]

theorem aBuild_sound {t : TypeId} {parts : List (Nat × AV)} {v : AV} {vals : Array (Nat × Value)} (h : aBuild P t parts = some v)
    (hp : parts.length = vals.toList.length ∧ ∀ (i : Nat) (p : Nat × AV), parts[i]? = some p → ∃ x, vals.toList[i]? = some (p.1, x) ∧ VR w O β p.2 x) : Val P w O β (Instr.build t vals) v := by
  unfold aBuild at h
  split at h
  · rename_i fs z hu hz
    obtain ⟨i, zv, hi, hzv, hzc⟩ := zeroCells_sound (w := w) (O := O) (β := β) hz
    split at h
    · rename_i hall
      cases hf : aFill (fun i => (fs[i]?).map fun f => (f.offset, P.cellsOf f.type)) z parts with
      | none => simp [hf] at h
      | some r =>
        rw [hf] at h
        obtain rfl := Option.some.inj h
        obtain ⟨b, hb, hbr⟩ := aFill_sound hf hzc hp
        have hbuilt : P.built t vals.toList = some b := by
          unfold Program.built
          simp only [hi, hu, hzv, places_of hall]
          rw [← hb]
          congr 1
          funext i
          simp
        have := VC.to_array hbr
        exact ⟨.agg b, fun w' => run_build w' t vals b hbuilt, .agg _ _ this.1 this.2⟩
    · cases h
  · rename_i n e z hu hz
    obtain ⟨i, zv, hi, hzv, hzc⟩ := zeroCells_sound (w := w) (O := O) (β := β) hz
    split at h
    · rename_i hne
      cases hf : aFill (fun i => some (i * P.cellsOf e, P.cellsOf e)) z parts with
      | none => simp [hf] at h
      | some r =>
        rw [hf] at h
        obtain rfl := Option.some.inj h
        obtain ⟨b, hb, hbr⟩ := aFill_sound hf hzc hp
        have hie : ∃ ie, P.info? e = some ie ∧ ie.size = P.cellsOf e := by
          unfold Program.cellsOf at hne ⊢
          cases hx : P.info? e with
          | none => simp [hx] at hne
          | some ie => exact ⟨ie, rfl, rfl⟩
        obtain ⟨ie, hie, hsz⟩ := hie
        have hbuilt : P.built t vals.toList = some b := by
          unfold Program.built
          simp only [hi, hu, hzv, hie, hsz]
          exact hb
        have := VC.to_array hbr
        exact ⟨.agg b, fun w' => run_build w' t vals b hbuilt, .agg _ _ this.1 this.2⟩
    · cases h
  · cases h
end
end Go.M3
