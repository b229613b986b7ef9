/- The operations that look at values alone, all of them. -/
import Derived.Test.YtgeocanldpolpaaDoorM3Val4
import Derived.Laws.Tables
set_option linter.unusedVariables false
namespace Go.M3

def aUn (op : UnOp) (x : AV) : Option AV :=
  match op, x with
  | .not, .bool b => some (.bool (!b))
  | .neg, .int k n => some (.int k (k.wrap (0 - n)))
  | _, _ => none

/-- Fields of a struct that are integers, bools and strings, compared. -/
def aEqFields (P : Program) (xs ys : List AV) : List Field → Option Bool
  | [] => some true
  | f :: fs =>
    if f.name = "_" then aEqFields P xs ys fs else
    match P.underlying f.type, xs[f.offset]?, ys[f.offset]? with
    | some (.int _), some (.int k a), some (.int k' b) => if k = k' then (aEqFields P xs ys fs).map fun r => (a == b) && r else none
    | some .bool, some (.bool a), some (.bool b) => (aEqFields P xs ys fs).map fun r => (a == b) && r
    | some .string, some (.str a), some (.str b) => (aEqFields P xs ys fs).map fun r => (a.toList == b.toList) && r
    | _, _, _ => none

def aEqStruct (P : Program) (t : TypeId) (xs ys : List AV) : Option Bool :=
  match P.underlying t with
  | some (.struct fs) => if P.stoodInHeld t = false ∧ P.eqGuardType P.depth t = false then aEqFields P xs ys fs.toList else none
  | _ => none

def isConst : Operand → Bool
  | .const _ => true
  | _ => false

/-- '==' and the like, with what the model asks ahead of it. -/
def aBinOp (P : Program) (op : BinOp) (t : TypeId) (x y : Operand) (a b : AV) : Option AV :=
  match a, b with
  | .agg xs, .agg ys =>
    match op with
    | .eql => (aEqStruct P t xs ys).map .bool
    | .neq => (aEqStruct P t xs ys).map fun r => .bool (!r)
    | _ => none
  | .niliface, .niliface =>
    match P.underlying t with
    | some (.interface _) =>
      if isConst x || isConst y then
        match op with
        | .eql => some (.bool true)
        | .neq => some (.bool false)
        | _ => none
      else none
    | _ => none
  | .any, _ => none
  | _, .any => none
  | a, b => aBin P op t a b

def lookup (σ : Operand → AV) (ps : Array (Nat × Operand)) : List (Nat × AV) := ps.toList.map fun p => (p.1, σ p.2)

def aval (P : Program) (op : Op) (σ : Operand → AV) : Option AV :=
  match op with
  | .move x => some (σ x)
  | .assign x => some (σ x)
  | .pick c a b => match σ c with | .bool t => some (if t then σ a else σ b) | _ => none
  | .binOp op t x y _ => aBinOp P op t x y (σ x) (σ y)
  | .unOp op _ x => aUn op (σ x)
  | .convert s d x => aConv P s d (σ x)
  | .field t x f => aField P t (σ x) f
  | .fieldAddr t x f => aFieldAddr P t (σ x) f
  | .index t x i => aIndex P t (σ x) (σ i)
  | .indexAddr t x i => aIndexAddr P t (σ x) (σ i)
  | .slice t x lo hi none => aSlice P t (σ x) (lo.map σ) (hi.map σ)
  | .extract x i => match σ x with | .tup vs => vs[i]? | _ => none
  | .build t ps => aBuild P t (lookup σ ps)
  | .makeFunc (.func f) first caps => some (.fn f (first.toList.map σ) (caps.toList.map σ))
  | .nilCheck x => match σ x with | .ref b i j => some (.ref b i j) | .rptr cs => some (.rptr cs) | .fn f a b => some (.fn f a b) | _ => none
  | .call ⟨.builtin .len, args, tys⟩ => match args.toList, tys.toList with | [x], [t] => aLen P t (σ x) | _, _ => none
  | .call ⟨.builtin .max, args, _⟩ => aMax (args.toList.map σ)
  | .call ⟨.builtin .min, args, _⟩ => aMin (args.toList.map σ)
  | _ => none

section
variable {P : Program} {w : World} {O : Nat → Prop} {β : Map}

theorem part_cell {t : TypeId} {a : Array Value} {off : Nat} {p : Value} (h : isAggT P t = some false) (hp : a.toList[off]? = some p) (w' : World) : (part t a off).run P w' = .ok p w' := by
  have : a[off]? = some p := by simpa using hp
  simp [part, run_isAgg h, this]

theorem aEqFields_sound {xs ys : List AV} {a b : Array Value} (hx : VC w O β xs a.toList) (hy : VC w O β ys b.toList) (d : Nat) (w' : World) : ∀ (fs : List Field) (r : Bool), aEqFields P xs ys fs = some r →
    (Op.eqFields (d + 1) a b fs).run P w' = .ok r w'
  | [], r, h => by simp [aEqFields] at h; simp [Op.eqFields, h]
  | f :: fs, r, h => by
    unfold aEqFields at h
    unfold Op.eqFields
    split at h
    · rename_i hn
      simp only [hn, ne_eq, not_true_eq_false, if_false]
      exact aEqFields_sound hx hy d w' fs r h
    · rename_i hn
      simp only [ne_eq, hn, not_false_eq_true, if_true]
      split at h
      · rename_i k0 k x k' y hu hcx hcy
        split at h
        · rename_i hk
          subst hk
          obtain ⟨p, hp, hvp⟩ := hx.2 _ _ hcx
          obtain ⟨q, hq, hvq⟩ := hy.2 _ _ hcy
          cases hvp
          cases hvq
          have hag : isAggT P f.type = some false := by simp [isAggT, hu]
          cases hr : aEqFields P xs ys fs with
          | none => simp [hr] at h
          | some r' =>
            simp only [hr, Option.map_some, Option.some.injEq] at h
            have ih := aEqFields_sound hx hy d w' fs r' hr
            simp only [Sem.run_bind, part_cell hag hp, part_cell hag hq, Result.andThen_ok, run_equalIn_int w' d f.type k k0 x y hu, Sem.run_ite, ih, Sem.run_pure]
            subst h
            cases (x == y) <;> simp
        · cases h
      · rename_i x y hu hcx hcy
        obtain ⟨p, hp, hvp⟩ := hx.2 _ _ hcx
        obtain ⟨q, hq, hvq⟩ := hy.2 _ _ hcy
        cases hvp
        cases hvq
        have hag : isAggT P f.type = some false := by simp [isAggT, hu]
        cases hr : aEqFields P xs ys fs with
        | none => simp [hr] at h
        | some r' =>
          simp only [hr, Option.map_some, Option.some.injEq] at h
          have ih := aEqFields_sound hx hy d w' fs r' hr
          simp only [Sem.run_bind, part_cell hag hp, part_cell hag hq, Result.andThen_ok, run_equalIn_bool' w' d f.type x y hu, Sem.run_ite, ih, Sem.run_pure]
          subst h
          cases (x == y) <;> simp
      · rename_i x y hu hcx hcy
        obtain ⟨p, hp, hvp⟩ := hx.2 _ _ hcx
        obtain ⟨q, hq, hvq⟩ := hy.2 _ _ hcy
        cases hvp
        cases hvq
        have hag : isAggT P f.type = some false := by simp [isAggT, hu]
        cases hr : aEqFields P xs ys fs with
        | none => simp [hr] at h
        | some r' =>
          simp only [hr, Option.map_some, Option.some.injEq] at h
          have ih := aEqFields_sound hx hy d w' fs r' hr
          simp only [Sem.run_bind, part_cell hag hp, part_cell hag hq, Result.andThen_ok, run_equalIn_string w' d f.type x y hu, Sem.run_ite, ih, Sem.run_pure]
          subst h
          cases (x.toList == y.toList) <;> simp
      · cases h

theorem aEqStruct_sound {t : TypeId} {xs ys : List AV} {a b : Array Value} {r : Bool} (h : aEqStruct P t xs ys = some r) (hx : VC w O β xs a.toList) (hy : VC w O β ys b.toList) (op : BinOp) (x y : Operand) (w' : World) :
    (Go.eqGuard op t x y (.agg a) (.agg b)).run P w' = .ok () w' ∧ (Op.equalIn 10000 t (.agg a) (.agg b)).run P w' = .ok r w' := by
  unfold aEqStruct at h
  split at h
  · rename_i fs hu
    split at h
    · rename_i hc
      have hf : P.fieldsOf t = fs := by simp [Program.fieldsOf, hu]
      refine ⟨run_eqGuard_agg w' op t x y a b hc.2, ?_⟩
      rw [show (10000 : Nat) = 9999 + 1 from rfl, run_equalIn_struct w' 9999 t a b (by rw [hf]; exact hu) hc.1, hf]
      exact aEqFields_sound hx hy 9998 w' fs.toList r h
    · cases h
  · cases h

theorem VC.of_agg {cs : List AV} {y : Value} (h : VR w O β (.agg cs) y) : ∃ a, y = .agg a ∧ VC w O β cs a.toList := by
  cases h with
  | agg _ a hl hs => exact ⟨a, rfl, VC.of_array hl hs⟩

theorem eqGuard_ok {op : BinOp} {t : TypeId} {x y : Operand} {a b : AV} {p q : Value} (ha : VR w O β a p) (hb : VR w O β b q) (h1 : a ≠ .any) (h2 : b ≠ .any) (h3 : ∀ xs ys, a = .agg xs → b = .agg ys → False)
    (h4 : a = .niliface → b = .niliface → (isConst x || isConst y) = true) (w' : World) : (Go.eqGuard op t x y p q).run P w' = .ok () w' := by
  cases op <;> first
    | rfl
    | (unfold Go.eqGuard
       cases ha <;> cases hb <;> first
         | rfl
         | (exact (h3 _ _ rfl rfl).elim)
         | (exact (h1 rfl).elim)
         | (exact (h2 rfl).elim)
         | (have := h4 rfl rfl
            cases x <;> cases y <;> first | rfl | (simp [isConst] at this)))

theorem equal_binOp {t : TypeId} {a b : AV} {p q : Value} {r : Bool} (h : aEq P t a b = some r) (ha : VR w O β a p) (hb : VR w O β b q) (w' : World) :
    (Go.binOp .eql t p q).run P w' = .ok (.bool r) w' ∧ (Go.binOp .neq t p q).run P w' = .ok (.bool (!r)) w' := by
  have he := aEq_sound h ha hb w'
  have hx : Go.binOp .eql t p q = (do pure (.bool (← Op.equal t p q))) ∧ Go.binOp .neq t p q = (do pure (.bool (!(← Op.equal t p q)))) := by
    unfold aEq at h
    split at h <;> first
      | (cases h; done)
      | (cases ha <;> cases hb <;> exact ⟨rfl, rfl⟩)
  rw [hx.1, hx.2]
  simp [he]

theorem aBin_sound {op : BinOp} {t : TypeId} {a b v : AV} {p q : Value} (h : aBin P op t a b = some v) (ha : VR w O β a p) (hb : VR w O β b q) : Val P w O β (Go.binOp op t p q) v := by
  unfold aBin at h
  split at h
  · rename_i k x k' y
    cases ha
    cases hb
    split at h
    · split at h
      · cases h
      · rename_i hy
        obtain rfl := Option.some.inj h
        exact ⟨.int k _, fun w' => by simp only [Go.binOp, Op.shift, hy, if_false]; rfl, .int _ _⟩
    · split at h
      · cases h
      · rename_i hy
        obtain rfl := Option.some.inj h
        exact ⟨.int k _, fun w' => by simp only [Go.binOp, Op.shift, hy, if_false]; rfl, .int _ _⟩
    · split at h
      · rename_i hk
        subst hk
        exact aInt_sound h
      · cases h
  · cases ha
    cases hb
    exact aStr_sound h
  · split at h
    · cases he : aEq P t a b with
      | none => simp [he] at h
      | some r =>
        rw [he] at h
        obtain rfl := Option.some.inj h
        exact ⟨_, fun w' => (equal_binOp he ha hb w').1, .bool _⟩
    · cases he : aEq P t a b with
      | none => simp [he] at h
      | some r =>
        rw [he] at h
        obtain rfl := Option.some.inj h
        exact ⟨_, fun w' => (equal_binOp he ha hb w').2, .bool _⟩
    · cases h
end
end Go.M3
