/- Operations that look at values alone. -/
import Derived.Test.YtgeocanldpolpaaDoorM3Core
import Derived.Laws.StructEq
set_option linter.unusedVariables false
namespace Go.M3

def aInt (op : BinOp) (k : IntKind) (a b : Int) : Option AV :=
  match op with
  | .add => some (.int k (k.wrap (a + b)))
  | .sub => some (.int k (k.wrap (a - b)))
  | .mul => some (.int k (k.wrap (a * b)))
  | .quo => if b = 0 then none else some (.int k (k.wrap (a.tdiv b)))
  | .rem => if b = 0 then none else some (.int k (a.tmod b))
  | .and => some (.int k (k.wrap (BitVec.ofInt k.bits a &&& BitVec.ofInt k.bits b).toNat))
  | .or => some (.int k (k.wrap (BitVec.ofInt k.bits a ||| BitVec.ofInt k.bits b).toNat))
  | .xor => some (.int k (k.wrap (BitVec.ofInt k.bits a ^^^ BitVec.ofInt k.bits b).toNat))
  | .eql => some (.bool (a == b))
  | .neq => some (.bool (a != b))
  | .lss => some (.bool (decide (a < b)))
  | .leq => some (.bool (decide (a ≤ b)))
  | .gtr => some (.bool (decide (a > b)))
  | .geq => some (.bool (decide (a ≥ b)))
  | _ => none

def aStr (op : BinOp) (a b : ByteArray) : Option AV :=
  match op with
  | .add => if ((a.size + b.size : Nat) : Int) > 9223372036854775807 then none else some (.str (a ++ b))
  | .eql => some (.bool (a.toList == b.toList))
  | .neq => some (.bool (!(a.toList == b.toList)))
  | .lss => some (.bool (Op.bytesLess a.toList b.toList))
  | .leq => some (.bool (Op.bytesLess a.toList b.toList || a.toList == b.toList))
  | .gtr => some (.bool (!(Op.bytesLess a.toList b.toList || a.toList == b.toList)))
  | .geq => some (.bool (!(Op.bytesLess a.toList b.toList)))
  | _ => none

/-- Equality with nil, of pointers and of interface values; of bools. -/
def aEq (P : Program) (t : TypeId) (a b : AV) : Option Bool :=
  match P.underlying t, a, b with
  | some .bool, .bool x, .bool y => some (x == y)
  | some (.pointer _), .nilp, .nilp => some true
  | some (.pointer _), .nilp, .ref _ _ _ => some false
  | some (.pointer _), .nilp, .rptr _ => some false
  | some (.pointer _), .ref _ _ _, .nilp => some false
  | some (.pointer _), .rptr _, .nilp => some false
  | some (.interface _), .niliface, .iface _ _ => some false
  | some (.interface _), .iface _ _, .niliface => some false
  | some (.func _ _ _), .fn _ _ _, .nilf => some false
  | some (.func _ _ _), .nilf, .fn _ _ _ => some false
  | some (.func _ _ _), .nilf, .nilf => some true
  | _, _, _ => none

def isShift : BinOp → Bool
  | .shl | .shr => true
  | _ => false

def aBin (P : Program) (op : BinOp) (t : TypeId) (a b : AV) : Option AV :=
  match a, b with
  | .int k x, .int k' y =>
    match op with
    | .shl => if y < 0 then none else some (.int k (k.wrap (x * 2 ^ (min y.toNat k.bits))))
    | .shr => if y < 0 then none else some (.int k (x.fdiv (2 ^ (min y.toNat k.bits))))
    | op => if k = k' then aInt op k x y else none
  | .str x, .str y => aStr op x y
  | a, b =>
    match op with
    | .eql => (aEq P t a b).map .bool
    | .neq => (aEq P t a b).map fun r => .bool (!r)
    | _ => none

section
variable {P : Program} {w : World} {O : Nat → Prop} {β : Map}

theorem run_und {t : TypeId} {d : TypeDesc} (h : P.underlying t = some d) (w' : World) : (underlying t).run P w' = .ok d w' := by
  simp [underlying, h]

theorem run_size {t : TypeId} (h : P.cellsOf t ≠ 0) (w' : World) : (sizeOf t).run P w' = .ok (P.cellsOf t) w' := by
  unfold Program.cellsOf at h ⊢
  cases hi : P.info? t with
  | none => simp [hi] at h
  | some i => simp [sizeOf, typeInfo, hi]

def Val (P : Program) (w : World) (O : Nat → Prop) (β : Map) (s : Sem Value) (v : AV) : Prop := ∃ x, (∀ w', s.run P w' = .ok x w') ∧ VR w O β v x

theorem aInt_sound {op : BinOp} {k : IntKind} {a b : Int} {v : AV} {xt : TypeId} (h : aInt op k a b = some v) : Val P w O β (Go.binOp op xt (.int k a) (.int k b)) v := by
  cases op <;> simp only [aInt] at h <;> first
    | (obtain rfl := Option.some.inj h; first | exact ⟨_, fun w' => by simp only [Go.binOp, ne_eq, not_true_eq_false, if_false]; rfl, .int _ _⟩ | exact ⟨_, fun w' => by simp only [Go.binOp, ne_eq, not_true_eq_false, if_false]; rfl, .bool _⟩)
    | (split at h
       · cases h
       · rename_i hb
         obtain rfl := Option.some.inj h
         exact ⟨_, fun w' => by simp only [Go.binOp, ne_eq, not_true_eq_false, if_false, Op.intDiv, hb]; rfl, .int _ _⟩)
    | cases h

theorem aStr_sound {op : BinOp} {a b : ByteArray} {v : AV} {xt : TypeId} (h : aStr op a b = some v) : Val P w O β (Go.binOp op xt (.string a) (.string b)) v := by
  cases op <;> simp only [aStr] at h <;> first
    | (obtain rfl := Option.some.inj h; exact ⟨_, fun w' => rfl, .bool _⟩)
    | (split at h
       · cases h
       · rename_i hb
         obtain rfl := Option.some.inj h
         have hb' : ¬ ((a.size + b.size : Nat) : Int) > IntKind.i64.max := by
           have : IntKind.i64.max = 9223372036854775807 := by decide
           rw [this]; exact hb
         exact ⟨_, fun w' => by simp only [Go.binOp, Op.stringOp]; rw [if_neg hb']; rfl, .str _⟩)
    | cases h
theorem aEq_sound {t : TypeId} {a b : AV} {r : Bool} {x y : Value} (h : aEq P t a b = some r) (hx : VR w O β a x) (hy : VR w O β b y) (w' : World) :
    (Op.equal t x y).run P w' = .ok r w' := by
  have hd : Op.equal t x y = Op.equalIn (9999 + 1) t x y := rfl
  rw [hd]
  generalize 9999 = d
  unfold aEq at h
  split at h <;> first
    | (cases h; done)
    | (rename_i hu
       cases hx <;> cases hy <;> obtain rfl := Option.some.inj h <;> simp [Op.equalIn, run_und hu])
end
end Go.M3
