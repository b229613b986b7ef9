/- How the walk is unfolded: the same predicates, their continuations out of simp's sight (it doesn't look into instance arguments). -/
import Derived.Test.YtgeocanldpolpaaDoorM3Walk
set_option linter.unusedVariables false
set_option linter.unusedSectionVars false
namespace Go.M3

class Post where
  q : Exit → AS → Prop
class Next where
  f : AS → Prop
class Kont where
  f : AV → AH → Prop

def W [Tabs] (P : Program) (A : An) (c : Code) [K : Post] (σ : AS) : Prop := wp3 P A c K.q σ
def WL [Tabs] (P : Program) (B : Nat → Bool) (ops : Array Oper) (i : Nat) (l : List Oper) [K : Next] (σ : AS) : Prop := wList P B ops K.f i l σ
/-- An operation and what follows. -/
def WO [Tabs] (P : Program) (sl : Bool) (d : Option Tmp) (op : Op) [K : Next] (σ : AS) : Prop :=
  match op with
  | .call ⟨.value f, args, _⟩ =>
    match σ.ev f with
    | .fn g first caps => wCall P g (first ++ args.toList.map σ.ev ++ caps) σ.h fun r H' => inSlots d σ.n ∧ K.f ((σ.withH H').puto d r)
    | _ => False
  | op => match aop P sl op σ.ev σ.h σ.h.next with
    | some (v, H') => inSlots d σ.n ∧ K.f ((σ.withH H').puto d v)
    | none => False
/-- What an operation leaves, and what follows. -/
def WV (r : Option (AV × AH)) (d : Option Tmp) (σ : AS) [K : Next] : Prop := match r with
    | some (v, H') => inSlots d σ.n ∧ K.f ((σ.withH H').puto d v)
    | none => False
/-- A guarded operation. -/
def WG (b : Option Bool) [T : Next] [F : Next] (σ : AS) : Prop := match b with
  | some b => (b = true → T.f σ) ∧ (b = false → F.f σ)
  | none => False
def WC [Tabs] (P : Program) (g : FuncId) (args : List AV) (H : AH) [K : Kont] : Prop := wCall P g args H K.f
/-- A function value, called. -/
def WF [Tabs] (P : Program) (f : AV) (args : List AV) (H : AH) [K : Kont] : Prop := match f with
  | .fn g first caps => wCall P g (first ++ args ++ caps) H K.f
  | _ => False
/-- A test. -/
def WT (v : AV) [T : Next] [F : Next] (σ : AS) : Prop := match v with
  | .bool t => (t = true → T.f σ) ∧ (t = false → F.f σ)
  | _ => False

@[simp] theorem omap_ite {α β : Type} {f : α → β} {c : Prop} [Decidable c] {a b : Option α} : Option.map f (if c then a else b) = if c then Option.map f a else Option.map f b := by by_cases h : c <;> simp [h]
@[simp] theorem bytes_append {a b : List UInt8} : (ByteArray.mk a.toArray ++ ByteArray.mk b.toArray : ByteArray) = ByteArray.mk (a ++ b).toArray := by
  apply ByteArray.ext
  simp
@[simp] theorem bytes_size {a : List UInt8} : (ByteArray.mk a.toArray).size = a.length := by simp [ByteArray.size]
attribute [simp] strOfNums
theorem wrap8 {n : Int} (h1 : 0 ≤ n) (h2 : n < 256) : IntKind.u8.wrap n = n := by
  simp [IntKind.wrap, IntKind.bits, IntKind.signed]; omega
theorem wrap64 {n : Int} (h1 : -9223372036854775808 ≤ n) (h2 : n ≤ 9223372036854775807) : IntKind.i64.wrap n = n := by
  simp [IntKind.wrap, IntKind.bits, IntKind.signed]; omega

def AH.more (H : AH) (n : Nat) : AH := ⟨H.next + n, H.blk⟩
section
variable {σ : AS} {H : AH} {d i x b n : Nat} {v : AV} {B : Blk}
@[simp] theorem put_t : (σ.put d v).t i = if i = d then v else σ.t i := rfl
@[simp] theorem put_n : (σ.put d v).n = σ.n := rfl
@[simp] theorem put_h : (σ.put d v).h = σ.h := rfl
@[simp] theorem withH_t : (σ.withH H).t = σ.t := rfl
@[simp] theorem withH_n : (σ.withH H).n = σ.n := rfl
@[simp] theorem withH_h : (σ.withH H).h = H := rfl
@[simp] theorem withH_same : σ.withH σ.h = σ := rfl
@[simp] theorem puto_some : σ.puto (some d) v = σ.put d v := rfl
@[simp] theorem puto_none : σ.puto none v = σ := rfl
@[simp] theorem put_withH : (σ.put d v).withH H = (σ.withH H).put d v := rfl
@[simp] theorem withH_withH {H' : AH} : (σ.withH H).withH H' = σ.withH H' := rfl
@[simp] theorem mk_withH {k : Nat} {t : Nat → AV} {H' : AH} : (⟨k, t, H⟩ : AS).withH H' = ⟨k, t, H'⟩ := rfl
@[simp] theorem new_blk : (H.new x B).blk b = if b = x then some B else H.blk b := rfl
@[simp] theorem set_blk : (H.set x B).blk b = if b = x then some B else H.blk b := rfl
@[simp] theorem kill_blk : (H.kill x).blk b = if b = x then none else H.blk b := rfl
@[simp] theorem more_blk : (H.more n).blk b = H.blk b := rfl
@[simp] theorem new_next : (H.new x B).next = if x < H.next then H.next else x + 1 := rfl
@[simp] theorem set_next : (H.set x B).next = H.next := rfl
@[simp] theorem kill_next : (H.kill x).next = H.next := rfl
@[simp] theorem more_next : (H.more n).next = H.next + n := rfl
def wantG (d : Option Tmp) (b : Bool) (σ : AS) : Option Bool :=
  match d with
  | none => some false
  | some d => match σ.t d with
    | .bool c => some (c == b)
    | .tup _ => some false
    | _ => none
@[simp ↓] theorem want_free {ops : Array Oper} {dst : Option Tmp} {op : Op} {ty : TypeId} {pos : String} {after : Array Edge} : want ops ⟨dst, op, ty, pos, after, none⟩ σ = some true := rfl
@[simp ↓] theorem want_guard {ops : Array Oper} {dst : Option Tmp} {op : Op} {ty : TypeId} {pos : String} {after : Array Edge} {j : Nat} {b : Bool} : want ops ⟨dst, op, ty, pos, after, some (j, b)⟩ σ = wantG ((ops[j]?).bind (·.dst)) b σ := by
  unfold want wantG
  rfl
attribute [simp] wantG
end
section
variable {n : Nat} {H : AH}
@[simp] theorem snap_bool {b : Bool} : snap (n + 1) H (.bool b) = some (.bool b) := (rfl)
@[simp] theorem snap_int {k : IntKind} {m : Int} : snap (n + 1) H (.int k m) = some (.int k m) := (rfl)
@[simp] theorem snap_str {s : ByteArray} : snap (n + 1) H (.str s) = some (.str s) := (rfl)
@[simp] theorem snap_nilp : snap (n + 1) H .nilp = some .nilp := (rfl)
@[simp] theorem snap_nilf : snap (n + 1) H .nilf = some .nilf := (rfl)
@[simp] theorem snap_niliface : snap (n + 1) H .niliface = some .niliface := (rfl)
@[simp] theorem snap_zsl : snap (n + 1) H .zsl = some (.lst []) := (rfl)
@[simp] theorem snap_agg {cs : List AV} : snap (n + 1) H (.agg cs) = (snapL (snap n H) cs).map .agg := (rfl)
@[simp] theorem snap_tup {cs : List AV} : snap (n + 1) H (.tup cs) = (snapL (snap n H) cs).map .tup := (rfl)
@[simp] theorem snap_lst {es : List (List AV)} : snap (n + 1) H (.lst es) = (snapLL (snap n H) es).map .lst := (rfl)
@[simp] theorem snap_rptr {cs : List AV} : snap (n + 1) H (.rptr cs) = (snapL (snap n H) cs).map .rptr := (rfl)
@[simp] theorem snap_own {b m off len : Nat} : snap (n + 1) H (.own b m off len) = (match H.blk b with
      | some B => if off + len ≤ B.es.length then (snapLL (snap n H) ((B.es.drop off).take len)).map .lst else none
      | none => none) := (rfl)
@[simp] theorem snap_ref {b i j : Nat} : snap (n + 1) H (.ref b i j) = (match H.blk b with
      | some B => match B.es[i]? with
        | some e => (snapL (snap n H) (e.drop j)).map .rptr
        | none => none
      | none => none) := (rfl)
@[simp] theorem snap_fn {f : FuncId} {a b : List AV} : snap (n + 1) H (.fn f a b) = (match snapL (snap n H) a, snapL (snap n H) b with
      | some a', some b' => some (.fn f a' b')
      | _, _ => none) := (rfl)
@[simp] theorem snapL_nil {f : AV → Option AV} : snapL f [] = some [] := (rfl)
@[simp] theorem snapL_cons {f : AV → Option AV} {c : AV} {cs : List AV} : snapL f (c :: cs) = (match f c, snapL f cs with
  | some a, some b => some (a :: b)
  | _, _ => none) := (rfl)
@[simp] theorem snapLL_nil {f : AV → Option AV} : snapLL f [] = some [] := (rfl)
@[simp] theorem snapLL_cons {f : AV → Option AV} {c : List AV} {cs : List (List AV)} : snapLL f (c :: cs) = (match snapL f c, snapLL f cs with
  | some a, some b => some (a :: b)
  | _, _ => none) := (rfl)
@[simp] theorem snapLL_map {α : Type} {f : AV → Option AV} {g : α → List AV} (h : ∀ x, snapL f (g x) = some (g x)) : ∀ (l : List α), snapLL f (l.map g) = some (l.map g)
  | [] => rfl
  | x :: l => by simp only [List.map_cons, snapLL_cons, h, snapLL_map h l]
end

section
variable [Tabs] {P : Program} {A : An} {σ σ' : AS} {B : Nat → Bool} {ops : Array Oper}

@[simp ↓] theorem W_skip {K : Post} : @W _ P A .skip K σ = K.q .normal σ := rfl
@[simp ↓] theorem W_ret {K : Post} : @W _ P A .ret K σ = K.q .ret σ := rfl
@[simp ↓] theorem W_exit {K : Post} {i : Nat} : @W _ P A (.exit i) K σ = K.q (.exit i) σ := rfl
@[simp ↓] theorem W_label {K : Post} {i : Nat} : @W _ P A (.label i) K σ = K.q .normal σ := rfl
@[simp ↓] theorem W_region {K : Post} {id : Nat} {l : List Oper} : @W _ P A (.region id l.toArray false) K σ = @WL _ P (A.sl id) l.toArray 0 l ⟨fun σ' => K.q .normal σ'⟩ σ := rfl
@[simp ↓] theorem W_seq {K : Post} {x y : Code} : @W _ P A (.seq x y) K σ = @W _ P A x ⟨fun e σ' => match e with | .normal => @W _ P A y K σ' | e => K.q e σ'⟩ σ := rfl
@[simp ↓] theorem W_block {K : Post} {id : Nat} {x : Code} : @W _ P A (.block id x) K σ = @W _ P A x ⟨fun e σ' => match e with | .exit i => if i = id then K.q .normal σ' else K.q (.exit i) σ' | e => K.q e σ'⟩ σ := rfl
@[simp ↓] theorem W_cond {K : Post} {c : Operand} {x y : Code} : @W _ P A (.cond c x y) K σ = @WT (σ.ev c) ⟨fun σ' => @W _ P A x K σ'⟩ ⟨fun σ' => @W _ P A y K σ'⟩ σ := rfl
@[simp high] theorem WT_true {T F : Next} : @WT (.bool true) T F σ = T.f σ := by simp [WT]
@[simp high] theorem WT_false {T F : Next} : @WT (.bool false) T F σ = F.f σ := by simp [WT]
@[simp low] theorem WT_bool {T F : Next} {t : Bool} : @WT (.bool t) T F σ = ((t = true → T.f σ) ∧ (t = false → F.f σ)) := rfl

@[simp ↓] theorem WL_nil {K : Next} {i : Nat} : @WL _ P B ops i [] K σ = K.f σ := rfl
@[simp ↓] theorem WL_cons {K : Next} {i : Nat} {o : Oper} {rest : List Oper} : @WL _ P B ops i (o :: rest) K σ = @WG (want ops o σ) ⟨fun σ => @WO _ P (B i) o.dst o.op ⟨fun σ' => @WL _ P B ops (i + 1) rest K σ'⟩ σ⟩ ⟨fun σ => inSlots o.dst σ.n ∧ @WL _ P B ops (i + 1) rest K (σ.puto o.dst (.tup []))⟩ σ := by
  show (match want ops o σ with | some b => _ | none => _) = _
  unfold WG
  cases h : want ops o σ with
  | none => rfl
  | some b => rfl
@[simp high] theorem WG_true {T F : Next} : @WG (some true) T F σ = T.f σ := by simp [WG]
@[simp high] theorem WG_false {T F : Next} : @WG (some false) T F σ = F.f σ := by simp [WG]
@[simp low] theorem WG_some {T F : Next} {b : Bool} : @WG (some b) T F σ = ((b = true → T.f σ) ∧ (b = false → F.f σ)) := rfl
@[simp ↓] theorem WO_call {sl : Bool} {d : Option Tmp} {K : Next} {f : Operand} {args : Array Operand} {tys : Array TypeId} : @WO _ P sl d (.call ⟨.value f, args, tys⟩) K σ = @WF _ P (σ.ev f) (args.toList.map σ.ev) σ.h ⟨fun r H' => inSlots d σ.n ∧ K.f ((σ.withH H').puto d r)⟩ := rfl
@[simp] theorem WF_fn {K : Kont} {g : FuncId} {first caps args : List AV} {H : AH} : @WF _ P (.fn g first caps) args H K = @WC _ P g (first ++ args ++ caps) H K := rfl
@[simp] theorem WV_none {d : Option Tmp} {K : Next} : @WV none d σ K = False := rfl
@[simp] theorem WV_ite {d : Option Tmp} {K : Next} {c : Prop} [Decidable c] {a b : Option (AV × AH)} : @WV (if c then a else b) d σ K = ((c → @WV a d σ K) ∧ (¬ c → @WV b d σ K)) := by by_cases h : c <;> simp [h]
@[simp high] theorem WV_ite_none {d : Option Tmp} {K : Next} {c : Prop} [Decidable c] {a : Option (AV × AH)} : @WV (if c then a else none) d σ K = (c ∧ @WV a d σ K) := by by_cases h : c <;> simp [h, WV]
@[simp high] theorem WV_none_ite {d : Option Tmp} {K : Next} {c : Prop} [Decidable c] {a : Option (AV × AH)} : @WV (if c then none else a) d σ K = (¬ c ∧ @WV a d σ K) := by by_cases h : c <;> simp [h, WV]
@[simp] theorem WV_some {d : Option Tmp} {K : Next} {v : AV} {H' : AH} : @WV (some (v, H')) d σ K = (inSlots d σ.n ∧ K.f ((σ.withH H').puto d v)) := rfl
section
variable {sl : Bool} {d : Option Tmp} {K : Next}
@[simp ↓] theorem WO_move {x : Operand} : @WO _ P sl d (.move x) K σ = (inSlots d σ.n ∧ K.f (σ.puto d (σ.ev x))) := rfl
@[simp ↓] theorem WO_assign {x : Operand} : @WO _ P sl d (.assign x) K σ = (inSlots d σ.n ∧ K.f (σ.puto d (σ.ev x))) := rfl
@[simp ↓] theorem WO_pick {c a b : Operand} : @WO _ P sl d (.pick c a b) K σ = @WV (aop P sl (.pick c a b) σ.ev σ.h σ.h.next) d σ K := rfl
@[simp ↓] theorem WO_binOp {op : BinOp} {t yt : TypeId} {x y : Operand} : @WO _ P sl d (.binOp op t x y yt) K σ = @WV (aop P sl (.binOp op t x y yt) σ.ev σ.h σ.h.next) d σ K := rfl
@[simp ↓] theorem WO_unOp {op : UnOp} {t : TypeId} {x : Operand} : @WO _ P sl d (.unOp op t x) K σ = @WV (aop P sl (.unOp op t x) σ.ev σ.h σ.h.next) d σ K := rfl
@[simp ↓] theorem WO_convert {s t : TypeId} {x : Operand} : @WO _ P sl d (.convert s t x) K σ = @WV (aop P sl (.convert s t x) σ.ev σ.h σ.h.next) d σ K := rfl
@[simp ↓] theorem WO_field {t : TypeId} {x : Operand} {f : Nat} : @WO _ P sl d (.field t x f) K σ = @WV (aop P sl (.field t x f) σ.ev σ.h σ.h.next) d σ K := rfl
@[simp ↓] theorem WO_fieldAddr {t : TypeId} {x : Operand} {f : Nat} : @WO _ P sl d (.fieldAddr t x f) K σ = @WV (aop P sl (.fieldAddr t x f) σ.ev σ.h σ.h.next) d σ K := rfl
@[simp ↓] theorem WO_index {t : TypeId} {x i : Operand} : @WO _ P sl d (.index t x i) K σ = @WV (aop P sl (.index t x i) σ.ev σ.h σ.h.next) d σ K := rfl
@[simp ↓] theorem WO_indexAddr {t : TypeId} {x i : Operand} : @WO _ P sl d (.indexAddr t x i) K σ = @WV (aop P sl (.indexAddr t x i) σ.ev σ.h σ.h.next) d σ K := rfl
@[simp ↓] theorem WO_slice {t : TypeId} {x : Operand} {lo hi mx : Option Operand} : @WO _ P sl d (.slice t x lo hi mx) K σ = @WV (aop P sl (.slice t x lo hi mx) σ.ev σ.h σ.h.next) d σ K := rfl
@[simp ↓] theorem WO_extract {x : Operand} {i : Nat} : @WO _ P sl d (.extract x i) K σ = @WV (aop P sl (.extract x i) σ.ev σ.h σ.h.next) d σ K := rfl
@[simp ↓] theorem WO_build {t : TypeId} {ps : Array (Nat × Operand)} : @WO _ P sl d (.build t ps) K σ = @WV (aop P sl (.build t ps) σ.ev σ.h σ.h.next) d σ K := rfl
@[simp ↓] theorem WO_makeFunc {fn : Fn} {a b : Array Operand} : @WO _ P sl d (.makeFunc fn a b) K σ = @WV (aop P sl (.makeFunc fn a b) σ.ev σ.h σ.h.next) d σ K := rfl
@[simp ↓] theorem WO_nilCheck {x : Operand} : @WO _ P sl d (.nilCheck x) K σ = @WV (aop P sl (.nilCheck x) σ.ev σ.h σ.h.next) d σ K := rfl
@[simp ↓] theorem WO_builtin {b : Builtin} {args : Array Operand} {tys : Array TypeId} : @WO _ P sl d (.call ⟨.builtin b, args, tys⟩) K σ = @WV (aop P sl (.call ⟨.builtin b, args, tys⟩) σ.ev σ.h σ.h.next) d σ K := by cases b <;> rfl
@[simp ↓] theorem WO_load {t : TypeId} {x : Operand} : @WO _ P sl d (.load t x) K σ = @WV (aop P sl (.load t x) σ.ev σ.h σ.h.next) d σ K := rfl
@[simp ↓] theorem WO_store {t : TypeId} {x y : Operand} : @WO _ P sl d (.store t x y) K σ = @WV (aop P sl (.store t x y) σ.ev σ.h σ.h.next) d σ K := rfl
@[simp ↓] theorem WO_alloc {t : TypeId} : @WO _ P sl d (.alloc t) K σ = @WV (aop P sl (.alloc t) σ.ev σ.h σ.h.next) d σ K := rfl
@[simp ↓] theorem WO_box {t : TypeId} {x : Operand} : @WO _ P sl d (.box t x) K σ = @WV (aop P sl (.box t x) σ.ev σ.h σ.h.next) d σ K := rfl
@[simp ↓] theorem WO_buildSlice {t : TypeId} {n : Nat} {ps : Array (Nat × Operand)} : @WO _ P sl d (.buildSlice t n ps) K σ = @WV (aop P sl (.buildSlice t n ps) σ.ev σ.h σ.h.next) d σ K := rfl
@[simp ↓] theorem WO_makeSlice {t : TypeId} {x y : Operand} : @WO _ P sl d (.makeSlice t x y) K σ = @WV (aop P sl (.makeSlice t x y) σ.ev σ.h σ.h.next) d σ K := rfl
end

/-- The walk over a statement of open order: operations in the text's order, with what they look at. -/
class Draw where
  f : AV → AH → Ft → Prop
def WD [Tabs] (P : Program) (B : Nat → Bool) (ops : Array Oper) (ex : List (Nat × Nat)) (base i : Nat) (l : List Oper) (fs : List Ft) [K : Next] (σ : AS) : Prop := dList P B ops ex base K.f i l fs σ
def WDO [Tabs] (P : Program) (sl : Bool) (base i : Nat) (op : Op) (σ : AS) [K : Draw] : Prop :=
  match op with
  | .call ⟨.value f, args, _⟩ =>
    match σ.ev f with
    | .fn g first caps => dCall P g (first ++ args.toList.map σ.ev ++ caps) base σ.h fun d => K.f d σ.h ⟨true, [], []⟩
    | _ => False
  | op => match aop P sl op σ.ev σ.h (base + i) with
    | some (v, H') => K.f v H' ⟨false, rdOf op σ.ev, wrOf op σ.ev (base + i)⟩
    | none => False
def WDV (r : Option (AV × AH)) (rd wr : List Nat) [K : Draw] : Prop := match r with
  | some (v, H') => K.f v H' ⟨false, rd, wr⟩
  | none => False
def WDC [Tabs] (P : Program) (g : FuncId) (args : List AV) (base : Nat) (H : AH) [K : Draw] : Prop := dCall P g args base H fun d => K.f d H ⟨true, [], []⟩
def WDF [Tabs] (P : Program) (f : AV) (args : List AV) (base : Nat) (H : AH) [K : Draw] : Prop := match f with
  | .fn g first caps => dCall P g (first ++ args ++ caps) base H fun d => K.f d H ⟨true, [], []⟩
  | _ => False
@[simp ↓] theorem W_draw {K : Post} {id : Nat} {l : List Oper} : @W _ P A (.region id l.toArray true) K σ = @WD _ P (A.sl id) l.toArray (A.ex id) σ.h.next 0 l [] ⟨fun σ' => K.q .normal σ'⟩ (σ.withH (σ.h.more l.length)) := rfl
@[simp ↓] theorem WD_nil {K : Next} {ex : List (Nat × Nat)} {base i : Nat} {fs : List Ft} : @WD _ P B ops ex base i [] fs K σ = K.f σ := rfl
@[simp ↓] theorem WD_cons {K : Next} {ex : List (Nat × Nat)} {base i : Nat} {fs : List Ft} {o : Oper} {rest : List Oper} : @WD _ P B ops ex base i (o :: rest) fs K σ = @WG (want ops o σ)
    ⟨fun σ => @WDO _ P (B i) base i o.op σ ⟨fun v H' ft => ftOk ops base ex i fs ft ∧ inSlots o.dst σ.n ∧ @WD _ P B ops ex base (i + 1) rest (fs ++ [ft]) K ((σ.withH H').puto o.dst v)⟩⟩
    ⟨fun σ => inSlots o.dst σ.n ∧ @WD _ P B ops ex base (i + 1) rest (fs ++ [Ft.none]) K (σ.puto o.dst (.tup []))⟩ σ := by
  show (match want ops o σ with | some b => _ | none => _) = _
  unfold WG
  cases h : want ops o σ with
  | none => rfl
  | some b => rfl
@[simp] theorem WDF_fn {K : Draw} {g : FuncId} {first caps args : List AV} {base : Nat} {H : AH} : @WDF _ P (.fn g first caps) args base H K = @WDC _ P g (first ++ args ++ caps) base H K := rfl
@[simp] theorem WDV_none {rd wr : List Nat} {K : Draw} : @WDV none rd wr K = False := rfl
@[simp] theorem WDV_ite {rd wr : List Nat} {K : Draw} {c : Prop} [Decidable c] {a b : Option (AV × AH)} : @WDV (if c then a else b) rd wr K = ((c → @WDV a rd wr K) ∧ (¬ c → @WDV b rd wr K)) := by by_cases h : c <;> simp [h]
@[simp high] theorem WDV_ite_none {rd wr : List Nat} {K : Draw} {c : Prop} [Decidable c] {a : Option (AV × AH)} : @WDV (if c then a else none) rd wr K = (c ∧ @WDV a rd wr K) := by by_cases h : c <;> simp [h, WDV]
@[simp high] theorem WDV_none_ite {rd wr : List Nat} {K : Draw} {c : Prop} [Decidable c] {a : Option (AV × AH)} : @WDV (if c then none else a) rd wr K = (¬ c ∧ @WDV a rd wr K) := by by_cases h : c <;> simp [h, WDV]
@[simp] theorem WDV_some {rd wr : List Nat} {K : Draw} {v : AV} {H' : AH} : @WDV (some (v, H')) rd wr K = K.f v H' ⟨false, rd, wr⟩ := rfl
section
variable {sl : Bool} {base i : Nat} {K : Draw}
@[simp ↓] theorem WDO_call {f : Operand} {args : Array Operand} {tys : Array TypeId} : @WDO _ P sl base i (.call ⟨.value f, args, tys⟩) σ K = @WDF _ P (σ.ev f) (args.toList.map σ.ev) base σ.h K := rfl
@[simp ↓] theorem WDO_move {x : Operand} : @WDO _ P sl base i (.move x) σ K = K.f (σ.ev x) σ.h ⟨false, [], []⟩ := rfl
@[simp ↓] theorem WDO_assign {x : Operand} : @WDO _ P sl base i (.assign x) σ K = K.f (σ.ev x) σ.h ⟨false, [], []⟩ := rfl
@[simp ↓] theorem WDO_pick {c a b : Operand} : @WDO _ P sl base i (.pick c a b) σ K = @WDV (aop P sl (.pick c a b) σ.ev σ.h (base + i)) (rdOf (.pick c a b) σ.ev) (wrOf (.pick c a b) σ.ev (base + i)) K := rfl
@[simp ↓] theorem WDO_binOp {op : BinOp} {t yt : TypeId} {x y : Operand} : @WDO _ P sl base i (.binOp op t x y yt) σ K = @WDV (aop P sl (.binOp op t x y yt) σ.ev σ.h (base + i)) (rdOf (.binOp op t x y yt) σ.ev) (wrOf (.binOp op t x y yt) σ.ev (base + i)) K := rfl
@[simp ↓] theorem WDO_unOp {op : UnOp} {t : TypeId} {x : Operand} : @WDO _ P sl base i (.unOp op t x) σ K = @WDV (aop P sl (.unOp op t x) σ.ev σ.h (base + i)) (rdOf (.unOp op t x) σ.ev) (wrOf (.unOp op t x) σ.ev (base + i)) K := rfl
@[simp ↓] theorem WDO_convert {s t : TypeId} {x : Operand} : @WDO _ P sl base i (.convert s t x) σ K = @WDV (aop P sl (.convert s t x) σ.ev σ.h (base + i)) (rdOf (.convert s t x) σ.ev) (wrOf (.convert s t x) σ.ev (base + i)) K := rfl
@[simp ↓] theorem WDO_field {t : TypeId} {x : Operand} {f : Nat} : @WDO _ P sl base i (.field t x f) σ K = @WDV (aop P sl (.field t x f) σ.ev σ.h (base + i)) (rdOf (.field t x f) σ.ev) (wrOf (.field t x f) σ.ev (base + i)) K := rfl
@[simp ↓] theorem WDO_fieldAddr {t : TypeId} {x : Operand} {f : Nat} : @WDO _ P sl base i (.fieldAddr t x f) σ K = @WDV (aop P sl (.fieldAddr t x f) σ.ev σ.h (base + i)) (rdOf (.fieldAddr t x f) σ.ev) (wrOf (.fieldAddr t x f) σ.ev (base + i)) K := rfl
@[simp ↓] theorem WDO_index {t : TypeId} {x j : Operand} : @WDO _ P sl base i (.index t x j) σ K = @WDV (aop P sl (.index t x j) σ.ev σ.h (base + i)) (rdOf (.index t x j) σ.ev) (wrOf (.index t x j) σ.ev (base + i)) K := rfl
@[simp ↓] theorem WDO_indexAddr {t : TypeId} {x j : Operand} : @WDO _ P sl base i (.indexAddr t x j) σ K = @WDV (aop P sl (.indexAddr t x j) σ.ev σ.h (base + i)) (rdOf (.indexAddr t x j) σ.ev) (wrOf (.indexAddr t x j) σ.ev (base + i)) K := rfl
@[simp ↓] theorem WDO_slice {t : TypeId} {x : Operand} {lo hi mx : Option Operand} : @WDO _ P sl base i (.slice t x lo hi mx) σ K = @WDV (aop P sl (.slice t x lo hi mx) σ.ev σ.h (base + i)) (rdOf (.slice t x lo hi mx) σ.ev) (wrOf (.slice t x lo hi mx) σ.ev (base + i)) K := rfl
@[simp ↓] theorem WDO_extract {x : Operand} {j : Nat} : @WDO _ P sl base i (.extract x j) σ K = @WDV (aop P sl (.extract x j) σ.ev σ.h (base + i)) (rdOf (.extract x j) σ.ev) (wrOf (.extract x j) σ.ev (base + i)) K := rfl
@[simp ↓] theorem WDO_build {t : TypeId} {ps : Array (Nat × Operand)} : @WDO _ P sl base i (.build t ps) σ K = @WDV (aop P sl (.build t ps) σ.ev σ.h (base + i)) (rdOf (.build t ps) σ.ev) (wrOf (.build t ps) σ.ev (base + i)) K := rfl
@[simp ↓] theorem WDO_makeFunc {fn : Fn} {a b : Array Operand} : @WDO _ P sl base i (.makeFunc fn a b) σ K = @WDV (aop P sl (.makeFunc fn a b) σ.ev σ.h (base + i)) (rdOf (.makeFunc fn a b) σ.ev) (wrOf (.makeFunc fn a b) σ.ev (base + i)) K := rfl
@[simp ↓] theorem WDO_nilCheck {x : Operand} : @WDO _ P sl base i (.nilCheck x) σ K = @WDV (aop P sl (.nilCheck x) σ.ev σ.h (base + i)) (rdOf (.nilCheck x) σ.ev) (wrOf (.nilCheck x) σ.ev (base + i)) K := rfl
@[simp ↓] theorem WDO_load {t : TypeId} {x : Operand} : @WDO _ P sl base i (.load t x) σ K = @WDV (aop P sl (.load t x) σ.ev σ.h (base + i)) (rdOf (.load t x) σ.ev) (wrOf (.load t x) σ.ev (base + i)) K := rfl
@[simp ↓] theorem WDO_store {t : TypeId} {x y : Operand} : @WDO _ P sl base i (.store t x y) σ K = @WDV (aop P sl (.store t x y) σ.ev σ.h (base + i)) (rdOf (.store t x y) σ.ev) (wrOf (.store t x y) σ.ev (base + i)) K := rfl
@[simp ↓] theorem WDO_alloc {t : TypeId} : @WDO _ P sl base i (.alloc t) σ K = @WDV (aop P sl (.alloc t) σ.ev σ.h (base + i)) (rdOf (.alloc t) σ.ev) (wrOf (.alloc t) σ.ev (base + i)) K := rfl
@[simp ↓] theorem WDO_box {t : TypeId} {x : Operand} : @WDO _ P sl base i (.box t x) σ K = @WDV (aop P sl (.box t x) σ.ev σ.h (base + i)) (rdOf (.box t x) σ.ev) (wrOf (.box t x) σ.ev (base + i)) K := rfl
@[simp ↓] theorem WDO_buildSlice {t : TypeId} {n : Nat} {ps : Array (Nat × Operand)} : @WDO _ P sl base i (.buildSlice t n ps) σ K = @WDV (aop P sl (.buildSlice t n ps) σ.ev σ.h (base + i)) (rdOf (.buildSlice t n ps) σ.ev) (wrOf (.buildSlice t n ps) σ.ev (base + i)) K := rfl
@[simp ↓] theorem WDO_makeSlice {t : TypeId} {x y : Operand} : @WDO _ P sl base i (.makeSlice t x y) σ K = @WDV (aop P sl (.makeSlice t x y) σ.ev σ.h (base + i)) (rdOf (.makeSlice t x y) σ.ev) (wrOf (.makeSlice t x y) σ.ev (base + i)) K := rfl
@[simp ↓] theorem WDO_builtin {b : Builtin} {args : Array Operand} {tys : Array TypeId} : @WDO _ P sl base i (.call ⟨.builtin b, args, tys⟩) σ K = @WDV (aop P sl (.call ⟨.builtin b, args, tys⟩) σ.ev σ.h (base + i)) (rdOf (.call ⟨.builtin b, args, tys⟩) σ.ev) (wrOf (.call ⟨.builtin b, args, tys⟩) σ.ev (base + i)) K := by cases b <;> rfl
end
theorem WDC_flat {K : Draw} {g : FuncId} {args args' : List AV} {base : Nat} {H : AH} {d : AV} (h : VCall P g args' d) (N : Nat) (hs : snapL (snap N (below base H)) args = some args') (hf : d.flat = true) (k : K.f d H ⟨true, [], []⟩) : @WDC _ P g args base H K := ⟨d, .flat N args' hs hf h, k⟩
theorem WDC_view {K : Draw} {g : FuncId} {args args' : List AV} {base : Nat} {H : AH} {d : AV} (h : VCall P g args' d) (N : Nat) (hs : snapL (snap N (below 0 H)) args = some args') (k : K.f d H ⟨true, [], []⟩) : @WDC _ P g args base H K := ⟨d, .view N args' hs h, k⟩

theorem W_mono {K K' : Post} {x : Code} {σ : AS} (hq : ∀ e σ, K.q e σ → K'.q e σ) (h : @W _ P A x K σ) : @W _ P A x K' σ := wp3_mono x _ _ hq σ h

def An.none : An := ⟨fun _ _ => false, fun _ => []⟩
def An.sealed : An := ⟨fun _ _ => true, fun _ => []⟩
omit [Tabs] in @[simp] theorem An.none_sl {i j : Nat} : An.none.sl i j = false := rfl
omit [Tabs] in @[simp] theorem An.none_ex {i : Nat} : An.none.ex i = [] := rfl
omit [Tabs] in @[simp] theorem An.sealed_sl {i j : Nat} : An.sealed.sl i j = true := rfl
omit [Tabs] in @[simp] theorem An.sealed_ex {i : Nat} : An.sealed.ex i = [] := rfl

theorem W_loop {K : Post} {x : Code} (I : Nat → AS → Prop) (n0 : Nat) (h0 : I n0 σ) (h : ∀ n σ', I n σ' → @W _ P A x ⟨fun e σ'' => match e with | .normal => ∃ n', n' < n ∧ I n' σ'' | e => K.q e σ''⟩ σ') : @W _ P A (.loop x) K σ := ⟨I, n0, h0, h⟩

theorem W_once {K : Post} {x : Code} (h : @W _ P A x ⟨fun e σ'' => match e with | .normal => False | e => K.q e σ''⟩ σ) : @W _ P A (.loop x) K σ := by
  refine W_loop (fun _ σ' => σ' = σ) 0 rfl fun n σ' hσ => ?_
  subst hσ
  have e : (fun (e : Exit) (σ'' : AS) => (match e with | .normal => False | e => K.q e σ'' : Prop)) = fun e σ'' => (match e with | .normal => False | e => K.q e σ'') := rfl
  revert h
  exact W_mono (fun e σ'' he => by cases e <;> first | exact he.elim | exact he)

/-- A loop that counts up. -/
theorem W_up {K : Post} {x : Code} (J : Nat → AS → Prop) (N : Nat) (h0 : J 0 σ) (h : ∀ k σ', k ≤ N → J k σ' → @W _ P A x ⟨fun e σ'' => match e with | .normal => k < N ∧ J (k + 1) σ'' | e => K.q e σ''⟩ σ') : @W _ P A (.loop x) K σ := by
  refine W_loop (fun n σ' => ∃ k, k ≤ N ∧ n = N - k ∧ J k σ') N ⟨0, Nat.zero_le _, rfl, h0⟩ fun n σ' hi => ?_
  obtain ⟨k, hk, rfl, hj⟩ := hi
  refine W_mono (fun e σ'' he => ?_) (h k σ' hk hj)
  cases e with
  | normal => exact ⟨N - (k + 1), by have := he.1; omega, k + 1, he.1, rfl, he.2⟩
  | _ => exact he

theorem WC_of {K : Kont} {g : FuncId} {args : List AV} {H : AH} {r : AV} {H' : AH} (h : HCall P g args H r H') (k : K.f r H') : @WC _ P g args H K := ⟨r, H', h, k⟩
/-- A call of what has no memory in its result. -/
theorem call_flat {K : Kont} {g : FuncId} {args args' : List AV} {H : AH} {d : AV} (h : VCall P g args' d) (N : Nat) (hs : snapL (snap N H) args = some args') (hf : d.flat = true) (k : K.f d H) : @WC _ P g args H K := WC_of (.of_flat N hs hf h) k
theorem call_view {K : Kont} {g : FuncId} {args args' : List AV} {H : AH} {d : AV} (h : VCall P g args' d) (N : Nat) (hs : snapL (snap N ⟨H.next, fun _ => none⟩) args = some args') (k : K.f d H) : @WC _ P g args H K := WC_of (.of_view N hs h) k

@[simp] theorem wFun_eq {c : Code} {ntmps : Nat} {rs : Array ResultVar} {args : List AV} {H : AH} {K : AV → AH → Prop} : wFun P A c ntmps rs args H K = @W _ P A c ⟨fun e σ => match e with
    | .normal => ∃ r, aResults P rs σ = some r ∧ K r σ.h
    | .ret => ∃ r, aResults P rs σ = some r ∧ K r σ.h
    | _ => False⟩ ⟨args.length + (ntmps - args.length), slots args, H⟩ := rfl

attribute [simp] aBytes byteNums rdOf wrOf blkOf below ftOk dis Ft.none aop aval AS.ev slots aLen ofConst aBinOp aBin aInt aStr aEq inSlots aResults aResL aRes1 aUn aConv aField aFieldAddr aIndex aIndexAddr aSlice bound aMax aMin aLoad aLoadCells aStore aAlloc aBox AV.solid AV.cells AV.one isAggT aPart AH.empty splice lookup aFill aBuild aBuildSlice aFillE aMakeSlice aAppend srcEls notInt allOne infoAll isConst AV.flat
end
end Go.M3
