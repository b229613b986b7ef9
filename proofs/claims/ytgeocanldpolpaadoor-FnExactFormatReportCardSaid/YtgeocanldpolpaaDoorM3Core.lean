/- The abstract values of the walk and how they stand to the machine's values. -/
import Derived.Calls
import Derived.Laws.Entries
import Derived.Laws.AppendOwn
import Derived.Below
set_option linter.unusedVariables false
namespace Go.M3

/-- Abstract values. 'lst': a slice that nobody writes; its elements are lists of cells. 'own': a slice over a block of the call's own. 'ref': a pointer to such a block's cell. 'rptr': a pointer that is only read through. -/
inductive AV where
  | bool (b : Bool)
  | int (k : IntKind) (n : Int)
  | str (s : ByteArray)
  | agg (cs : List AV)
  | lst (es : List (List AV))
  | zsl
  | own (b m off len : Nat)
  | nilp
  | ref (b i j : Nat)
  | rptr (cs : List AV)
  | fn (f : FuncId) (first caps : List AV)
  | nilf
  | niliface
  | iface (t : TypeId) (v : AV)
  | tup (vs : List AV)
  | any
  deriving Inhabited

def AV.cells : AV → List AV
  | .agg cs => cs
  | v => [v]

/-- One cell of memory can hold it. -/
def AV.one : AV → Bool
  | .agg _ | .tup _ | .any => false
  | _ => true

structure Blk where
  whole : Bool
  es : List (List AV)

structure AH where
  next : Nat
  blk : Nat → Option Blk

def AH.empty : AH := ⟨0, fun _ => none⟩
def AH.new (H : AH) (x : Nat) (B : Blk) : AH := ⟨if x < H.next then H.next else x + 1, fun b => if b = x then some B else H.blk b⟩
def AH.set (H : AH) (b : Nat) (B : Blk) : AH := ⟨H.next, fun c => if c = b then some B else H.blk c⟩
def AH.kill (H : AH) (b : Nat) : AH := ⟨H.next, fun c => if c = b then none else H.blk c⟩

/-- Where a block of the call's own lies: block, first cell, cells an element, room in elements. -/
structure Loc where
  k : Nat
  o : Nat
  m : Nat
  cp : Nat

abbrev Map := Nat → Option Loc

def cellAt? (es : List (List AV)) (i j : Nat) : Option AV := (es[i]?).bind (·[j]?)

inductive VR (w : World) (O : Nat → Prop) (β : Map) : AV → Value → Prop
  | bool (b : Bool) : VR w O β (.bool b) (.bool b)
  | int (k : IntKind) (n : Int) : VR w O β (.int k n) (.int k n)
  | str (s : ByteArray) : VR w O β (.str s) (.string s)
  | agg (cs : List AV) (a : Array Value) (hl : a.size = cs.length) (h : ∀ i c, cs[i]? = some c → VR w O β c (a.getD i undef)) : VR w O β (.agg cs) (.agg a)
  | lst (es : List (List AV)) (k o cap m : Nat) (x : Nat → Nat → Value) (hcap : es.length ≤ cap) (hO : ¬ O k) (hk : k < w.heap.size) (hm : ∀ e ∈ es, e.length = m)
      (hc : ∀ i j c, cellAt? es i j = some c → w.cell? ⟨k, o + i * m + j, none⟩ = some (x i j))
      (h : ∀ i j c, cellAt? es i j = some c → VR w O β c (x i j)) : VR w O β (.lst es) (.slice (some ⟨k, o, none⟩) es.length cap)
  | lst0 (a : Option Addr) (cap : Nat) : VR w O β (.lst []) (.slice a 0 cap)
  | zsl (a : Option Addr) : VR w O β .zsl (.slice a 0 0)
  | own (b m off len : Nat) (L : Loc) (hb : β b = some L) (hm : L.m = m) (hc : off + len ≤ L.cp) : VR w O β (.own b m off len) (.slice (some ⟨L.k, L.o + off * m, none⟩) len (L.cp - off))
  | nilp : VR w O β .nilp (.pointer none)
  | ref (b i j : Nat) (L : Loc) (hb : β b = some L) : VR w O β (.ref b i j) (.pointer (some ⟨L.k, L.o + i * L.m + j, none⟩))
  | rptr (cs : List AV) (k o : Nat) (x : Nat → Value) (hO : ¬ O k) (hk : k < w.heap.size)
      (hc : ∀ j c, cs[j]? = some c → w.cell? ⟨k, o + j, none⟩ = some (x j))
      (h : ∀ j c, cs[j]? = some c → VR w O β c (x j)) : VR w O β (.rptr cs) (.pointer (some ⟨k, o, none⟩))
  | fn (f : FuncId) (first caps : List AV) (a1 a2 : Array Value) (h1 : a1.size = first.length) (h2 : a2.size = caps.length)
      (h3 : ∀ i c, first[i]? = some c → VR w O β c (a1.getD i undef)) (h4 : ∀ i c, caps[i]? = some c → VR w O β c (a2.getD i undef)) : VR w O β (.fn f first caps) (.func (.func f) a1 a2)
  | nilf : VR w O β .nilf .nilFunc
  | niliface : VR w O β .niliface .nilIface
  | iface (t : TypeId) (v : AV) (x : Value) (h : VR w O β v x) : VR w O β (.iface t v) (.iface t x)
  | tup (vs : List AV) (a : Array Value) (hl : a.size = vs.length) (h : ∀ i c, vs[i]? = some c → VR w O β c (a.getD i undef)) : VR w O β (.tup vs) (.tuple a)
  | any (x : Value) : VR w O β .any x

/-- A list of values, in order. -/
def VRs (w : World) (O : Nat → Prop) (β : Map) (vs : List AV) (a : Array Value) : Prop := a.size = vs.length ∧ ∀ i c, vs[i]? = some c → VR w O β c (a.getD i undef)

structure HR (w : World) (O : Nat → Prop) (β : Map) (H : AH) : Prop where
  live : ∀ b B, H.blk b = some B → ∃ L arr ty, β b = some L ∧ O L.k ∧ w.heap[L.k]? = some (.cells arr ty (0, 0)) ∧ (∀ e ∈ B.es, e.length = L.m) ∧ B.es.length ≤ L.cp ∧
    L.o + L.cp * L.m ≤ arr.size ∧ (B.whole = true → B.es.length = L.cp) ∧ (∀ i j c, cellAt? B.es i j = some c → VR w O β c (arr.getD (L.o + i * L.m + j) undef))
  inj : ∀ b b' B B' L L', H.blk b = some B → H.blk b' = some B' → β b = some L → β b' = some L' → L.k = L'.k → b = b'
  lt : ∀ k, O k → k < w.heap.size
  next : ∀ b, H.next ≤ b → β b = none

/-- What a step leaves. -/
structure ST (w : World) (O : Nat → Prop) (β : Map) (w' : World) (O' : Nat → Prop) (β' : Map) : Prop where
  os : w'.os = w.os
  tape : w'.tape = w.tape
  output : w'.output = w.output
  size : w.heap.size ≤ w'.heap.size
  keep : ∀ k, k < w.heap.size → ¬ O k → w'.heap[k]? = w.heap[k]?
  rest : ∀ k, k < w.heap.size → (∀ b L, β b = some L → L.k ≠ k) → w'.heap[k]? = w.heap[k]?
  own : ∀ k, k < w.heap.size → (O' k ↔ O k)
  map : ∀ b L, β b = some L → β' b = some L
  src : ∀ b L, β' b = some L → w.heap.size ≤ L.k ∨ ∃ c M, β c = some M ∧ M.k = L.k

theorem ST.refl (w : World) (O : Nat → Prop) (β : Map) : ST w O β w O β := ⟨rfl, rfl, rfl, Nat.le_refl _, fun _ _ _ => rfl, fun _ _ _ => rfl, fun _ _ => Iff.rfl, fun _ _ h => h, fun b L h => Or.inr ⟨b, L, h, rfl⟩⟩

theorem ST.trans {w w1 w2 : World} {O O1 O2 : Nat → Prop} {β β1 β2 : Map} (h : ST w O β w1 O1 β1) (k : ST w1 O1 β1 w2 O2 β2) : ST w O β w2 O2 β2 where
  os := k.os.trans h.os
  tape := k.tape.trans h.tape
  output := k.output.trans h.output
  size := Nat.le_trans h.size k.size
  keep := fun b hb hO => (k.keep b (Nat.lt_of_lt_of_le hb h.size) (fun hx => hO ((h.own b hb).1 hx))).trans (h.keep b hb hO)
  rest := fun b hb hno => (k.rest b (Nat.lt_of_lt_of_le hb h.size) (fun c L hc hk => by
    rcases h.src c L hc with h1 | ⟨d, M, hd, hm⟩
    · omega
    · exact hno d M hd (hm.trans hk))).trans (h.rest b hb hno)
  own := fun b hb => (k.own b (Nat.lt_of_lt_of_le hb h.size)).trans (h.own b hb)
  map := fun b L hb => k.map b L (h.map b L hb)
  src := fun b L hb => by
    rcases k.src b L hb with h1 | ⟨c, M, hc, hk⟩
    · exact Or.inl (Nat.le_trans h.size h1)
    · rcases h.src c M hc with h2 | ⟨d, N, hd, hn⟩
      · exact Or.inl (by omega)
      · exact Or.inr ⟨d, N, hd, hn.trans hk⟩

theorem cell_of_heap {w w' : World} {a : Addr} (h : w'.heap[a.block]? = w.heap[a.block]?) : w'.cell? a = w.cell? a := by simp [World.cell?, h]

theorem VR.mono {w w' : World} {O O' : Nat → Prop} {β β' : Map} (hst : ST w O β w' O' β') {v : AV} {x : Value} (h : VR w O β v x) : VR w' O' β' v x := by
  induction h with
  | bool b => exact .bool b
  | int k n => exact .int k n
  | str s => exact .str s
  | agg cs a hl h ih => exact .agg cs a hl ih
  | lst es k o cap m x hcap hO hk hm hc h ih =>
    exact .lst es k o cap m x hcap (fun hx => hO ((hst.own k hk).1 hx)) (Nat.lt_of_lt_of_le hk hst.size) hm (fun i j c hcc => by rw [cell_of_heap (hst.keep k hk hO)]; exact hc i j c hcc) ih
  | lst0 a cap => exact .lst0 a cap
  | zsl a => exact .zsl a
  | own b m off len L hb hm hc => exact .own b m off len L (hst.map b L hb) hm hc
  | nilp => exact .nilp
  | ref b i j L hb => exact .ref b i j L (hst.map b L hb)
  | rptr cs k o x hO hk hc h ih =>
    exact .rptr cs k o x (fun hx => hO ((hst.own k hk).1 hx)) (Nat.lt_of_lt_of_le hk hst.size) (fun j c hcc => by rw [cell_of_heap (hst.keep k hk hO)]; exact hc j c hcc) ih
  | fn f first caps a1 a2 h1 h2 h3 h4 ih3 ih4 => exact .fn f first caps a1 a2 h1 h2 ih3 ih4
  | nilf => exact .nilf
  | niliface => exact .niliface
  | iface t v x h ih => exact .iface t v x ih
  | tup vs a hl h ih => exact .tup vs a hl ih
  | any x => exact .any x

theorem VRs.mono {w w' : World} {O O' : Nat → Prop} {β β' : Map} (hst : ST w O β w' O' β') {vs : List AV} {a : Array Value} (h : VRs w O β vs a) : VRs w' O' β' vs a :=
  ⟨h.1, fun i c hc => (h.2 i c hc).mono hst⟩

/-- Constants of the code. -/
def ofConst : Value → AV
  | .bool b => .bool b
  | .int k n => .int k n
  | .string s => .str s
  | .pointer none => .nilp
  | .slice none 0 0 => .zsl
  | .nilFunc => .nilf
  | .nilIface => .niliface
  | _ => .any

theorem VR.ofConst (w : World) (O : Nat → Prop) (β : Map) (v : Value) : VR w O β (M3.ofConst v) v := by
  unfold M3.ofConst
  split <;> first | exact .bool _ | exact .int _ _ | exact .str _ | exact .nilp | exact .zsl _ | exact .nilf | exact .niliface | exact .any _

/-- The state of a walk: the frame's slots and the call's own memory. -/
structure AS where
  n : Nat
  t : Nat → AV
  h : AH

def AS.put (σ : AS) (d : Nat) (v : AV) : AS := ⟨σ.n, fun i => if i = d then v else σ.t i, σ.h⟩
def AS.puto (σ : AS) (d : Option Nat) (v : AV) : AS := match d with | some d => σ.put d v | none => σ
def AS.withH (σ : AS) (H : AH) : AS := ⟨σ.n, σ.t, H⟩

def AS.ev (σ : AS) : Operand → AV
  | .tmp t => σ.t t
  | .const v => ofConst v
  | .func f => .fn f [] []
  | .global _ => .any

/-- How a walk's state stands to the machine's. -/
structure SR (a : Act) (w : World) (O : Nat → Prop) (β : Map) (σ : AS) : Prop where
  size : a.tmps.size = σ.n
  tmp : ∀ i, VR w O β (σ.t i) (a.tmps.getD i undef)
  heap : HR w O β σ.h
  defers : a.defers = []

theorem SR.ev {a : Act} {w : World} {O : Nat → Prop} {β : Map} {σ : AS} (h : SR a w O β σ) (x : Operand) : VR w O β (σ.ev x) (a.eval x) := by
  cases x with
  | tmp t => exact h.tmp t
  | const v => exact VR.ofConst w O β v
  | func f => exact .fn f [] [] #[] #[] rfl rfl (fun i c hc => by simp at hc) (fun i c hc => by simp at hc)
  | global g => exact .any _

theorem SR.put {a : Act} {w : World} {O : Nat → Prop} {β : Map} {σ : AS} (h : SR a w O β σ) {d : Nat} (hd : d < σ.n) {v : AV} {x : Value} (hv : VR w O β v x) : SR (a.put (some d) x) w O β (σ.put d v) where
  size := by simp [Act.put, AS.put, h.size]
  tmp := fun i => by
    have hds : d < a.tmps.size := by rw [h.size]; exact hd
    by_cases hi : i = d
    · subst hi
      simpa [Act.put, AS.put, hds] using hv
    · have := h.tmp i
      simpa [Act.put, AS.put, hi, Array.getElem?_setIfInBounds_ne (Ne.symm hi)] using this
  heap := h.heap
  defers := h.defers

theorem SR.step {a : Act} {w w' : World} {O O' : Nat → Prop} {β β' : Map} {σ : AS} (h : SR a w O β σ) (hst : ST w O β w' O' β') {H : AH} (hH : HR w' O' β' H) : SR a w' O' β' (σ.withH H) where
  size := h.size
  tmp := fun i => (h.tmp i).mono hst
  heap := hH
  defers := h.defers

end Go.M3
