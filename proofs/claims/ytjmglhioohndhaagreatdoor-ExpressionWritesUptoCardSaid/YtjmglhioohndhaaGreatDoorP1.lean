/- The abstract layer: immutable trees, local blocks, how they stand to values and worlds of the model. -/
import Derived.Below
import Derived.Deep.Draws
import Derived.Laws.OwnMore
import Derived.Laws.Slices
import Derived.Laws.MakeOwn
import Derived.Laws.Panics
import Derived.Laws.Rows
import Derived.Lib.ConvBytes
import Derived.Orders
import Derived.Laws.Small
import Derived.Laws.Strings
import Derived.Laws.Tables
import Derived.Maps.AppendAt
import Derived.Laws.IdiomStrings
import Derived.Laws.StructEq
import Derived.Laws.Pointers

namespace Go.Proofs.Am
open Go Go.RowKit

/-- Data: what is never written again. -/
inductive DV where
  | int (k : IntKind) (n : Int)
  | bool (b : Bool)
  | str (s : ByteArray)
  | pnil
  | pim (els : List DV) (i fo : Nat)
  | sim (els : List DV)
  | snil
  | fn (f : FuncId) (caps : List DV)
  | fnil
  | iface (t : TypeId) (v : DV)
  | inil
  | agg (cs : List DV)
  | tup (vs : List DV)

instance : Inhabited DV := ⟨.inil⟩

def DV.cells : DV → List DV
  | .agg cs => cs
  | v => [v]

def big : Nat := 4294967296

/-- A value of the model is this data: in world w, all its memory among the blocks that A allows. -/
inductive DRep (w : World) (A : Nat → Prop) : DV → Value → Prop where
  | int (k : IntKind) (n : Int) : DRep w A (.int k n) (.int k n)
  | bool (b : Bool) : DRep w A (.bool b) (.bool b)
  | str (s : ByteArray) (h : s.size ≤ big) : DRep w A (.str s) (.string s)
  | pnil : DRep w A .pnil (.pointer none)
  | pim (els : List DV) (i fo c o es : Nat) (val : Nat → Nat → Value) (hi : i < els.length) (hA : A c)
      (hes : ∀ j, j < els.length → (els.getD j .inil).cells.length = es)
      (hc : ∀ j m, j < els.length → m < es → w.cell? ⟨c, o + j * es + m, none⟩ = some (val j m))
      (hone : ∀ j m, j < els.length → m < es → (val j m).oneCell' = true)
      (hv : ∀ j m, j < els.length → m < es → DRep w A ((els.getD j .inil).cells.getD m .inil) (val j m)) :
      DRep w A (.pim els i fo) (.pointer (some ⟨c, o + i * es + fo, none⟩))
  | sim (els : List DV) (a : Addr) (cap c o es : Nat) (val : Nat → Nat → Value) (hb : els.length ≤ big) (hcap : els.length ≤ cap)
      (ha : 0 < els.length → a = ⟨c, o, none⟩ ∧ A c)
      (hes : ∀ j, j < els.length → (els.getD j .inil).cells.length = es)
      (hc : ∀ j m, j < els.length → m < es → w.cell? ⟨c, o + j * es + m, none⟩ = some (val j m))
      (hone : ∀ j m, j < els.length → m < es → (val j m).oneCell' = true)
      (hv : ∀ j m, j < els.length → m < es → DRep w A ((els.getD j .inil).cells.getD m .inil) (val j m)) :
      DRep w A (.sim els) (.slice (some a) els.length cap)
  | snil : DRep w A .snil (.slice none 0 0)
  | fn (f : FuncId) (caps : List DV) (vals : Array Value) (hl : vals.size = caps.length)
      (h : ∀ i, i < caps.length → DRep w A (caps.getD i .inil) (vals.getD i undef)) : DRep w A (.fn f caps) (.func (.func f) #[] vals)
  | fnil : DRep w A .fnil .nilFunc
  | iface (t : TypeId) (v : DV) (x : Value) (h : DRep w A v x) : DRep w A (.iface t v) (.iface t x)
  | inil : DRep w A .inil .nilIface
  | agg (cs : List DV) (vs : Array Value) (hl : vs.size = cs.length) (hone : ∀ i, i < cs.length → (vs.getD i undef).oneCell' = true)
      (h : ∀ i, i < cs.length → DRep w A (cs.getD i .inil) (vs.getD i undef)) : DRep w A (.agg cs) (.agg vs)
  | tup (cs : List DV) (vs : Array Value) (hl : vs.size = cs.length)
      (h : ∀ i, i < cs.length → DRep w A (cs.getD i .inil) (vs.getD i undef)) : DRep w A (.tup cs) (.tuple vs)

/-- What is allowed reads as it did. -/
def Keeps (w w' : World) (A A' : Nat → Prop) : Prop := ∀ c, A c → A' c ∧ w'.heap[c]? = w.heap[c]?

theorem Keeps.refl (w : World) (A : Nat → Prop) : Keeps w w A A := fun _ h => ⟨h, rfl⟩
theorem Keeps.trans {w w1 w2 : World} {A A1 A2 : Nat → Prop} (h : Keeps w w1 A A1) (k : Keeps w1 w2 A1 A2) : Keeps w w2 A A2 :=
  fun c hc => let ⟨a, b⟩ := h c hc; let ⟨a', b'⟩ := k c a; ⟨a', b'.trans b⟩

theorem Keeps.cell {w w' : World} {A A' : Nat → Prop} (k : Keeps w w' A A') {c i : Nat} (h : A c) : w'.cell? ⟨c, i, none⟩ = w.cell? ⟨c, i, none⟩ :=
  World.cell?_of_block (w := w) (w' := w') (a := ⟨c, i, none⟩) (k c h).2

theorem DRep.mono {w w' : World} {A A' : Nat → Prop} (k : Keeps w w' A A') {d : DV} {v : Value} (h : DRep w A d v) : DRep w' A' d v := by
  induction h with
  | int k n => exact .int k n
  | bool b => exact .bool b
  | str s h => exact .str s h
  | pnil => exact .pnil
  | pim els i fo c o es val hi hA hes hc hone hv ih =>
    exact .pim els i fo c o es val hi (k c hA).1 hes (fun j m hj hm => (k.cell hA).trans (hc j m hj hm)) hone ih
  | sim els a cap c o es val hb hcap ha hes hc hone hv ih =>
    exact .sim els a cap c o es val hb hcap (fun h => ⟨(ha h).1, (k c (ha h).2).1⟩) hes (fun j m hj hm => (k.cell (ha (by omega)).2).trans (hc j m hj hm)) hone ih
  | snil => exact .snil
  | fn f caps vals hl h ih => exact .fn f caps vals hl ih
  | fnil => exact .fnil
  | iface t v x h ih => exact .iface t v x ih
  | inil => exact .inil
  | agg cs vs hl hone h ih => exact .agg cs vs hl hone ih
  | tup cs vs hl h ih => exact .tup cs vs hl ih

/-- Values of a walk: data, or what leads to local blocks. A block's name is a number; es: cells of an element. zc: a slice, not nil, without elements and without room. -/
inductive AV where
  | d (v : DV)
  | loc (b es i fo : Nat)
  | slc (b es off len : Nat)
  | agg (cs : List AV)
  | tup (vs : List AV)
  | fn (f : FuncId) (caps : List AV)
  | iface (t : TypeId) (v : AV)
  | zc
  | undef

instance : Inhabited AV := ⟨.undef⟩

def AV.cells : AV → List AV
  | .agg cs => cs
  | .d (.agg cs) => cs.map .d
  | v => [v]

/-- Where a local block lies: the model's block, how many elements it has room for, cells of an element. -/
structure BR where
  g : Nat
  cap : Nat
  es : Nat

/-- A local block: its elements, cells of one, the element's type; whether it may still be written; whether it was never marked as a string's. -/
structure LB where
  els : List AV
  es : Nat
  ty : TypeId
  live : Bool
  plain : Bool

inductive ARep (w : World) (A : Nat → Prop) (ρ : Nat → Option BR) : AV → Value → Prop where
  | d (v : DV) (x : Value) (h : DRep w A v x) : ARep w A ρ (.d v) x
  | loc (b es i fo : Nat) (r : BR) (h : ρ b = some r) (he : r.es = es) : ARep w A ρ (.loc b es i fo) (.pointer (some ⟨r.g, i * es + fo, none⟩))
  | slc (b es off len : Nat) (r : BR) (h : ρ b = some r) (he : r.es = es) (hl : off + len ≤ r.cap) : ARep w A ρ (.slc b es off len) (.slice (some ⟨r.g, off * es, none⟩) len (r.cap - off))
  | agg (cs : List AV) (vs : Array Value) (hl : vs.size = cs.length) (hone : ∀ i, i < cs.length → (vs.getD i undef).oneCell' = true)
      (h : ∀ i, i < cs.length → ARep w A ρ (cs.getD i .undef) (vs.getD i undef)) : ARep w A ρ (.agg cs) (.agg vs)
  | tup (cs : List AV) (vs : Array Value) (hl : vs.size = cs.length)
      (h : ∀ i, i < cs.length → ARep w A ρ (cs.getD i .undef) (vs.getD i undef)) : ARep w A ρ (.tup cs) (.tuple vs)
  | fn (f : FuncId) (caps : List AV) (vals : Array Value) (hl : vals.size = caps.length)
      (h : ∀ i, i < caps.length → ARep w A ρ (caps.getD i .undef) (vals.getD i undef)) : ARep w A ρ (.fn f caps) (.func (.func f) #[] vals)
  | iface (t : TypeId) (v : AV) (x : Value) (h : ARep w A ρ v x) : ARep w A ρ (.iface t v) (.iface t x)
  | zc (a : Addr) : ARep w A ρ .zc (.slice (some a) 0 0)
  | un (x : Value) : ARep w A ρ .undef x

theorem ARep.mono {w w' : World} {A A' : Nat → Prop} {ρ ρ' : Nat → Option BR} (k : Keeps w w' A A') (hr : ∀ b r, ρ b = some r → ρ' b = some r)
    {d : AV} {v : Value} (h : ARep w A ρ d v) : ARep w' A' ρ' d v := by
  induction h with
  | d v x h => exact .d v x (h.mono k)
  | loc b es i fo r h he => exact .loc b es i fo r (hr _ _ h) he
  | slc b es off len r h he hl => exact .slc b es off len r (hr _ _ h) he hl
  | agg cs vs hl hone h ih => exact .agg cs vs hl hone ih
  | tup cs vs hl h ih => exact .tup cs vs hl ih
  | fn f caps vals hl h ih => exact .fn f caps vals hl ih
  | iface t v x h ih => exact .iface t v x ih
  | zc a => exact .zc a
  | un x => exact .un x

/-- A local block stands in the world's block r. -/
structure BRep (w : World) (A : Nat → Prop) (ρ : Nat → Option BR) (k : LB) (r : BR) : Prop where
  mk' ::
  ex : ∃ (cur : Array Value) (fr : Nat × Nat), w.heap[r.g]? = some (.cells cur k.ty fr) ∧ cur.size = r.cap * r.es ∧ (k.plain = true → fr = (0, 0)) ∧ (fr.1 = fr.2 ∨ cur.size ≤ fr.1) ∧
    ∀ j m, j < k.els.length → m < k.es → ∃ v, cur[j * k.es + m]? = some v ∧ v.oneCell' = true ∧ ARep w A ρ ((k.els.getD j .undef).cells.getD m .undef) v
  es : r.es = k.es
  len : k.els.length ≤ r.cap
  cap : r.cap ≤ maxLen
  els : ∀ j, j < k.els.length → (k.els.getD j .undef).cells.length = k.es

theorem BRep.mono {w w' : World} {A A' : Nat → Prop} {ρ ρ' : Nat → Option BR} (k : Keeps w w' A A') (hr : ∀ b r, ρ b = some r → ρ' b = some r)
    {b : LB} {r : BR} (hg : w'.heap[r.g]? = w.heap[r.g]?) (h : BRep w A ρ b r) : BRep w' A' ρ' b r := by
  obtain ⟨⟨cur, fr, h1, h2, h3, h4, h5⟩, a, b', c, d⟩ := h
  exact ⟨⟨cur, fr, hg.trans h1, h2, h3, h4, fun j m hj hm => let ⟨v, x, y, z⟩ := h5 j m hj hm; ⟨v, x, y, z.mono k hr⟩⟩, a, b', c, d⟩

/-- A state of a walk: slots, local blocks, the next free name, the deferred calls. -/
structure St where
  env : Nat → AV
  lh : Nat → Option LB
  nid : Nat
  dfs : List (FuncId × List AV)

def upd {α : Type} (f : Nat → α) (i : Nat) (v : α) : Nat → α := fun j => if j = i then v else f j
@[simp] theorem upd_same {α : Type} (f : Nat → α) (i : Nat) (v : α) : upd f i v i = v := by simp [upd]
theorem zI1 {α : Type} (f : Nat → α) (i j : Nat) (v : α) (h : j ≠ i) : upd f i v j = f j := by simp [upd, h]

/-- Values one by one. -/
structure ARepL (w : World) (A : Nat → Prop) (ρ : Nat → Option BR) (args : List AV) (vals : Array Value) : Prop where
  size : vals.size = args.length
  at_ : ∀ i, i < args.length → ARep w A ρ (args.getD i .undef) (vals.getD i undef)

theorem ARepL.mono {w w' : World} {A A' : Nat → Prop} {ρ ρ' : Nat → Option BR} (k : Keeps w w' A A') (hr : ∀ b r, ρ b = some r → ρ' b = some r)
    {args : List AV} {vals : Array Value} (h : ARepL w A ρ args vals) : ARepL w' A' ρ' args vals :=
  ⟨h.size, fun i hi => (h.at_ i hi).mono k hr⟩

/-- Deferred calls, one by one. -/
inductive DfRep (w : World) (A : Nat → Prop) (ρ : Nat → Option BR) : List (FuncId × List AV) → List Deferred → Prop where
  | nil : DfRep w A ρ [] []
  | cons (f : FuncId) (args : List AV) (l : List (FuncId × List AV)) (cap vals : Array Value) (r : List Deferred) (h : ARepL w A ρ args (vals ++ cap)) (t : DfRep w A ρ l r) :
      DfRep w A ρ ((f, args) :: l) ({ target := .fn (.func f) cap, args := vals } :: r)

theorem DfRep.mono {w w' : World} {A A' : Nat → Prop} {ρ ρ' : Nat → Option BR} (k : Keeps w w' A A') (hr : ∀ b r, ρ b = some r → ρ' b = some r)
    {l : List (FuncId × List AV)} {r : List Deferred} (h : DfRep w A ρ l r) : DfRep w' A' ρ' l r := by
  induction h with
  | nil => exact .nil
  | cons f args l cap vals r h t ih => exact .cons f args l cap vals r (h.mono k hr) ih

/-- What a call began with: the world, what it may read, the blocks that it may write, its slots, the names that were there. -/
structure Ctx where
  w0 : World
  A0 : Nat → Prop
  O0 : Nat → Prop
  n : Nat
  m : Nat
  ρ0 : Nat → Option BR

/-- The local blocks and the world. -/
structure HS (c : Ctx) (A : Nat → Prop) (ρ : Nat → Option BR) (lh : Nat → Option LB) (w : World) : Prop where
  blk : ∀ b r k, ρ b = some r → lh b = some k → BRep w A ρ k r
  inj : ∀ b r b' r', ρ b = some r → ρ b' = some r' → (lh b).isSome = true → (lh b').isSome = true → r.g = r'.g → b = b'
  own : ∀ b r k, ρ b = some r → lh b = some k → k.live = true → ¬ A r.g ∧ (c.O0 r.g ∨ c.w0.heap.size ≤ r.g)
  dead : ∀ b r k, ρ b = some r → lh b = some k → k.live = false → A r.g
  lt : ∀ g, A g → g < w.heap.size
  up : ∀ g, c.A0 g → A g
  new : ∀ g, A g → c.A0 g ∨ c.O0 g ∨ c.w0.heap.size ≤ g
  os : w.os = c.w0.os
  tape : w.tape = c.w0.tape
  output : w.output = c.w0.output
  hsize : c.w0.heap.size ≤ w.heap.size
  frame : ∀ g, g < c.w0.heap.size → ¬ c.O0 g → w.heap[g]? = c.w0.heap[g]?

structure Sim (c : Ctx) (A : Nat → Prop) (ρ : Nat → Option BR) (σ : St) (a : Act) (w : World) : Prop extends HS c A ρ σ.lh w where
  size : a.tmps.size = c.n
  defers : DfRep w A ρ σ.dfs a.defers
  env : ∀ t, ARep w A ρ (σ.env t) (a.tmps.getD t undef)

end Go.Proofs.Am

namespace Go.Proofs.Am
open Go Go.RowKit

/-- What an operation needs of a type: cells, whether a struct or an array, bytes, its zero value. -/
structure TI where
  sz : Nat
  agg : Bool
  bytes : Nat
  zero : DV

def zeroOne : Value → Option DV
  | .int k n => some (.int k n)
  | .bool b => some (.bool b)
  | .string s => if s.size ≤ big then some (.str s) else none
  | .pointer none => some .pnil
  | .slice none 0 0 => some .snil
  | .nilFunc => some .fnil
  | .nilIface => some .inil
  | _ => none

def zeroD : Value → Option DV
  | .agg vs => (vs.toList.mapM zeroOne).map .agg
  | v => zeroOne v

def descAgg : TypeDesc → Bool
  | .struct _ | .array _ _ => true
  | _ => false

def tinfo (P : Program) (t : TypeId) : Option TI :=
  match P.info? t, P.underlying t with
  | some i, some u => (i.zero.bind zeroD).bind fun z => if z.cells.length = i.size then some ⟨i.size, descAgg u, i.bytes, z⟩ else none
  | _, _ => none

/-- A struct's field: its first cell, its type. -/
def fieldO (P : Program) (s : TypeId) (f : Nat) : Option (Nat × TypeId) :=
  match P.underlying s with
  | some (.struct fs) => (fs[f]?).map fun x => (x.offset, x.type)
  | _ => none

def constD (v : Value) : Option DV := zeroD v

def St.eval (σ : St) : Operand → AV
  | .tmp t => σ.env t
  | .const v => match constD v with | some d => .d d | none => .undef
  | .global _ => .undef
  | .func f => .d (.fn f [])

/-- An operation's result: a value, changes of local blocks, the next free name. -/
structure OpR where
  v : AV
  chg : List (Nat × Option LB)
  nid : Nat

/-- A result: a value whose local names are 0, 1, .. of these blocks. -/
structure Ret where
  v : AV
  blks : List LB

mutual
/-- Names moved up. -/
def AV.sh (k : Nat) : AV → AV
  | .d v => .d v
  | .loc b es i fo => .loc (b + k) es i fo
  | .slc b es off len => .slc (b + k) es off len
  | .agg cs => .agg (AV.shL k cs)
  | .tup vs => .tup (AV.shL k vs)
  | .fn f cs => .fn f (AV.shL k cs)
  | .iface t v => .iface t (AV.sh k v)
  | .zc => .zc
  | .undef => .undef
def AV.shL (k : Nat) : List AV → List AV
  | [] => []
  | v :: r => AV.sh k v :: AV.shL k r
end
theorem AV.shL_map (k : Nat) : ∀ (l : List AV), AV.shL k l = l.map (AV.sh k)
  | [] => by simp [AV.shL]
  | v :: r => by simp [AV.shL, AV.shL_map k r]

def LB.sh (k : Nat) (b : LB) : LB := { b with els := b.els.map (AV.sh k) }

/-- The result taken into the caller's state. -/
def Ret.op (r : Ret) (nid : Nat) : OpR := ⟨r.v.sh nid, (r.blks.zipIdx nid).map fun p => (p.2, some (p.1.sh nid)), nid + r.blks.length⟩

def applyChg (lh : Nat → Option LB) (chg : List (Nat × Option LB)) : Nat → Option LB := chg.foldl (fun f p => upd f p.1 p.2) lh

/-- What an operation leaves: its value, the local blocks, the next free name. -/
structure Res where
  v : AV
  lh : Nat → Option LB
  nid : Nat

def OpR.res (r : OpR) (lh : Nat → Option LB) : Res := ⟨r.v, applyChg lh r.chg, r.nid⟩

/-- Which calls hand back what, which give up with what. ok: in a region of any kind, with the names of blocks that are read; okT: in the order of the text alone. -/
structure CallE where
  ok : (Nat → Option LB) → Nat → FuncId → List AV → List Nat → OpR → Prop
  okT : (Nat → Option LB) → Nat → FuncId → List AV → Res → Prop
  pan : (Nat → Option LB) → Nat → FuncId → List AV → DV → Res → Prop
  panD : (Nat → Option LB) → FuncId → List AV → List Nat → DV → Prop

inductive BM where
  | pure (r : OpR)
  | get (b : Nat) (k : LB → BM)
  | call (nid : Nat) (f : FuncId) (args : List AV)
  | pan (nid : Nat) (d : DV)
  | fail

def BM.ofO {α : Type} (o : Option α) (k : α → BM) : BM := match o with | some a => k a | none => .fail

def dIsAgg : DV → Bool
  | .agg _ => true
  | _ => false

/-- A part of an element that is data. -/
def dload (ti : TI) (e : DV) (fo : Nat) : Option DV :=
  if ti.agg then
    if fo = 0 ∧ e.cells.length = ti.sz ∧ dIsAgg e = true then some e
    else if fo + ti.sz ≤ e.cells.length then some (.agg ((e.cells.drop fo).take ti.sz)) else none
  else e.cells[fo]?

def aIsAgg : AV → Bool
  | .agg _ => true
  | .d (.agg _) => true
  | _ => false

def aload (ti : TI) (e : AV) (fo : Nat) : Option AV :=
  if ti.agg then
    if fo = 0 ∧ e.cells.length = ti.sz ∧ aIsAgg e = true then some e
    else if fo + ti.sz ≤ e.cells.length then some (.agg ((e.cells.drop fo).take ti.sz)) else none
  else e.cells[fo]?

/-- An element in which a part is another value. -/
def astore (e : AV) (fo : Nat) (v : AV) : AV :=
  if fo = 0 ∧ v.cells.length = e.cells.length ∧ ¬ (v.cells.length = 1 ∧ aIsAgg v = false ∧ aIsAgg e = true) then v
  else .agg (e.cells.take fo ++ v.cells ++ e.cells.drop (fo + v.cells.length))

def just (nid : Nat) (v : AV) : BM := .pure ⟨v, [], nid⟩

/-- Whole numbers. -/
def intOp (op : BinOp) (k : IntKind) (a b : Int) : Option DV :=
  match op with
  | .add => some (.int k (k.wrap (a + b)))
  | .sub => some (.int k (k.wrap (a - b)))
  | .mul => some (.int k (k.wrap (a * b)))
  | .quo => if b = 0 then none else some (.int k (k.wrap (a.tdiv b)))
  | .rem => if b = 0 then none else some (.int k (a.tmod b))
  | .and => some (.int k (k.wrap ((BitVec.ofInt k.bits a &&& BitVec.ofInt k.bits b).toNat)))
  | .or => some (.int k (k.wrap ((BitVec.ofInt k.bits a ||| BitVec.ofInt k.bits b).toNat)))
  | .xor => some (.int k (k.wrap ((BitVec.ofInt k.bits a ^^^ BitVec.ofInt k.bits b).toNat)))
  | .andNot => some (.int k (k.wrap ((BitVec.ofInt k.bits a &&& ~~~ BitVec.ofInt k.bits b).toNat)))
  | .eql => some (.bool (a == b))
  | .neq => some (.bool (a != b))
  | .lss => some (.bool (decide (a < b)))
  | .leq => some (.bool (decide (a ≤ b)))
  | .gtr => some (.bool (decide (a > b)))
  | .geq => some (.bool (decide (a ≥ b)))
  | _ => none

def strOp (op : BinOp) (a b : ByteArray) : Option DV :=
  match op with
  | .add => if a.size + b.size ≤ big then some (.str (a ++ b)) else none
  | .eql => some (.bool (a.data.toList == b.data.toList))
  | .neq => some (.bool (!(a.data.toList == b.data.toList)))
  | .lss => some (.bool (Op.bytesLess a.data.toList b.data.toList))
  | .leq => some (.bool (Op.bytesLess a.data.toList b.data.toList || a.data.toList == b.data.toList))
  | .gtr => some (.bool (!(Op.bytesLess a.data.toList b.data.toList || a.data.toList == b.data.toList)))
  | .geq => some (.bool (!(Op.bytesLess a.data.toList b.data.toList)))
  | _ => none

/-- Is a slice nil? -/
def isNilSlice : AV → Option Bool
  | .d .snil => some true
  | .d (.sim _) => some false
  | .slc _ _ _ _ => some false
  | .zc => some false
  | _ => none

def eqOp (op : BinOp) (r : Bool) : Option DV :=
  match op with
  | .eql => some (.bool r)
  | .neq => some (.bool (!r))
  | _ => none

def binD (P : Program) (op : BinOp) (t : TypeId) (x y : AV) : Option DV :=
  match x, y with
  | .d (.int k a), .d (.int k' b) =>
    match op with
    | .shl => if b < 0 then none else some (.int k (k.wrap (a * 2 ^ (min b.toNat k.bits))))
    | .shr => if b < 0 then none else some (.int k (a.fdiv (2 ^ (min b.toNat k.bits))))
    | _ => if k = k' then intOp op k a b else none
  | .d (.str a), .d (.str b) => strOp op a b
  | .d (.bool a), .d (.bool b) => match P.underlying t with | some .bool => eqOp op (a == b) | _ => none
  | x, .d .snil => match P.underlying t with | some (.slice _) => (isNilSlice x).bind (eqOp op) | _ => none
  | _, _ => none

def unD (op : UnOp) (x : AV) : Option DV :=
  match op, x with
  | .not, .d (.bool b) => some (.bool (!b))
  | .neg, .d (.int k n) => some (.int k (k.wrap (0 - n)))
  | .xor, .d (.int k n) => some (.int k (k.wrap ((BitVec.ofInt k.bits (if k.signed then -1 else k.max) ^^^ BitVec.ofInt k.bits n).toNat)))
  | _, _ => none

def sliceBoundsA (len cap : Nat) (lo hi : Option AV) : Option (Nat × Nat) :=
  match hi, lo with
  | none, none => if len ≤ cap then some (0, len) else none
  | some (.d (.int _ h)), none => if 0 ≤ h ∧ h ≤ cap then some (0, h.toNat) else none
  | none, some (.d (.int _ l)) => if 0 ≤ l ∧ l ≤ len then some (l.toNat, len) else none
  | some (.d (.int _ h)), some (.d (.int _ l)) => if 0 ≤ l ∧ l ≤ h ∧ h ≤ cap then some (l.toNat, h.toNat) else none
  | _, _ => none

def sliceA (P : Program) (t : TypeId) (x : AV) (lo hi : Option AV) : Option AV :=
  match P.underlying t, x with
  | some .string, .d (.str s) => (sliceBoundsA s.size s.size lo hi).map fun (l, h) => .d (.str (s.extract l h))
  | some (.slice e), .d (.sim els) => (tinfo P e).bind fun ti =>
      if els.all (fun x => x.cells.length = ti.sz) then (sliceBoundsA els.length els.length lo hi).map fun (l, h) => .d (.sim ((els.drop l).take (h - l))) else none
  | some (.slice e), .d .snil => (tinfo P e).bind fun _ => (sliceBoundsA 0 0 lo hi).map fun _ => .d .snil
  | some (.slice e), .slc b es off len => (tinfo P e).bind fun ti =>
      if ti.sz = es then (sliceBoundsA len len lo hi).map fun (l, h) => if l = 0 ∨ l < h then .slc b es (off + l) (h - l) else .d (.sim []) else none
  | _, _ => none

def indexAddrA (P : Program) (t : TypeId) (x i : AV) : Option AV :=
  match P.underlying t, x, i with
  | some (.slice e), .d (.sim els), .d (.int _ i) => (tinfo P e).bind fun ti =>
      if 0 ≤ i ∧ i < els.length ∧ (els.getD i.toNat .inil).cells.length = ti.sz then some (.d (.pim els i.toNat 0)) else none
  | some (.slice e), .slc b es off len, .d (.int _ i) => (tinfo P e).bind fun ti =>
      if 0 ≤ i ∧ i < len ∧ ti.sz = es then some (.loc b es (off + i.toNat) 0) else none
  | some (.array n e), .loc b es k fo, .d (.int _ i) => (tinfo P e).bind fun ti =>
      if 0 ≤ i ∧ i < n then some (.loc b es k (fo + i.toNat * ti.sz)) else none
  | some (.array n e), .d (.pim els k fo), .d (.int _ i) => (tinfo P e).bind fun ti =>
      if 0 ≤ i ∧ i < n then some (.d (.pim els k (fo + i.toNat * ti.sz))) else none
  | _, _, _ => none

def fieldAddrA (P : Program) (s : TypeId) (x : AV) (f : Nat) : Option AV :=
  (fieldO P s f).bind fun (off, ft) => (tinfo P ft).bind fun ti =>
    if ti.sz = 0 then none else
    match x with
    | .loc b es i fo => some (.loc b es i (fo + off))
    | .d (.pim els i fo) => some (.d (.pim els i (fo + off)))
    | _ => none

def fieldA (P : Program) (s : TypeId) (x : AV) (f : Nat) : Option AV :=
  (fieldO P s f).bind fun (off, ft) => (tinfo P ft).bind fun ti => if aIsAgg x then aload ti x off else none

def convA (P : Program) (src dst : TypeId) (x : AV) : Option AV :=
  match P.underlying src, P.underlying dst, x with
  | some _, some (.int k), .d (.int _ n) => some (.d (.int k (k.wrap n)))
  | some _, some .string, .d (.str s) => some (.d (.str s))
  | _, _, _ => none

def lenA (P : Program) (t : TypeId) (x : AV) : Option DV :=
  match P.underlying t, x with
  | some .string, .d (.str s) => some (.int .i64 s.size)
  | some (.slice _), .d (.sim els) => some (.int .i64 els.length)
  | some (.slice _), .d .snil => some (.int .i64 0)
  | some (.slice _), .slc _ _ _ len => some (.int .i64 len)
  | some (.slice _), .zc => some (.int .i64 0)
  | _, _ => none

/-- Where the fields of a struct lie: first cell, cells. -/
def places (P : Program) (t : TypeId) : Option (List (Nat × Nat)) :=
  match P.underlying t with
  | some (.struct fs) => fs.toList.mapM fun f => (P.info? f.type).map fun i => (f.offset, i.size)
  | some (.array n e) => (P.info? e).map fun i => (List.range n).map fun k => (k * i.size, i.size)
  | _ => none

/-- The parts of a struct put into its cells. -/
def fillA (pl : List (Nat × Nat)) (cs : List AV) : List (Nat × AV) → Option (List AV)
  | [] => some cs
  | (f, v) :: rest => match pl[f]? with
    | some (off, sz) => if v.cells.length = sz ∧ off + sz ≤ cs.length then fillA pl (cs.take off ++ v.cells ++ cs.drop (off + v.cells.length)) rest else none
    | none => none

def fillL (es : Nat) (els : List AV) : List (Nat × AV) → Option (List AV)
  | [] => some els
  | (i, v) :: rest => if i < els.length ∧ v.cells.length = es then fillL es (els.set i v) rest else none

/-- Each cell stands for itself. -/
def avOne : AV → Bool
  | .agg _ | .tup _ | .undef | .d (.agg _) | .d (.tup _) => false
  | _ => true

/-- Local blocks that a value leads to become data. -/
def toD : AV → Option DV
  | .d v => some v
  | _ => none

def allD : List AV → Option (List DV)
  | [] => some []
  | .d v :: r => (allD r).map (v :: ·)
  | _ :: _ => none

/-- What is appended. -/
def newsB (ti : TI) (x : AV) (k : List AV → BM) : BM :=
  match x with
  | .d (.sim els) => if els.all (fun x => x.cells.length = ti.sz) = true then k (els.map .d) else .fail
  | .slc b es off n => .get b fun q => if off + n ≤ q.els.length ∧ es = ti.sz then k ((q.els.drop off).take n) else .fail
  | _ => .fail

def appendB (nid : Nat) (ti : TI) (e : TypeId) (s x : AV) : BM :=
  if ti.bytes ≤ 32768 ∧ 0 < ti.sz then
    match x with
    | .d .snil => (match s with
      | .d .snil => just nid (.d .snil)
      | .d (.sim els) => just nid (.d (.sim els))
      | .slc b es off len => just nid (.slc b es off len)
      | .zc => just nid .zc
      | _ => .fail)
    | x => newsB ti x fun xs =>
      match s with
      | .d .snil => if xs.length = 0 then just nid (.d .snil) else if xs.length ≤ big then .pure ⟨.slc nid ti.sz 0 xs.length, [(nid, some ⟨xs, ti.sz, e, true, true⟩)], nid + 1⟩ else .fail
      | .zc => if xs.length = 0 then just nid .zc else if xs.length ≤ big then .pure ⟨.slc nid ti.sz 0 xs.length, [(nid, some ⟨xs, ti.sz, e, true, true⟩)], nid + 1⟩ else .fail
      | .slc b es 0 len => .get b fun q =>
          if q.live = true ∧ q.plain = true ∧ q.ty = e ∧ es = ti.sz ∧ len ≤ q.els.length ∧ len + xs.length ≤ big then
            .pure ⟨.slc nid ti.sz 0 (len + xs.length), [(b, none), (nid, some ⟨q.els.take len ++ xs, ti.sz, e, true, true⟩)], nid + 1⟩ else .fail
      | _ => .fail
  else .fail

/-- Bytes as elements, and back. -/
def bytesA (s : ByteArray) : List AV := s.data.toList.map fun b => .d (.int .u8 b.toNat)

def unbytes : List AV → Option (List UInt8)
  | [] => some []
  | .d (.int .u8 n) :: r => (unbytes r).map (UInt8.ofNat n.toNat :: ·)
  | _ :: _ => none

/-- A string made of bytes. -/
def strB (nid : Nat) (l : List AV) : BM := match unbytes l with
  | some bs => if bs.length ≤ big then just nid (.d (.str ⟨bs.toArray⟩)) else .fail
  | none => .fail

def toStrB (nid : Nat) (x : AV) : BM :=
  match x with
  | .d .snil => just nid (.d (.str ⟨#[]⟩))
  | .d (.sim els) => strB nid (els.map .d)
  | .slc b es off n => .get b fun q => if off + n ≤ q.els.length ∧ es = 1 then strB nid ((q.els.drop off).take n) else .fail
  | _ => .fail

def convB (P : Program) (nid : Nat) (src dst : TypeId) (x : AV) : BM :=
  match P.underlying src, P.underlying dst with
  | some .string, some (.slice e) => match P.underlying e, x with
    | some (.int .u8), .d (.str s) => .pure ⟨.slc nid 1 0 s.size, [(nid, some ⟨bytesA s, 1, e, true, false⟩)], nid + 1⟩
    | _, _ => .fail
  | some (.slice e), some .string => match P.underlying e with
    | some (.int .u8) => toStrB nid x
    | _ => .fail
  | _, _ => BM.ofO (convA P src dst x) fun v => just nid v

/-- Elements of a row that others replace. -/
def putL (els : List AV) (off : Nat) (xs : List AV) : List AV := els.take off ++ xs ++ els.drop (off + xs.length)

def copyB (nid : Nat) (ti : TI) (s x : AV) : BM :=
  match s with
  | .slc b es off n => newsB ti x fun xs => .get b fun q =>
      if q.live = true ∧ es = ti.sz ∧ 0 < ti.sz ∧ off + n ≤ q.els.length then
        .pure ⟨.d (.int .i64 (min xs.length n : Nat)), [(b, some { q with els := putL q.els off (xs.take n) })], nid⟩ else .fail
  | _ => .fail

/-- Is it nil? -/
def isNil : AV → Option Bool
  | .d .inil | .d .pnil | .d .fnil => some true
  | .d (.iface _ _) | .iface _ _ | .loc _ _ _ _ | .d (.pim _ _ _) | .d (.fn _ _) | .fn _ _ => some false
  | _ => none

/-- Comparison with the literal nil. -/
def nilOp (P : Program) (op : BinOp) (t : TypeId) (x : AV) (c : Value) : Option DV :=
  match P.underlying t, c, x with
  | some (.interface _), .nilIface, .d .inil => eqOp op true
  | some (.interface _), .nilIface, .d (.iface _ _) => eqOp op false
  | some (.interface _), .nilIface, .iface _ _ => eqOp op false
  | some (.pointer _), .pointer none, .d .pnil => eqOp op true
  | some (.pointer _), .pointer none, .loc _ _ _ _ => eqOp op false
  | some (.pointer _), .pointer none, .d (.pim _ _ _) => eqOp op false
  | some (.func _ _ _), .nilFunc, .d .fnil => eqOp op true
  | some (.func _ _ _), .nilFunc, .d (.fn _ _) => eqOp op false
  | some (.func _ _ _), .nilFunc, .fn _ _ => eqOp op false
  | _, _, _ => none

/-- Structs of plain parts compared. -/
def eqParts (P : Program) : List Field → List AV → List AV → Option Bool
  | [], _, _ => some true
  | f :: fs, xs, ys => if f.name = "_" then none else
    match P.underlying f.type, xs[f.offset]?, ys[f.offset]? with
    | some (.int _), some (.d (.int k a)), some (.d (.int k' b)) => if k = k' then (if a == b then eqParts P fs xs ys else some false) else none
    | some .string, some (.d (.str a)), some (.d (.str b)) => if a.data.toList == b.data.toList then eqParts P fs xs ys else some false
    | some .bool, some (.d (.bool a)), some (.d (.bool b)) => if a == b then eqParts P fs xs ys else some false
    | _, _, _ => none

def structOp (P : Program) (op : BinOp) (t : TypeId) (x y : AV) : Option DV :=
  match P.underlying t with
  | some (.struct fs) => if aIsAgg x = true ∧ aIsAgg y = true ∧ P.eqGuardType P.depth t = false ∧ P.stoodInHeld t = false then (eqParts P fs.toList x.cells y.cells).bind (eqOp op) else none
  | _ => none

/-- A slice of no elements and no room. -/
def slice3A (P : Program) (t : TypeId) (x : AV) (lo : Option AV) (hi mx : Option AV) : Option AV :=
  match P.underlying t, lo, hi, mx with
  | some (.slice e), none, some (.d (.int _ 0)), some (.d (.int _ 0)) => (tinfo P e).bind fun _ => match x with
    | .d .snil => some (.d .snil)
    | .d (.sim _) => some .zc
    | .slc _ _ _ _ => some .zc
    | .zc => some .zc
    | _ => none
  | _, _, _, _ => none

def opB (P : Program) (nid : Nat) (ev : Operand → AV) (o : Op) : BM :=
  match o with
  | .move x | .assign x => just nid (ev x)
  | .pick c a b => match ev c with | .d (.bool t) => just nid (if t then ev a else ev b) | _ => .fail
  | .alloc t => BM.ofO (tinfo P t) fun ti => .pure ⟨.loc nid ti.sz 0 0, [(nid, some ⟨[.d ti.zero], ti.sz, t, true, true⟩)], nid + 1⟩
  | .box t x => if (ev x).cells.all avOne then .pure ⟨.loc nid (ev x).cells.length 0 0, [(nid, some ⟨[ev x], (ev x).cells.length, t, true, true⟩)], nid + 1⟩ else .fail
  | .build t parts => BM.ofO (tinfo P t) fun ti => BM.ofO (places P t) fun pl =>
      if (parts.toList.all fun (_, x) => (ev x).cells.all avOne) = true ∧ ti.agg = true then BM.ofO (fillA pl (ti.zero.cells.map .d) (parts.toList.map fun (i, x) => (i, ev x))) fun cs => just nid (.agg cs) else .fail
  | .buildSlice t len parts =>
    match P.underlying t with
    | some (.slice e) => BM.ofO (tinfo P e) fun ti => if len * ti.sz ≤ 16777216 ∧ 0 < ti.sz ∧ (parts.toList.all fun (_, x) => (ev x).cells.all avOne) = true then
        BM.ofO (fillL ti.sz (List.replicate len (.d ti.zero)) (parts.toList.map fun (i, x) => (i, ev x))) fun els =>
          .pure ⟨.slc nid ti.sz 0 len, [(nid, some ⟨els, ti.sz, e, true, true⟩)], nid + 1⟩ else .fail
    | _ => .fail
  | .load t a => BM.ofO (tinfo P t) fun ti =>
    match ev a with
    | .d (.pim els i fo) => BM.ofO (dload ti (els.getD i .inil) fo) fun v => just nid (.d v)
    | .loc b _ i fo => .get b fun k => if i < k.els.length then BM.ofO (aload ti (k.els.getD i .undef) fo) fun v => just nid v else .fail
    | _ => .fail
  | .store t a x => BM.ofO (tinfo P t) fun ti =>
    match ev a with
    | .loc b _ i fo => .get b fun k =>
        if k.live = true ∧ i < k.els.length ∧ (ev x).cells.length = ti.sz ∧ (ev x).cells.all avOne = true ∧ fo + ti.sz ≤ k.es then
          .pure ⟨.undef, [(b, some { k with els := k.els.set i (astore (k.els.getD i .undef) fo (ev x)) })], nid⟩ else .fail
    | _ => .fail
  | .nilCheck x => match ev x with
    | .loc b es i fo => just nid (.loc b es i fo)
    | .d (.pim els i fo) => just nid (.d (.pim els i fo))
    | .d (.fn f cs) => just nid (.d (.fn f cs))
    | .fn f cs => just nid (.fn f cs)
    | _ => .fail
  | .binOp op t x y _ => match binD P op t (ev x) (ev y) with
    | some v => just nid (.d v)
    | none => match y with
      | .const c => BM.ofO (nilOp P op t (ev x) c) fun v => just nid (.d v)
      | y => BM.ofO (structOp P op t (ev x) (ev y)) fun v => just nid (.d v)
  | .unOp op _ x => BM.ofO (unD op (ev x)) fun v => just nid (.d v)
  | .convert src dst x => convB P nid src dst (ev x)
  | .makeInterface t x => match P.underlying t with
    | some (.interface _) => .fail
    | some _ => (match ev x with | .d v => just nid (.d (.iface t v)) | v => just nid (.iface t v))
    | none => .fail
  | .makeFunc (.func f) first caps => if first.size = 0 then (match allD (caps.toList.map ev) with | some ds => just nid (.d (.fn f ds)) | none => just nid (.fn f (caps.toList.map ev))) else .fail
  | .makeSlice t l c =>
    match P.underlying t, ev l, ev c with
    | some (.slice e), .d (.int .i64 n), .d (.int .i64 m) => BM.ofO (tinfo P e) fun ti =>
      if 0 ≤ n ∧ n ≤ m ∧ m ≤ big ∧ ti.bytes ≤ 32768 then .pure ⟨.slc nid ti.sz 0 n.toNat, [(nid, some ⟨List.replicate m.toNat (.d ti.zero), ti.sz, e, true, true⟩)], nid + 1⟩ else .fail
    | _, _, _ => .fail
  | .slice t x lo hi none => BM.ofO (sliceA P t (ev x) (lo.map ev) (hi.map ev)) fun v => just nid v
  | .slice t x lo hi (some mx) => BM.ofO (slice3A P t (ev x) (lo.map ev) (hi.map ev) (some (ev mx))) fun v => just nid v
  | .fieldAddr s x f => BM.ofO (fieldAddrA P s (ev x) f) fun v => just nid v
  | .field s x f => BM.ofO (fieldA P s (ev x) f) fun v => just nid v
  | .indexAddr t x i => BM.ofO (indexAddrA P t (ev x) (ev i)) fun v => just nid v
  | .index t x i =>
    match P.underlying t, ev x, ev i with
    | some .string, .d (.str s), .d (.int _ i) => if 0 ≤ i ∧ i < s.size then just nid (.d (.int .u8 (s.data.toList.getD i.toNat 0).toNat)) else .fail
    | _, _, _ => .fail
  | .extract x i => match ev x with
    | .tup vs => BM.ofO (vs[i]?) fun v => just nid v
    | .d (.tup vs) => BM.ofO (vs[i]?) fun v => just nid (.d v)
    | _ => .fail
  | .typeAssert x _ t ok =>
    match P.underlying t, ev x with
    | some (.interface _), _ => .fail
    | some _, .d (.iface u v) => BM.ofO (tinfo P t) fun ti =>
        if u = t then just nid (.d (if ok then .tup [v, .bool true] else v)) else if ok then just nid (.d (.tup [ti.zero, .bool false])) else .fail
    | _, _ => .fail
  | .panic x => match ev x with
    | .d (.iface t v) => .pan nid (.iface t v)
    | .iface t (.agg cs) => (match allD cs with | some ds => .pan nid (.iface t (.agg ds)) | none => .fail)
    | _ => .fail
  | .call { callee := .value fv, args, .. } =>
    match ev fv with
    | .d (.fn f caps) => .call nid f (args.toList.map ev ++ caps.map .d)
    | .fn f caps => .call nid f (args.toList.map ev ++ caps)
    | _ => .fail
  | .call { callee := .builtin .append, args, argTypes } =>
    if args.size = 2 ∧ argTypes.size = 2 then
      match P.underlying (argTypes.getD 0 0), P.underlying (argTypes.getD 1 0) with
      | some (.slice e), some (.slice _) => BM.ofO (tinfo P e) fun ti => appendB nid ti e (ev (args.getD 0 (.tmp 0))) (ev (args.getD 1 (.tmp 0)))
      | _, _ => .fail
    else .fail
  | .call { callee := .builtin .len, args, argTypes } => if args.size = 1 ∧ argTypes.size = 1 then BM.ofO (lenA P (argTypes.getD 0 0) (ev (args.getD 0 (.tmp 0)))) fun v => just nid (.d v) else .fail
  | .call { callee := .builtin .min, args, .. } => if args.size = 2 then
      (match ev (args.getD 0 (.tmp 0)), ev (args.getD 1 (.tmp 0)) with
      | .d (.int k x), .d (.int _ y) => just nid (.d (.int k (if y < x then y else x)))
      | _, _ => .fail) else .fail
  | .call { callee := .builtin .max, args, .. } => if args.size = 2 then
      (match ev (args.getD 0 (.tmp 0)), ev (args.getD 1 (.tmp 0)) with
      | .d (.int k x), .d (.int _ y) => just nid (.d (.int k (if y > x then y else x)))
      | _, _ => .fail) else .fail
  | .call { callee := .builtin .cap, args, argTypes } => if args.size = 1 ∧ argTypes.size = 1 then
      (match P.underlying (argTypes.getD 0 0), ev (args.getD 0 (.tmp 0)) with
      | some (.slice _), .d .snil => just nid (.d (.int .i64 0))
      | some (.slice _), .zc => just nid (.d (.int .i64 0))
      | _, _ => .fail) else .fail
  | .call { callee := .builtin .copy, args, argTypes } =>
    if args.size = 2 ∧ argTypes.size = 2 then
      match P.underlying (argTypes.getD 0 0) with
      | some (.slice e) => BM.ofO (tinfo P e) fun ti => copyB nid ti (ev (args.getD 0 (.tmp 0))) (ev (args.getD 1 (.tmp 0)))
      | _ => .fail
    else .fail
  | _ => .fail

/-- What comes of an operation, in one step each; tx: in the order of the text. -/
def wpB (E : CallE) (tx : Bool) : BM → (Nat → Option LB) → (Res → Prop) → (DV → Res → Prop) → Prop
  | .pure r, lh, K, _ => K (r.res lh)
  | .get b k, lh, K, KP => match lh b with | some x => wpB E tx (k x) lh K KP | none => False
  | .call nid f args, lh, K, KP => (∃ r rs, E.ok lh nid f args rs r ∧ K (r.res lh)) ∨ (tx = true ∧ ∃ r, E.okT lh nid f args r ∧ K r) ∨ (tx = true ∧ ∃ d r, E.pan lh nid f args d r ∧ KP d r) ∨ (∃ d rs, E.panD lh f args rs d ∧ KP d ⟨.undef, lh, nid⟩)
  | .pan nid d, lh, _, KP => KP d ⟨.undef, lh, nid⟩
  | .fail, _, _, _ => False
end Go.Proofs.Am

namespace Go.Proofs.Am
open Go Go.RowKit

theorem zeroOne_rep {v : Value} {d : DV} (h : zeroOne v = some d) (w : World) (A : Nat → Prop) : DRep w A d v := by
  unfold zeroOne at h
  split at h <;> first
    | (cases h; constructor; done)
    | (split at h <;> first | (cases h; constructor; assumption) | cases h)
    | cases h

theorem zeroOne_one {v : Value} {d : DV} (h : zeroOne v = some d) : v.oneCell' = true := by
  unfold zeroOne at h
  split at h <;> first
    | rfl
    | cases h

theorem mapM_some {α β : Type} {f : α → Option β} : ∀ {l : List α} {r : List β}, l.mapM f = some r → r.length = l.length ∧ ∀ (i : Nat) (x : α), l[i]? = some x → ∃ y, r[i]? = some y ∧ f x = some y := by
  intro l
  induction l with
  | nil => intro r h; simp at h; subst h; simp
  | cons a l ih =>
    intro r h
    simp only [List.mapM_cons, Option.bind_eq_bind, Option.pure_def] at h
    cases ha : f a with
    | none => simp [ha] at h
    | some b =>
      cases hl : l.mapM f with
      | none => simp [ha, hl] at h
      | some r' =>
        simp [ha, hl] at h
        subst h
        obtain ⟨h1, h2⟩ := ih hl
        refine ⟨by simp [h1], fun i x hi => ?_⟩
        cases i with
        | zero => simp at hi; subst hi; exact ⟨b, by simp, ha⟩
        | succ i => simp at hi; obtain ⟨y, hy, hf⟩ := h2 i x hi; exact ⟨y, by simpa using hy, hf⟩

theorem zeroD_rep {v : Value} {d : DV} (h : zeroD v = some d) (w : World) (A : Nat → Prop) : DRep w A d v := by
  unfold zeroD at h
  split at h
  · rename_i vs
    cases hm : vs.toList.mapM zeroOne with
    | none => simp [hm] at h
    | some r =>
      simp [hm] at h
      subst h
      obtain ⟨h1, h2⟩ := mapM_some hm
      have key : ∀ i, i < r.length → ∃ x y, vs.getD i undef = x ∧ r.getD i .inil = y ∧ zeroOne x = some y := fun i hi => by
        have hv : i < vs.toList.length := by omega
        obtain ⟨y, hy, hf⟩ := h2 i (vs.toList[i]) (List.getElem?_eq_getElem hv)
        refine ⟨vs.toList[i], y, ?_, ?_, hf⟩
        · simp at hv; simp [Array.getD, hv]
        · simp [List.getD, hy]
      refine .agg r vs (by simpa using h1.symm) (fun i hi => ?_) (fun i hi => ?_)
      · obtain ⟨x, y, e1, e2, h3⟩ := key i hi; rw [e1]; exact zeroOne_one h3
      · obtain ⟨x, y, e1, e2, h3⟩ := key i hi; rw [e1, e2]; exact zeroOne_rep h3 w A
  · exact zeroOne_rep h w A

theorem zF7 {c : Ctx} {A : Nat → Prop} {ρ : Nat → Option BR} {σ : St} {a : Act} {w : World} (hS : Sim c A ρ σ a w) (x : Operand) : ARep w A ρ (σ.eval x) (a.eval x) := by
  cases x with
  | tmp t => exact hS.env t
  | const v =>
    simp only [St.eval, Act.eval, constD]
    split
    · rename_i d hd; exact .d d v (zeroD_rep hd w A)
    · exact .un _
  | global g => exact .un _
  | func f => exact .d _ _ (.fn f [] #[] rfl (fun i hi => by simp at hi))

/-- Cells of a value, as data. -/
theorem DRep.cells {w : World} {A : Nat → Prop} {d : DV} {v : Value} (h : DRep w A d v) :
    v.cells.size = d.cells.length ∧ ∀ i, i < d.cells.length → DRep w A (d.cells.getD i .inil) (v.cells.getD i undef) := by
  have one : ∀ {d : DV} {v : Value}, DRep w A d v → d.cells = [d] → v.cells = #[v] →
      v.cells.size = d.cells.length ∧ ∀ i, i < d.cells.length → DRep w A (d.cells.getD i .inil) (v.cells.getD i undef) := fun {d v} h e1 e2 => by
    rw [e1, e2]
    refine ⟨rfl, fun i hi => ?_⟩
    have : i = 0 := by simpa using hi
    subst this
    exact h
  have h' := h
  cases h with
  | agg cs vs hl hone h => exact ⟨hl, h⟩
  | _ => exact one h' rfl rfl

theorem ARep.cells {w : World} {A : Nat → Prop} {ρ : Nat → Option BR} {d : AV} {v : Value} (h : ARep w A ρ d v) :
    d = .undef ∨ (v.cells.size = d.cells.length ∧ ∀ i, i < d.cells.length → ARep w A ρ (d.cells.getD i .undef) (v.cells.getD i undef)) := by
  have one : ∀ {d : AV} {v : Value}, ARep w A ρ d v → d.cells = [d] → v.cells = #[v] →
      v.cells.size = d.cells.length ∧ ∀ i, i < d.cells.length → ARep w A ρ (d.cells.getD i .undef) (v.cells.getD i undef) := fun {d v} h e1 e2 => by
    rw [e1, e2]
    refine ⟨rfl, fun i hi => ?_⟩
    have : i = 0 := by simpa using hi
    subst this
    exact h
  cases h with
  | zc a => exact .inr (one (.zc a) rfl rfl)
  | un => exact .inl rfl
  | agg cs vs hl hone h => exact .inr ⟨hl, h⟩
  | d v x h =>
    refine .inr ?_
    cases v with
    | agg cs =>
      obtain ⟨h1, h2⟩ := h.cells
      simp only [AV.cells, List.length_map]
      refine ⟨h1, fun i hi => ?_⟩
      have e : (cs.map AV.d).getD i .undef = .d (cs.getD i .inil) := by simp [List.getD, List.getElem?_map, List.getElem?_eq_getElem hi]
      rw [e]; exact .d _ _ (h2 i hi)
    | _ => exact one (.d _ _ h) rfl (by cases h <;> rfl)
  | loc b es i fo r h he => exact .inr (one (.loc b es i fo r h he) rfl rfl)
  | slc b es off len r h he hl => exact .inr (one (.slc b es off len r h he hl) rfl rfl)
  | tup cs vs hl h => exact .inr (one (.tup cs vs hl h) rfl rfl)
  | fn f caps vals hl h => exact .inr (one (.fn f caps vals hl h) rfl rfl)
  | iface t v x h => exact .inr (one (.iface t v x h) rfl rfl)

theorem zG5 {P : Program} {t : TypeId} {ti : TI} (h : tinfo P t = some ti) :
    ∃ i u z, P.info? t = some i ∧ P.underlying t = some u ∧ i.zero = some z ∧ zeroD z = some ti.zero ∧ ti.sz = i.size ∧ ti.agg = descAgg u ∧ ti.bytes = i.bytes ∧ ti.zero.cells.length = ti.sz := by
  unfold tinfo at h
  split at h
  · rename_i i u hi hu
    cases hz : i.zero with
    | none => simp [hz] at h
    | some z =>
      cases hd : zeroD z with
      | none => simp [hz, hd] at h
      | some d =>
        simp only [hz, hd, Option.bind_some] at h
        split at h
        · rename_i hl
          cases h
          exact ⟨i, u, z, hi, hu, hz, hd, rfl, rfl, rfl, hl⟩
        · cases h
  · cases h

theorem run_isAgg' {P : Program} {t : TypeId} {u : TypeDesc} (h : P.underlying t = some u) (w : World) : (isAgg t).run P w = .ok (descAgg u) w := by
  cases u <;> simp [isAgg, run_underlying h, descAgg]

theorem zK1 {P : Program} {t : TypeId} {i : TypeInfo} (h : P.info? t = some i) (w : World) : (typeInfo t).run P w = .ok i w := by
  simp [typeInfo, h]

theorem zG8 {P : Program} {t : TypeId} {i : TypeInfo} (h : P.info? t = some i) (w : World) : (sizeOf t).run P w = .ok i.size w := by
  simp [sizeOf, zK1 h]

theorem add_at (c o j : Nat) : (⟨c, o, none⟩ : Addr).add j = ⟨c, o + j, none⟩ := by unfold Addr.add; split <;> simp_all

/-- A variable read out of memory. -/
theorem run_loadVar' {P : Program} {t : TypeId} {i : TypeInfo} {u : TypeDesc} (hi : P.info? t = some i) (hu : P.underlying t = some u) (w : World) (c o : Nat) (f : Nat → Value)
    (h : ∀ j, j < (if descAgg u then i.size else 1) → w.cell? ⟨c, o + j, none⟩ = some (f j)) :
    (loadVar t ⟨c, o, none⟩).run P w = .ok (if descAgg u then .agg ((List.range i.size).map f).toArray else f 0) w := by
  simp only [loadVar, Sem.run_bind, run_isAgg' hu, Result.andThen_ok]
  cases hd : descAgg u with
  | true =>
    simp only [hd, if_true] at h ⊢
    have hl := run_loadCells (P := P) w ⟨c, o, none⟩ i.size f (fun j hj => by rw [add_at]; exact h j hj)
    simp [zG8 hi, hl]
  | false =>
    simp only [hd] at h ⊢
    have h0 := h 0 (by simp)
    simp at h0
    simp [h0]

theorem zK3 (n : Nat) (f : Nat → Value) (m : Nat) (h : m < n) : (((List.range n).map f).toArray).getD m undef = f m := by
  simp [Array.getD, h]

theorem ARep.ofD {w : World} {A : Nat → Prop} {ρ : Nat → Option BR} {v : DV} {x : Value} (h : ARep w A ρ (.d v) x) : DRep w A v x := by cases h; assumption

theorem dload_sound {P : Program} {t : TypeId} {ti : TI} (hti : tinfo P t = some ti) {w : World} {A : Nat → Prop} (e : DV) (c o fo : Nat) (f : Nat → Value)
    (hc : ∀ m, m < e.cells.length → w.cell? ⟨c, o + m, none⟩ = some (f m)) (hone : ∀ m, m < e.cells.length → (f m).oneCell' = true)
    (hv : ∀ m, m < e.cells.length → DRep w A (e.cells.getD m .inil) (f m)) {v : DV} (h : dload ti e fo = some v) :
    ∃ y, (loadVar t ⟨c, o + fo, none⟩).run P w = .ok y w ∧ DRep w A v y := by
  obtain ⟨i, u, z, hi, hu, _, _, hsz, hag, _, _⟩ := zG5 hti
  unfold dload at h
  rw [hag, hsz] at h
  have run := fun hh => run_loadVar' (P := P) hi hu w c (o + fo) (fun j => f (fo + j)) hh
  cases hd : descAgg u with
  | true =>
    simp only [hd, if_true] at h run
    have part : fo + i.size ≤ e.cells.length → ∃ y, (loadVar t ⟨c, o + fo, none⟩).run P w = .ok y w ∧ y = .agg ((List.range i.size).map fun j => f (fo + j)).toArray :=
      fun hl => ⟨_, run (fun j hj => by rw [Nat.add_assoc]; exact hc (fo + j) (by omega)), rfl⟩
    split at h
    · rename_i hw
      obtain ⟨h0, hlen, hg⟩ := hw
      cases h
      subst h0
      obtain ⟨y, hy, rfl⟩ := part (by omega)
      refine ⟨_, hy, ?_⟩
      cases e with
      | agg cs =>
        simp only [DV.cells] at hlen hone hv
        refine .agg cs _ (by simp [hlen]) (fun m hm => ?_) (fun m hm => ?_)
        · rw [zK3 _ _ _ (by omega)]; simpa using hone m hm
        · rw [zK3 _ _ _ (by omega)]; simpa using hv m hm
      | _ => simp [dIsAgg] at hg
    · split at h
      · rename_i hl
        cases h
        obtain ⟨y, hy, rfl⟩ := part hl
        refine ⟨_, hy, ?_⟩
        have hlen : ((e.cells.drop fo).take i.size).length = i.size := by simp; omega
        refine .agg _ _ (by simp only [List.size_toArray, List.length_map, List.length_range, hlen]) (fun m hm => ?_) (fun m hm => ?_)
        · rw [zK3 _ _ _ (by omega)]; exact hone (fo + m) (by omega)
        · rw [zK3 _ _ _ (by omega)]
          have e1 : ((e.cells.drop fo).take i.size).getD m .inil = e.cells.getD (fo + m) .inil := by
            simp [List.getD, List.getElem?_drop, show m < i.size by omega]
          rw [e1]; exact hv (fo + m) (by omega)
      · cases h
  | false =>
    simp only [hd] at h run
    simp only [Bool.false_eq_true, if_false] at h run
    have hl : fo < e.cells.length := (List.getElem?_eq_some_iff.1 h).1
    refine ⟨_, run (fun j hj => ?_), ?_⟩
    · have : j = 0 := by omega
      subst this; exact hc fo hl
    · have e1 : e.cells.getD fo .inil = v := by simp [List.getD, h]
      have := hv fo hl
      rw [e1] at this; exact this

theorem aload_sound {P : Program} {t : TypeId} {ti : TI} (hti : tinfo P t = some ti) {w : World} {A : Nat → Prop} {ρ : Nat → Option BR} (e : AV) (c o fo : Nat) (f : Nat → Value)
    (hc : ∀ m, m < e.cells.length → w.cell? ⟨c, o + m, none⟩ = some (f m)) (hone : ∀ m, m < e.cells.length → (f m).oneCell' = true)
    (hv : ∀ m, m < e.cells.length → ARep w A ρ (e.cells.getD m .undef) (f m)) {v : AV} (h : aload ti e fo = some v) :
    ∃ y, (loadVar t ⟨c, o + fo, none⟩).run P w = .ok y w ∧ ARep w A ρ v y := by
  obtain ⟨i, u, z, hi, hu, _, _, hsz, hag, _, _⟩ := zG5 hti
  unfold aload at h
  rw [hag, hsz] at h
  have run := fun hh => run_loadVar' (P := P) hi hu w c (o + fo) (fun j => f (fo + j)) hh
  cases hd : descAgg u with
  | true =>
    simp only [hd, if_true] at h run
    have part : fo + i.size ≤ e.cells.length → ∃ y, (loadVar t ⟨c, o + fo, none⟩).run P w = .ok y w ∧ y = .agg ((List.range i.size).map fun j => f (fo + j)).toArray :=
      fun hl => ⟨_, run (fun j hj => by rw [Nat.add_assoc]; exact hc (fo + j) (by omega)), rfl⟩
    split at h
    · rename_i hw
      obtain ⟨h0, hlen, hg⟩ := hw
      cases h
      subst h0
      obtain ⟨y, hy, rfl⟩ := part (by omega)
      refine ⟨_, hy, ?_⟩
      cases e with
      | agg cs =>
        simp only [AV.cells] at hlen hone hv
        refine .agg cs _ (by simp [hlen]) (fun m hm => ?_) (fun m hm => ?_)
        · rw [zK3 _ _ _ (by omega)]; simpa using hone m hm
        · rw [zK3 _ _ _ (by omega)]; simpa using hv m hm
      | d x =>
        cases x with
        | agg cs =>
          simp only [AV.cells, List.length_map] at hlen hone hv
          refine .d _ _ (.agg cs _ (by simp [hlen]) (fun m hm => ?_) (fun m hm => ?_))
          · rw [zK3 _ _ _ (by omega)]; simpa using hone m hm
          · rw [zK3 _ _ _ (by omega)]
            have hh := hv m hm
            have e1 : (cs.map AV.d).getD m .undef = .d (cs.getD m .inil) := by simp [List.getD, List.getElem?_map, List.getElem?_eq_getElem hm]
            rw [e1] at hh
            simpa using hh.ofD
        | _ => simp [aIsAgg] at hg
      | _ => simp [aIsAgg] at hg
    · split at h
      · rename_i hl
        cases h
        obtain ⟨y, hy, rfl⟩ := part hl
        refine ⟨_, hy, ?_⟩
        have hlen : ((e.cells.drop fo).take i.size).length = i.size := by simp; omega
        refine .agg _ _ (by simp only [List.size_toArray, List.length_map, List.length_range, hlen]) (fun m hm => ?_) (fun m hm => ?_)
        · rw [zK3 _ _ _ (by omega)]; exact hone (fo + m) (by omega)
        · rw [zK3 _ _ _ (by omega)]
          have e1 : ((e.cells.drop fo).take i.size).getD m .undef = e.cells.getD (fo + m) .undef := by
            simp [List.getD, List.getElem?_drop, show m < i.size by omega]
          rw [e1]; exact hv (fo + m) (by omega)
      · cases h
  | false =>
    simp only [hd] at h run
    simp only [Bool.false_eq_true, if_false] at h run
    have hl : fo < e.cells.length := (List.getElem?_eq_some_iff.1 h).1
    refine ⟨_, run (fun j hj => ?_), ?_⟩
    · have : j = 0 := by omega
      subst this; exact hc fo hl
    · have e1 : e.cells.getD fo .undef = v := by simp [List.getD, h]
      have := hv fo hl
      rw [e1] at this; exact this

end Go.Proofs.Am

namespace Go.Proofs.Am
open Go Go.RowKit

section
variable {P : Program} {w : World} {A : Nat → Prop} {ρ : Nat → Option BR}

theorem fieldO_parts {s : TypeId} {f off : Nat} {ft : TypeId} (h : fieldO P s f = some (off, ft)) :
    ∃ fs fd, P.underlying s = some (.struct fs) ∧ fs[f]? = some fd ∧ fd.offset = off ∧ fd.type = ft := by
  unfold fieldO at h
  split at h
  · rename_i fs hu
    cases hf : fs[f]? with
    | none => simp [hf] at h
    | some fd => simp [hf] at h; exact ⟨fs, fd, hu, hf, h.1, h.2⟩
  · cases h

theorem fieldAddr_sound {s : TypeId} {x v : AV} {f : Nat} {xv : Value} (hx : ARep w A ρ x xv) (h : fieldAddrA P s x f = some v) :
    ∃ y, (Instr.fieldAt s xv f).run P w = .ok y w ∧ ARep w A ρ v y := by
  unfold fieldAddrA at h
  cases hf : fieldO P s f with
  | none => simp [hf] at h
  | some p =>
    obtain ⟨off, ft⟩ := p
    obtain ⟨fs, fd, hu, hfs, rfl, rfl⟩ := fieldO_parts hf
    cases ht : tinfo P fd.type with
    | none => simp [hf, ht] at h
    | some ti =>
      obtain ⟨i, u, z, hi, hu', _, _, hsz, _⟩ := zG5 ht
      simp only [hf, ht, Option.bind_some] at h
      split at h
      · cases h
      · rename_i hne
        have hne' : ¬ i.size = 0 := by omega
        have run : ∀ (g o : Nat), (Instr.fieldAt s (.pointer (some ⟨g, o, none⟩)) f).run P w = .ok (.pointer (some ⟨g, o + fd.offset, none⟩)) w := fun g o => by
          simp [Instr.fieldAt, run_underlying hu, hfs, Instr.sureAddr, fieldPlace, zG8 hi, hne', add_at]
        split at h
        · cases h
          cases hx with
          | loc _ _ _ _ r h1 h2 => exact ⟨_, run _ _, by rw [Nat.add_assoc]; exact .loc _ _ _ _ r h1 h2⟩
        · cases h
          cases hx with
          | d _ _ h =>
            cases h with
            | pim _ _ _ c o es val hi hA hes hc hone hv => exact ⟨_, run _ _, by rw [Nat.add_assoc]; exact .d _ _ (.pim _ _ _ c o es val hi hA hes hc hone hv)⟩
        · cases h

theorem indexAddr_sound {t : TypeId} {x i v : AV} {xv iv : Value} (hx : ARep w A ρ x xv) (hi : ARep w A ρ i iv) (h : indexAddrA P t x i = some v) :
    ∃ y, (Instr.indexAt t xv iv).run P w = .ok y w ∧ ARep w A ρ v y := by
  unfold indexAddrA at h
  split at h
  · rename_i _ _ _ e els k n hu
    cases ht : tinfo P e with
    | none => simp [ht] at h
    | some ti =>
      obtain ⟨ii, u, z, hii, hu', _, _, hsz, _⟩ := zG5 ht
      simp only [ht, Option.bind_some] at h
      split at h
      · rename_i hc
        obtain ⟨h0, h1, h2⟩ := hc
        cases h
        cases hi with
        | d _ _ hi =>
          cases hi
          cases hx with
          | d _ _ hx =>
            cases hx with
            | sim _ a cap c o es val hb hcap ha hes hc hone hv =>
              have hlt : n.toNat < els.length := by omega
              obtain ⟨rfl, hA⟩ := ha (by omega)
              have hee : es = ii.size := by rw [← hes _ hlt, h2, hsz]
              refine ⟨.pointer (some ⟨c, o + n.toNat * ii.size, none⟩), ?_, ?_⟩
              · simp [Instr.indexAt, asIntOf, run_underlying hu, h0, h1, zG8 hii, add_at]
              · subst hee; exact .d _ _ (.pim els n.toNat 0 c o ii.size val hlt hA hes hc hone hv)
      · cases h
  · rename_i _ _ _ e b es off len k n hu
    cases ht : tinfo P e with
    | none => simp [ht] at h
    | some ti =>
      obtain ⟨ii, u, z, hii, hu', _, _, hsz, _⟩ := zG5 ht
      simp only [ht, Option.bind_some] at h
      split at h
      · rename_i hc
        obtain ⟨h0, h1, h2⟩ := hc
        cases h
        cases hi with
        | d _ _ hi =>
          cases hi
          cases hx with
          | slc _ _ _ _ r hr he hl =>
            refine ⟨.pointer (some ⟨r.g, off * es + n.toNat * ii.size, none⟩), ?_, ?_⟩
            · simp [Instr.indexAt, asIntOf, run_underlying hu, h0, h1, zG8 hii, add_at]
            · rw [show off * es + n.toNat * ii.size = (off + n.toNat) * es + 0 by rw [← hsz, h2, Nat.add_mul]; rfl]
              exact .loc b es _ 0 r hr he
      · cases h
  · rename_i _ _ _ n e b es k fo ik j hu
    cases ht : tinfo P e with
    | none => simp [ht] at h
    | some ti =>
      obtain ⟨ii, u, z, hii, hu', _, _, hsz, _⟩ := zG5 ht
      simp only [ht, Option.bind_some] at h
      split at h
      · rename_i hc
        obtain ⟨h0, h1⟩ := hc
        cases h
        cases hi with
        | d _ _ hi =>
          cases hi
          cases hx with
          | loc _ _ _ _ r hr he =>
            refine ⟨.pointer (some ⟨r.g, k * es + fo + j.toNat * ii.size, none⟩), ?_, ?_⟩
            · simp [Instr.indexAt, asIntOf, run_underlying hu, Instr.sureAddr, h0, h1, zG8 hii, add_at]
            · rw [Nat.add_assoc, hsz]; exact .loc _ _ _ _ r hr he
      · cases h
  · rename_i _ _ _ n e els k fo ik j hu
    cases ht : tinfo P e with
    | none => simp [ht] at h
    | some ti =>
      obtain ⟨ii, u, z, hii, hu', _, _, hsz, _⟩ := zG5 ht
      simp only [ht, Option.bind_some] at h
      split at h
      · rename_i hc
        obtain ⟨h0, h1⟩ := hc
        cases h
        cases hi with
        | d _ _ hi =>
          cases hi
          cases hx with
          | d _ _ hx =>
            cases hx with
            | pim _ _ _ c o es val hi hA hes hcc hone hv =>
              refine ⟨.pointer (some ⟨c, o + k * es + fo + j.toNat * ii.size, none⟩), ?_, ?_⟩
              · simp [Instr.indexAt, asIntOf, run_underlying hu, Instr.sureAddr, h0, h1, zG8 hii, add_at]
              · rw [Nat.add_assoc, hsz]; exact .d _ _ (.pim _ _ _ c o es val hi hA hes hcc hone hv)
      · cases h
  · cases h

theorem len_sound {t ty : TypeId} {x : AV} {v : DV} {xv : Value} (hx : ARep w A ρ x xv) (h : lenA P t x = some v) :
    ∃ y, (Builtin.len_ #[t] ty #[xv]).run P w = .ok y w ∧ DRep w A v y := by
  unfold lenA at h
  split at h <;> first | (cases h; done) | skip
  · rename_i _ _ s hu
    cases h
    cases hx with
    | d _ _ hx => cases hx; exact ⟨_, by simp [Builtin.len_, run_underlying hu, goInt], .int _ _⟩
  · rename_i _ _ e els hu
    cases h
    cases hx with
    | d _ _ hx => cases hx; exact ⟨_, by simp [Builtin.len_, run_underlying hu, goInt], .int _ _⟩
  · rename_i _ _ e hu
    cases h
    cases hx with
    | d _ _ hx => cases hx; exact ⟨_, by simp [Builtin.len_, run_underlying hu, goInt], .int _ _⟩
  · rename_i _ _ e b es off len hu
    cases h
    cases hx; exact ⟨_, by simp [Builtin.len_, run_underlying hu, goInt], .int _ _⟩
  · rename_i _ _ e hu
    cases h
    cases hx; exact ⟨_, by simp [Builtin.len_, run_underlying hu, goInt], .int _ _⟩

theorem intOp_sound {op : BinOp} {t : TypeId} {k : IntKind} {a b : Int} {v : DV} (h : intOp op k a b = some v) :
    ∃ y, (binOp op t (.int k a) (.int k b)).run P w = .ok y w ∧ DRep w A v y := by
  unfold intOp at h
  split at h
  case h_4 | h_5 =>
    split at h
    · cases h
    · rename_i hb
      cases h
      exact ⟨_, by simp only [binOp, Op.intDiv, hb, ne_eq, not_true_eq_false, if_false]; rfl, .int _ _⟩
  all_goals first
    | cases h; done
    | (cases h; exact ⟨_, by simp only [binOp, Op.intArith, Op.intBits, Op.intCmp, ne_eq, not_true_eq_false, if_false]; rfl, by first | exact .int _ _ | exact .bool _⟩)

theorem strOp_sound {op : BinOp} {t : TypeId} {a b : ByteArray} {v : DV} (h : strOp op a b = some v) :
    ∃ y, (binOp op t (.string a) (.string b)).run P w = .ok y w ∧ DRep w A v y := by
  unfold strOp at h
  rw [← ByteArray.toList_eq, ← ByteArray.toList_eq] at h
  split at h
  · split at h
    · rename_i hs
      cases h
      refine ⟨_, ?_, .str _ ?_⟩
      · simp only [binOp, Op.stringOp]
        rw [if_neg (by simp only [big] at hs; have : IntKind.i64.max = 9223372036854775807 := rfl; omega)]
        rfl
      · simpa [ByteArray.size_append] using hs
    · cases h
  all_goals first
    | cases h; done
    | (cases h; exact ⟨_, by simp only [binOp, Op.stringOp]; rfl, .bool _⟩)

theorem run_equal_slice_nil {t e : TypeId} (hu : P.underlying t = some (.slice e)) (a : Option Addr) (n c : Nat) :
    (Op.equal t (.slice a n c) (.slice none 0 0)).run P w = .ok a.isNone w := by
  have key : ∀ d, (Op.equalIn (d + 1) t (.slice a n c) (.slice none 0 0)).run P w = .ok a.isNone w := fun d => by
    cases a <;> simp [Op.equalIn, run_underlying hu]
  exact key 9999

theorem run_equal_bool' {t : TypeId} (hu : P.underlying t = some .bool) (a b : Bool) : (Op.equal t (.bool a) (.bool b)).run P w = .ok (a == b) w := run_equal_bool w t a b hu

theorem binD_sound {op : BinOp} {t : TypeId} {x y : AV} {v : DV} {xv yv : Value} {ox oy : Operand} (hx : ARep w A ρ x xv) (hy : ARep w A ρ y yv) (h : binD P op t x y = some v) :
    ∃ z, (do eqGuard op t ox oy xv yv; binOp op t xv yv : Sem Value).run P w = .ok z w ∧ DRep w A v z := by
  unfold binD at h
  split at h
  · rename_i _ _ k a k' b
    have hx := hx.ofD; have hy := hy.ofD; cases hx; cases hy
    have g : ∀ z : Value, (binOp op t (.int k a) (.int k' b)).run P w = .ok z w → (do eqGuard op t ox oy (.int k a) (.int k' b); binOp op t (.int k a) (.int k' b) : Sem Value).run P w = .ok z w := fun z hz => by
      simp only [Sem.run_bind, eqGuard]
      split <;> simp [hz]
    split at h
    · split at h
      · cases h
      · rename_i hb
        cases h
        exact ⟨_, g _ (by simp only [binOp, Op.shift, hb, if_false]; rfl), .int _ _⟩
    · split at h
      · cases h
      · rename_i hb
        cases h
        exact ⟨_, g _ (by simp only [binOp, Op.shift, hb, if_false]; rfl), .int _ _⟩
    · split at h
      · rename_i hk
        subst hk
        obtain ⟨z, hz, hd⟩ := intOp_sound (P := P) (w := w) (A := A) (t := t) h
        exact ⟨z, g z hz, hd⟩
      · cases h
  · rename_i _ _ a b
    have hx := hx.ofD; have hy := hy.ofD; cases hx; cases hy
    obtain ⟨z, hz, hd⟩ := strOp_sound (P := P) (w := w) (A := A) (t := t) h
    refine ⟨z, ?_, hd⟩
    simp only [Sem.run_bind, eqGuard]
    split <;> simp [hz]
  · rename_i _ _ a b
    split at h
    · rename_i hu
      have hx := hx.ofD; have hy := hy.ofD; cases hx; cases hy
      unfold eqOp at h
      split at h
      · cases h
        exact ⟨_, by simp [eqGuard, binOp, run_equal_bool' hu], .bool _⟩
      · cases h
        exact ⟨_, by simp [eqGuard, binOp, run_equal_bool' hu], .bool _⟩
      · cases h
    · cases h
  · split at h
    · rename_i e hu
      have hy := hy.ofD; cases hy
      have key : ∀ (a : Option Addr) (n c : Nat), xv = .slice a n c → eqOp op a.isNone = some v →
          ∃ z, (do eqGuard op t ox oy xv (.slice none 0 0); binOp op t xv (.slice none 0 0) : Sem Value).run P w = .ok z w ∧ DRep w A v z := fun a n c e1 e2 => by
        subst e1
        unfold eqOp at e2
        split at e2
        · cases e2
          exact ⟨_, by simp [eqGuard, binOp, run_equal_slice_nil hu], .bool _⟩
        · cases e2
          exact ⟨_, by simp [eqGuard, binOp, run_equal_slice_nil hu], .bool _⟩
        · cases e2
      cases hn : isNilSlice x with
      | none => simp [hn] at h
      | some b =>
        simp only [hn, Option.bind_some] at h
        unfold isNilSlice at hn
        split at hn
        · cases hn; have hx := hx.ofD; cases hx; exact key none 0 0 rfl h
        · cases hn; have hx := hx.ofD; cases hx; exact key _ _ _ rfl h
        · cases hn; cases hx; exact key _ _ _ rfl h
        · cases hn; cases hx; exact key _ _ _ rfl h
        · cases hn
    · cases h
  · cases h

theorem unD_sound {op : UnOp} {x : AV} {v : DV} {xv : Value} (hx : ARep w A ρ x xv) (h : unD op x = some v) :
    ∃ z, (Op.unary op xv).run P w = .ok z w ∧ DRep w A v z := by
  unfold unD at h
  split at h
  · cases h; have hx := hx.ofD; cases hx; exact ⟨_, rfl, .bool _⟩
  · cases h; have hx := hx.ofD; cases hx; exact ⟨_, rfl, .int _ _⟩
  · cases h; have hx := hx.ofD; cases hx; exact ⟨_, rfl, .int _ _⟩
  · cases h

theorem convA_sound {src dst : TypeId} {x v : AV} {xv : Value} (hx : ARep w A ρ x xv) (h : convA P src dst x = some v) :
    ∃ z, (convert src dst xv).run P w = .ok z w ∧ ARep w A ρ v z := by
  unfold convA at h
  split at h
  · rename_i _ _ _ u k _ n h1 h2
    cases h
    cases hx with
    | d _ _ hx => cases hx; exact ⟨_, by simp [convert, run_underlying h1, run_underlying h2, Conv.intToInt], .d _ _ (.int _ _)⟩
  · rename_i _ _ _ u s h1 h2
    cases h
    cases hx with
    | d _ _ hx =>
      cases hx with
      | str s hs =>
        refine ⟨.string s, ?_, .d _ _ (.str _ hs)⟩
        simp only [convert, Sem.run_bind, run_underlying h1, run_underlying h2, Result.andThen_ok]
        rfl
  · cases h

theorem sliceBounds_sound {isSlice : Bool} {len cap cap' : Nat} {lo hi : Option AV} {lov hiv : Option Value} {l h : Nat}
    (hlo : match lo, lov with | some x, some y => ARep w A ρ x y | none, none => True | _, _ => False)
    (hhi : match hi, hiv with | some x, some y => ARep w A ρ x y | none, none => True | _, _ => False)
    (hc : cap ≤ cap') (hl : len ≤ cap) (hh : sliceBoundsA len cap lo hi = some (l, h)) :
    (Instr.sliceBounds isSlice len cap' lov hiv none).run P w = .ok (l, h, cap') w ∧ l ≤ h ∧ h ≤ cap := by
  unfold sliceBoundsA at hh
  split at hh
  · split at hh
    · cases hh
      cases lov <;> cases hiv <;> simp_all [Instr.sliceBounds]
    · rename_i hn; exact absurd hl hn
  · split at hh
    · rename_i _ _ k n hb
      cases hh
      cases lov <;> cases hiv <;> simp only at hlo hhi
      have := hhi.ofD; cases this
      have h2 : n ≤ (cap' : Int) := by omega
      simp [Instr.sliceBounds, Instr.sliceBound, asIntOf, hb.1, h2]
      omega
    · cases hh
  · split at hh
    · rename_i _ _ k n hb
      cases hh
      cases lov <;> cases hiv <;> simp only at hlo hhi
      have := hlo.ofD; cases this
      simp [Instr.sliceBounds, Instr.sliceBound, asIntOf, hb.1, hb.2]
      omega
    · cases hh
  · split at hh
    · rename_i _ _ k n k' m hb
      cases hh
      cases lov <;> cases hiv <;> simp only at hlo hhi
      have := hlo.ofD; cases this
      have := hhi.ofD; cases this
      have h2 : n ≤ (cap' : Int) := by omega
      have h3 : 0 ≤ n := by omega
      have h4 : m ≤ ((n.toNat : Nat) : Int) := by omega
      simp [Instr.sliceBounds, Instr.sliceBound, asIntOf, hb.1, h2, h3]
      omega
    · cases hh
  · cases hh

theorem slice_sim {els : List DV} {cap c o es : Nat} {a : Addr} {val : Nat → Nat → Value} (hb : els.length ≤ big) (hcap : els.length ≤ cap)
    (ha : 0 < els.length → a = ⟨c, o, none⟩ ∧ A c) (hes : ∀ j, j < els.length → (els.getD j .inil).cells.length = es)
    (hc : ∀ j m, j < els.length → m < es → w.cell? ⟨c, o + j * es + m, none⟩ = some (val j m))
    (hone : ∀ j m, j < els.length → m < es → (val j m).oneCell' = true)
    (hv : ∀ j m, j < els.length → m < es → DRep w A ((els.getD j .inil).cells.getD m .inil) (val j m)) {l h : Nat} (hlh : l ≤ h) (hh : h ≤ els.length) :
    DRep w A (.sim ((els.drop l).take (h - l))) (.slice (some (if cap = l then a else a.add (l * es))) (h - l) (cap - l)) := by
  have hlen : ((els.drop l).take (h - l)).length = h - l := by simp; omega
  have hget : ∀ j, j < h - l → ((els.drop l).take (h - l)).getD j .inil = els.getD (l + j) .inil := fun j hj => by
    simp [List.getD, List.getElem?_drop, hj]
  have := DRep.sim (w := w) (A := A) ((els.drop l).take (h - l)) (if cap = l then a else a.add (l * es)) (cap - l) c (o + l * es) es (fun j m => val (l + j) m)
    (by omega) (by omega)
    (fun hp => by
      obtain ⟨rfl, hA⟩ := ha (by omega)
      rw [if_neg (by omega), add_at]; exact ⟨rfl, hA⟩)
    (fun j hj => by rw [hget j (by omega)]; exact hes _ (by omega))
    (fun j m hj hm => by rw [show o + l * es + j * es + m = o + (l + j) * es + m by rw [Nat.add_mul]; omega]; exact hc _ _ (by omega) hm)
    (fun j m hj hm => hone _ _ (by omega) hm)
    (fun j m hj hm => by rw [hget j (by omega)]; exact hv _ _ (by omega) hm)
  rw [hlen] at this
  exact this

theorem sliceA_sound {t : TypeId} {x v : AV} {lo hi : Option AV} {xv : Value} {lov hiv : Option Value}
    (hx : ARep w A ρ x xv) (hlo : match lo, lov with | some x, some y => ARep w A ρ x y | none, none => True | _, _ => False)
    (hhi : match hi, hiv with | some x, some y => ARep w A ρ x y | none, none => True | _, _ => False) (h : sliceA P t x lo hi = some v) :
    ∃ z, (Instr.sliceAt t xv lov hiv none).run P w = .ok z w ∧ ARep w A ρ v z := by
  unfold sliceA at h
  split at h
  · rename_i _ _ s hu
    cases hb : sliceBoundsA s.size s.size lo hi with
    | none => simp [hb] at h
    | some p =>
      obtain ⟨l, hh⟩ := p
      simp [hb] at h
      subst h
      have hx := hx.ofD
      cases hx with
      | str _ hs =>
        obtain ⟨h1, h2, h3⟩ := sliceBounds_sound (P := P) (isSlice := false) hlo hhi (Nat.le_refl _) (Nat.le_refl _) hb
        exact ⟨.string (s.extract l hh), by simp [Instr.sliceAt, run_underlying hu, Instr.slice, h1], .d _ _ (.str _ (by simp [ByteArray.size_extract]; omega))⟩
  · rename_i _ _ e els hu
    cases ht : tinfo P e with
    | none => simp [ht] at h
    | some ti =>
      obtain ⟨ii, u, z, hii, hu', _, _, hsz, _⟩ := zG5 ht
      simp only [ht, Option.bind_some] at h
      split at h
      · rename_i hall
        cases hb : sliceBoundsA els.length els.length lo hi with
        | none => simp [hb] at h
        | some p =>
          obtain ⟨l, hh⟩ := p
          simp [hb] at h
          subst h
          have hx := hx.ofD
          cases hx with
          | sim _ a cap c o es val hbig hcap ha hes hc hone hv =>
            obtain ⟨h1, h2, h3⟩ := sliceBounds_sound (P := P) (isSlice := true) hlo hhi hcap (Nat.le_refl _) hb
            refine ⟨.slice (some (if cap = l then a else a.add (l * ii.size))) (hh - l) (cap - l), ?_, .d _ _ ?_⟩
            · simp only [Instr.sliceAt, Sem.run_bind, run_underlying hu, Result.andThen_ok, Instr.slice, h1, zG8 hii]
              by_cases hcl : cap = l <;> simp [hcl]
            · by_cases hp : 0 < els.length
              · have hee : es = ii.size := by
                  rw [← hes 0 hp, ← hsz]
                  have := (List.all_eq_true.1 hall) (els.getD 0 .inil) (by simp [List.getD, List.getElem?_eq_getElem hp])
                  simpa using this
                subst hee
                exact slice_sim hbig hcap ha hes hc hone hv h2 h3
              · have e0 : els = [] := List.eq_nil_of_length_eq_zero (by omega)
                subst e0
                have hl0 : l = 0 := by simp at h3; omega
                have hh0 : hh = 0 := by simpa using h3
                subst hl0; subst hh0
                have := DRep.sim (w := w) (A := A) [] (if cap = 0 then a else a.add (0 * ii.size)) cap 0 0 0 (fun _ _ => undef) (by simp) (by simp) (fun h => by simp at h) (fun j hj => by simp at hj) (fun j m hj => by simp at hj) (fun j m hj => by simp at hj) (fun j m hj => by simp at hj)
                simpa using this
      · cases h
  · rename_i _ _ e hu
    cases ht : tinfo P e with
    | none => simp [ht] at h
    | some ti =>
    obtain ⟨ii, u, z, hii, hu', _, _, hsz, _⟩ := zG5 ht
    cases hb : sliceBoundsA 0 0 lo hi with
    | none => simp [ht, hb] at h
    | some p =>
      obtain ⟨l, hh⟩ := p
      simp [ht, hb] at h
      subst h
      have hx := hx.ofD
      cases hx
      obtain ⟨h1, h2, h3⟩ := sliceBounds_sound (P := P) (isSlice := true) hlo hhi (Nat.le_refl 0) (Nat.le_refl _) hb
      have hl0 : l = 0 := by omega
      have hh0 : hh = 0 := by omega
      subst hl0; subst hh0
      refine ⟨.slice none 0 0, ?_, .d _ _ .snil⟩
      simp [Instr.sliceAt, run_underlying hu, Instr.slice, h1, zG8 hii]
  · rename_i _ _ e b es off len hu
    cases ht : tinfo P e with
    | none => simp [ht] at h
    | some ti =>
      obtain ⟨ii, u, z, hii, hu', _, _, hsz, _⟩ := zG5 ht
      simp only [ht, Option.bind_some] at h
      split at h
      · rename_i he
        cases hb : sliceBoundsA len len lo hi with
        | none => simp [hb] at h
        | some p =>
          obtain ⟨l, hh⟩ := p
          simp [hb] at h
          subst h
          cases hx with
          | slc _ _ _ _ r hr hre hl =>
            obtain ⟨h1, h2, h3⟩ := sliceBounds_sound (P := P) (isSlice := true) hlo hhi (show len ≤ r.cap - off by omega) (Nat.le_refl _) hb
            have hrun : (Instr.sliceAt t (.slice (some ⟨r.g, off * es, none⟩) len (r.cap - off)) lov hiv none).run P w =
                .ok (.slice (some (if r.cap - off = l then ⟨r.g, off * es, none⟩ else ⟨r.g, off * es + l * ii.size, none⟩)) (hh - l) (r.cap - off - l)) w := by
              simp only [Instr.sliceAt, Sem.run_bind, run_underlying hu, Result.andThen_ok, Instr.slice, h1, zG8 hii]
              by_cases hcl : r.cap - off = l <;> simp [hcl, add_at]
            refine ⟨_, hrun, ?_⟩
            by_cases hcase : l = 0 ∨ l < hh
            · rw [if_pos hcase]
              have e1 : (if r.cap - off = l then (⟨r.g, off * es, none⟩ : Addr) else ⟨r.g, off * es + l * ii.size, none⟩) = ⟨r.g, (off + l) * es, none⟩ := by
                rw [← hsz, he, Nat.add_mul]
                split
                · rename_i hcl
                  have : l = 0 := by omega
                  subst this; simp
                · rfl
              rw [e1, Nat.sub_sub]
              exact .slc b es (off + l) (hh - l) r hr hre (by omega)
            · rw [if_neg hcase]
              have e0 : hh - l = 0 := by omega
              rw [e0]
              exact .d _ _ (.sim [] _ _ 0 0 0 (fun _ _ => undef) (by simp) (by simp) (fun h => by simp at h) (fun j hj => by simp at hj) (fun j m hj => by simp at hj) (fun j m hj => by simp at hj) (fun j m hj => by simp at hj))
      · cases h
  · cases h
end
end Go.Proofs.Am

set_option linter.unusedVariables false
set_option linter.unusedSimpArgs false
namespace Go.Proofs.Am
open Go Go.RowKit

def putE (env : Nat → AV) : Option Tmp → AV → Nat → AV
  | some d, v => upd env d v
  | none, _ => env

def St.app (σ : St) (dst : Option Tmp) (r : Res) : St :=
  { env := putE σ.env dst r.v
    lh := r.lh
    nid := r.nid
    dfs := σ.dfs }

section
variable {P : Program} {c : Ctx} {A : Nat → Prop} {ρ : Nat → Option BR} {σ : St} {a : Act} {w : World}

theorem Sim.put (hS : Sim c A ρ σ a w) {v : AV} {x : Value} (hv : ARep w A ρ v x) (dst : Option Tmp) (hd : ∀ d, dst = some d → d < c.n) :
    Sim c A ρ { σ with env := putE σ.env dst v } (a.put dst x) w := by
  cases dst with
  | none => exact hS
  | some d =>
    have hdn := hd d rfl
    refine { hS with size := ?_, defers := ?_, env := fun t => ?_ }
    · simp [Act.put, hS.size]
    · exact hS.defers
    · simp only [Act.put, putE, upd]
      by_cases ht : t = d
      · subst ht
        have : (a.tmps.setIfInBounds t x).getD t undef = x := by
          have hlt : t < a.tmps.size := by rw [hS.size]; exact hdn
          simp [Array.getD, hlt]
        rw [this]; simpa using hv
      · have : (a.tmps.setIfInBounds d x).getD t undef = a.tmps.getD t undef := by
          simp only [Array.getD_eq_getD_getElem?, Array.getElem?_setIfInBounds]
          rw [if_neg (by omega)]
        rw [this]; simpa [ht] using hS.env t

theorem Sim.g_lt (hS : Sim c A ρ σ a w) {b : Nat} {r : BR} {k : LB} (h : ρ b = some r) (hk : σ.lh b = some k) : r.g < w.heap.size := by
  obtain ⟨⟨cur, fr, h1, _⟩, _⟩ := hS.blk b r k h hk
  exact (Array.getElem?_eq_some_iff.1 h1).1

/-- A new block of the call's own. -/
theorem Sim.newBlock (hS : Sim c A ρ σ a w) (fresh : ρ σ.nid = none) {w' : World} (ho : w'.os = w.os) (ht : w'.tape = w.tape) (hout : w'.output = w.output) (hsz : w.heap.size ≤ w'.heap.size)
    (hold : ∀ g, g < w.heap.size → w'.heap[g]? = w.heap[g]?) (k : LB) (r : BR) (hg : w.heap.size ≤ r.g)
    (hB : BRep w' A (upd ρ σ.nid (some r)) k r) (hkl : k.live = true) :
    Sim c A (upd ρ σ.nid (some r)) { σ with lh := upd σ.lh σ.nid (some k), nid := σ.nid + 1 } a w' := by
  have hr : ∀ b r', ρ b = some r' → upd ρ σ.nid (some r) b = some r' := fun b r' h => by
    rw [zI1 _ _ _ _ (fun e => by rw [e] at h; simp_all)]; exact h
  have kp : Keeps w w' A A := fun g hA => ⟨hA, hold g (hS.lt g hA)⟩
  have back : ∀ b r', upd ρ σ.nid (some r) b = some r' → (b = σ.nid ∧ r' = r) ∨ (b ≠ σ.nid ∧ ρ b = some r') := fun b r' h => by
    by_cases e : b = σ.nid
    · subst e; simp at h; exact .inl ⟨rfl, h.symm⟩
    · rw [zI1 _ _ _ _ e] at h; exact .inr ⟨e, h⟩
  refine { size := hS.size, defers := hS.defers.mono kp hr, env := fun t => (hS.env t).mono kp hr, blk := ?_, inj := ?_, own := ?_, dead := ?_, lt := ?_, up := hS.up, new := hS.new, os := ho.trans hS.os, tape := ht.trans hS.tape, output := hout.trans hS.output, hsize := Nat.le_trans hS.hsize hsz, frame := ?_ }
  · intro b r' k' h hk
    rcases back b r' h with ⟨rfl, rfl⟩ | ⟨e, h⟩
    · simp at hk; subst hk; exact hB
    · simp only [zI1 _ _ _ _ e] at hk
      exact (hS.blk b r' k' h hk).mono kp hr (hold _ (hS.g_lt h hk))
  · intro b r1 b' r2 h h' hs hs' hgg
    rcases back b r1 h with ⟨eb, er⟩ | ⟨e, hq⟩ <;> rcases back b' r2 h' with ⟨eb', er'⟩ | ⟨e', hq'⟩
    · exact eb.trans eb'.symm
    · simp only [zI1 _ _ _ _ e'] at hs'
      obtain ⟨k', hk'⟩ := Option.isSome_iff_exists.1 hs'
      have := hS.g_lt hq' hk'; subst er; omega
    · simp only [zI1 _ _ _ _ e] at hs
      obtain ⟨k', hk'⟩ := Option.isSome_iff_exists.1 hs
      have := hS.g_lt hq hk'; subst er'; omega
    · simp only [zI1 _ _ _ _ e] at hs
      simp only [zI1 _ _ _ _ e'] at hs'
      exact hS.inj _ _ _ _ hq hq' hs hs' hgg
  · intro b r' k' h hk hl
    rcases back b r' h with ⟨rfl, rfl⟩ | ⟨e, h⟩
    · exact ⟨fun hA => by have := hS.lt _ hA; omega, .inr (Nat.le_trans hS.hsize hg)⟩
    · simp only [zI1 _ _ _ _ e] at hk
      exact hS.own b r' k' h hk hl
  · intro b r' k' h hk hl
    rcases back b r' h with ⟨rfl, rfl⟩ | ⟨e, h⟩
    · simp at hk; subst hk; rw [hkl] at hl; cases hl
    · simp only [zI1 _ _ _ _ e] at hk
      exact hS.dead b r' k' h hk hl
  · intro g hA; exact Nat.lt_of_lt_of_le (hS.lt g hA) hsz
  · intro g hg' hO; rw [hold g (Nat.lt_of_lt_of_le hg' hS.hsize)]; exact hS.frame g hg' hO

theorem zeroD_one {v : Value} {d : DV} (h : zeroD v = some d) : ∀ i, i < d.cells.length → (v.cells.getD i undef).oneCell' = true := by
  have hr := zeroD_rep h default (fun _ => True)
  intro i hi
  cases hr with
  | agg cs vs hl hone h => exact hone i hi
  | _ => simp [zeroD] at h <;> (have := zeroOne_one h; simp [DV.cells] at hi; subst hi; exact this)

theorem avOne_rep {d : AV} {v : Value} (h : avOne d = true) (hr : ARep w A ρ d v) : v.oneCell' = true := by
  cases hr with
  | d x _ hx => cases hx <;> first | rfl | simp [avOne] at h
  | _ => first | rfl | simp [avOne] at h

theorem avOne_cells {d : AV} {v : Value} (h : d.cells.all avOne = true) (hr : ARep w A ρ d v) :
    v.cells.size = d.cells.length ∧ ∀ i, i < d.cells.length → (v.cells.getD i undef).oneCell' = true ∧ ARep w A ρ (d.cells.getD i .undef) (v.cells.getD i undef) := by
  rcases hr.cells with rfl | ⟨h1, h2⟩
  · simp [AV.cells, avOne] at h
  · refine ⟨h1, fun i hi => ⟨avOne_rep ?_ (h2 i hi), h2 i hi⟩⟩
    have := List.all_eq_true.1 h (d.cells.getD i .undef) (by simp [List.getD, List.getElem?_eq_getElem hi])
    exact this

theorem dcells (d : DV) : (AV.d d).cells = d.cells.map .d := by cases d <;> rfl

theorem zG7 (l : List DV) (i : Nat) (h : i < l.length) : (l.map AV.d).getD i .undef = .d (l.getD i .inil) := by
  simp [List.getD, List.getElem?_map, List.getElem?_eq_getElem h]

theorem getD_replicate {α : Type} (n : Nat) (x d : α) (i : Nat) (h : i < n) : (List.replicate n x).getD i d = x := by
  simp [List.getD, h]

/-- New names lie from m to n alone. -/
def Names (ρ ρ' : Nat → Option BR) (m n : Nat) : Prop := m ≤ n ∧ ∀ b, ¬ (m ≤ b ∧ b < n) → ρ' b = ρ b

theorem Names.refl (ρ : Nat → Option BR) (m : Nat) : Names ρ ρ m m := ⟨Nat.le_refl _, fun _ _ => rfl⟩
theorem Names.one (ρ : Nat → Option BR) (m : Nat) (r : Option BR) : Names ρ (upd ρ m r) m (m + 1) := ⟨Nat.le_succ _, fun b h => zI1 _ _ _ _ (by omega)⟩

def Free (ρ : Nat → Option BR) (n : Nat) : Prop := ∀ b, n ≤ b → ρ b = none

/-- The names from n on are free; those that were there when the call began are as they were. -/
structure Fr (c : Ctx) (ρ : Nat → Option BR) (n : Nat) : Prop where
  free : Free ρ n
  le : c.m ≤ n
  base : ∀ b, b < c.m → ρ b = c.ρ0 b

theorem Free.step {ρ ρ' : Nat → Option BR} {m n : Nat} (h : Free ρ m) (k : Names ρ ρ' m n) : Free ρ' n := fun b hb => by
  have := k.1
  rw [k.2 b (by omega)]; exact h b (by omega)

theorem Fr.step {c : Ctx} {ρ ρ' : Nat → Option BR} {m n : Nat} (h : Fr c ρ m) (k : Names ρ ρ' m n) : Fr c ρ' n :=
  ⟨h.free.step k, Nat.le_trans h.le k.1, fun b hb => by rw [k.2 b (by have := h.le; omega)]; exact h.base b hb⟩

/-- What a walk asks of an operation: the model's operation hands back a value that stands for the result's, in a world that stands for the changed state. -/
def Yields (P : Program) (c : Ctx) (A : Nat → Prop) (ρ : Nat → Option BR) (σ : St) (a : Act) (s : Sem Value) (w : World) (r : OpR) : Prop :=
  ∃ x w' A' ρ', s.run P w = .ok x w' ∧ Sim c A' ρ' { σ with lh := r.chg.foldl (fun f p => upd f p.1 p.2) σ.lh, nid := r.nid } a w' ∧ ARep w' A' ρ' r.v x ∧ Names ρ ρ' σ.nid r.nid

theorem Yields.just (hS : Sim c A ρ σ a w) {s : Sem Value} {v : AV} (h : ∃ x, s.run P w = .ok x w ∧ ARep w A ρ v x) : Yields P c A ρ σ a s w ⟨v, [], σ.nid⟩ := by
  obtain ⟨x, h1, h2⟩ := h
  exact ⟨x, w, A, ρ, h1, hS, h2, Names.refl _ _⟩

theorem alloc_sound (hS : Sim c A ρ σ a w) (hf : ρ σ.nid = none) {t : TypeId} {ti : TI} (ht : tinfo P t = some ti) :
    Yields P c A ρ σ a (Instr.alloc t true (.tuple #[])) w ⟨.loc σ.nid ti.sz 0 0, [(σ.nid, some ⟨[.d ti.zero], ti.sz, t, true, true⟩)], σ.nid + 1⟩ := by
  obtain ⟨i, u, z, hi, hu, hz, hzd, hsz, _, _, hzl⟩ := zG5 ht
  have hdr := (zeroD_rep hzd w A)
  obtain ⟨c1, c2⟩ := hdr.cells
  have hone := zeroD_one hzd
  let r : BR := ⟨w.heap.size, 1, ti.sz⟩
  refine ⟨.pointer (some ⟨w.heap.size, 0, none⟩), w.alloc (.cells z.cells t), A, upd ρ σ.nid (some r), ?_, ?_, ?_, Names.one _ _ _⟩
  · simp [Instr.alloc, zeroValue, zK1 hi, hz, newVar, newRow]
  · refine hS.newBlock hf (w' := w.alloc (.cells z.cells t)) rfl rfl rfl (by simp) (fun g hg => heap_alloc_old w _ g hg) _ r (Nat.le_refl _) ?_ rfl
    have kp : Keeps w (w.alloc (.cells z.cells t)) A A := fun g hA => ⟨hA, heap_alloc_old w _ g (hS.lt g hA)⟩
    refine ⟨⟨z.cells, (0, 0), heap_alloc_new w _, ?_, fun _ => rfl, .inl rfl, ?_⟩, rfl, Nat.le_refl _, by simp [maxLen, r], ?_⟩
    · simp only [r]; omega
    · intro j m hj hm
      have hj0 : j = 0 := by simpa using hj
      subst hj0
      have hm' : m < ti.zero.cells.length := by rw [hzl]; exact hm
      refine ⟨z.cells.getD m undef, ?_, hone m hm', ?_⟩
      · have : m < z.cells.size := by omega
        simp [Array.getD, this]
      · simp only [List.getD_cons_zero, dcells]
        rw [zG7 _ _ hm']
        exact .d _ _ ((c2 m hm').mono kp)
    · intro j hj
      have hj0 : j = 0 := by simpa using hj
      subst hj0
      simp [dcells, hzl]
  · have := ARep.loc (w := w.alloc (.cells z.cells t)) (A := A) (ρ := upd ρ σ.nid (some r)) σ.nid ti.sz 0 0 r (by simp) rfl
    simpa using this

theorem box_sound (hS : Sim c A ρ σ a w) (hf : ρ σ.nid = none) {t : TypeId} {v : AV} {x : Value} (hx : ARep w A ρ v x) (h1 : v.cells.all avOne = true) :
    Yields P c A ρ σ a (Instr.box t x) w ⟨.loc σ.nid v.cells.length 0 0, [(σ.nid, some ⟨[v], v.cells.length, t, true, true⟩)], σ.nid + 1⟩ := by
  obtain ⟨c1, c2⟩ := avOne_cells h1 hx
  let r : BR := ⟨w.heap.size, 1, v.cells.length⟩
  have hr : ∀ b r', ρ b = some r' → upd ρ σ.nid (some r) b = some r' := fun b r' h => by
    rw [zI1 _ _ _ _ (fun e => by rw [e] at h; simp_all)]; exact h
  refine ⟨.pointer (some ⟨w.heap.size, 0, none⟩), w.alloc (.cells x.cells t), A, upd ρ σ.nid (some r), ?_, ?_, ?_, Names.one _ _ _⟩
  · simp [Instr.box, newVar, newRow]
  · refine hS.newBlock hf (w' := w.alloc (.cells x.cells t)) rfl rfl rfl (by simp) (fun g hg => heap_alloc_old w _ g hg) _ r (Nat.le_refl _) ?_ rfl
    have kp : Keeps w (w.alloc (.cells x.cells t)) A A := fun g hA => ⟨hA, heap_alloc_old w _ g (hS.lt g hA)⟩
    refine ⟨⟨x.cells, (0, 0), heap_alloc_new w _, ?_, fun _ => rfl, .inl rfl, ?_⟩, rfl, Nat.le_refl _, by simp [maxLen, r], ?_⟩
    · simp only [r]; omega
    · intro j m hj hm
      have hj0 : j = 0 := by simpa using hj
      subst hj0
      refine ⟨x.cells.getD m undef, ?_, (c2 m hm).1, ?_⟩
      · have : m < x.cells.size := by simp only at hm; omega
        simp [Array.getD, this]
      · simpa using ((c2 m hm).2.mono kp hr)
    · intro j hj
      have hj0 : j = 0 := by simpa using hj
      subst hj0
      rfl
  · have := ARep.loc (w := w.alloc (.cells x.cells t)) (A := A) (ρ := upd ρ σ.nid (some r)) σ.nid v.cells.length 0 0 r (by simp) rfl
    simpa using this
end
end Go.Proofs.Am

set_option linter.unusedVariables false
set_option linter.unusedSimpArgs false
namespace Go.Proofs.Am
open Go Go.RowKit

section
variable {P : Program} {c : Ctx} {A : Nat → Prop} {ρ : Nat → Option BR} {σ : St} {a : Act} {w : World}

theorem getElem?_of_get {cur : Array Value} {i : Nat} {v : Value} (h : cur[i]? = some v) : cur.getD i undef = v := by
  obtain ⟨hi, e⟩ := Array.getElem?_eq_some_iff.1 h
  simp [Array.getD, hi, e]

theorem load_loc_sound (hS : Sim c A ρ σ a w) {t : TypeId} {ti : TI} (hti : tinfo P t = some ti) {b es i fo : Nat} {x : Value} (hx : ARep w A ρ (.loc b es i fo) x)
    {k : LB} (hk : σ.lh b = some k) (hi : i < k.els.length) {v : AV} (h : aload ti (k.els.getD i .undef) fo = some v) :
    ∃ y, (Instr.loadAt t x).run P w = .ok y w ∧ ARep w A ρ v y := by
  cases hx with
  | loc _ _ _ _ r hr he =>
    obtain ⟨⟨cur, fr, h1, h2, h3, h4, h5⟩, hes, hlen, hcap, hels⟩ := hS.blk b r k hr hk
    have hl := hels i hi
    have cell : ∀ m, m < (k.els.getD i .undef).cells.length → ∃ v, w.cell? ⟨r.g, i * es + m, none⟩ = some v ∧ v.oneCell' = true ∧ ARep w A ρ ((k.els.getD i .undef).cells.getD m .undef) v := fun m hm => by
      obtain ⟨v, q1, q2, q3⟩ := h5 i m hi (by omega)
      refine ⟨v, ?_, q2, q3⟩
      rw [cell_of_row w r.g _ cur k.ty fr h1, ← he, hes]; exact q1
    have f : ∀ m, m < (k.els.getD i .undef).cells.length → w.cell? ⟨r.g, i * es + m, none⟩ = some (cur.getD (i * es + m) undef) := fun m hm => by
      obtain ⟨v, q1, _⟩ := cell m hm
      have q := q1
      rw [cell_of_row w r.g _ cur k.ty fr h1] at q
      rw [q1, getElem?_of_get q]
    obtain ⟨y, hy, hv⟩ := aload_sound (P := P) hti (k.els.getD i .undef) r.g (i * es) fo (fun m => cur.getD (i * es + m) undef) f
      (fun m hm => by obtain ⟨v, q1, q2, q3⟩ := cell m hm; rw [f m hm] at q1; cases q1; exact q2)
      (fun m hm => by obtain ⟨v, q1, q2, q3⟩ := cell m hm; rw [f m hm] at q1; cases q1; exact q3) h
    exact ⟨y, by simpa [Instr.loadAt, Instr.sureAddr] using hy, hv⟩

theorem load_pim_sound {t : TypeId} {ti : TI} (hti : tinfo P t = some ti) {els : List DV} {i fo : Nat} {x : Value} (hx : ARep w A ρ (.d (.pim els i fo)) x)
    {v : DV} (h : dload ti (els.getD i .inil) fo = some v) :
    ∃ y, (Instr.loadAt t x).run P w = .ok y w ∧ ARep w A ρ (.d v) y := by
  have hx := hx.ofD
  cases hx with
  | pim _ _ _ cc o es val hi hA hes hc hone hv =>
    have e := hes i hi
    obtain ⟨y, hy, hd⟩ := dload_sound (P := P) hti (els.getD i .inil) cc (o + i * es) fo (fun m => val i m) (fun m hm => hc i m hi (by omega)) (fun m hm => hone i m hi (by omega)) (fun m hm => hv i m hi (by omega)) h
    exact ⟨y, by simpa [Instr.loadAt, Instr.sureAddr] using hy, .d _ _ hd⟩

/-- Cells stored one by one. -/
theorem run_storeCells_row (g o : Nat) (ty : TypeId) (fr : Nat × Nat) : ∀ (vs : List Value) (i : Nat) (cur : Array Value) (w : World), w.heap[g]? = some (.cells cur ty fr) → (fr.1 = fr.2 ∨ cur.size ≤ fr.1) →
    o + i + vs.length ≤ cur.size → (∀ v ∈ vs, v.oneCell' = true) →
    ∃ w' cur', (storeCells ⟨g, o, none⟩ vs i).run P w = .ok () w' ∧ w'.heap[g]? = some (.cells cur' ty fr) ∧ cur'.size = cur.size ∧
      (∀ j, cur'[j]? = if o + i ≤ j ∧ j < o + i + vs.length then vs[j - (o + i)]? else cur[j]?) ∧ (∀ k, k ≠ g → w'.heap[k]? = w.heap[k]?) ∧ w'.heap.size = w.heap.size ∧ w'.os = w.os ∧ w'.tape = w.tape ∧ w'.output = w.output
  | [], i, cur, w, hg, _, _, _ => ⟨w, cur, rfl, hg, rfl, fun j => by rw [if_neg (by simp only [List.length_nil]; omega)], fun _ _ => rfl, rfl, rfl, rfl, rfl⟩
  | v :: r, i, cur, w, hg, hfr, hl, h1 => by
    have hi : o + i < cur.size := by simp at hl; omega
    have hcell : w.cell? ⟨g, o + i, none⟩ = some cur[o + i] := by simp [World.cell?, hg, hi]
    have hfro : w.frozen? ⟨g, o + i, none⟩ = false := by
      simp only [World.frozen?, hg]
      rcases hfr with h | h
      · rw [h]; simp only [Bool.and_eq_false_imp, decide_eq_true_eq, decide_eq_false_iff_not]; omega
      · simp only [Bool.and_eq_false_imp, decide_eq_true_eq, decide_eq_false_iff_not]; omega
    have hst : (store ((⟨g, o, none⟩ : Addr).add i) v).run P w = .ok () (w.setCell ⟨g, o + i, none⟩ v) := by
      rw [add_at, run_store P w _ v _ (h1 v (by simp)), hcell]
      simp [hfro]
    have hg' : (w.setCell ⟨g, o + i, none⟩ v).heap[g]? = some (.cells (cur.setIfInBounds (o + i) v) ty fr) := by
      have hlt := (Array.getElem?_eq_some_iff.1 hg).1
      have e := (Array.getElem?_eq_some_iff.1 hg).2
      simp [World.setCell, Array.getElem?_modify, hg]
    obtain ⟨w', cur', q1, q2, q3, q4, q5, q6, q7, q8, q9⟩ := run_storeCells_row g o ty fr r (i + 1) (cur.setIfInBounds (o + i) v) (w.setCell ⟨g, o + i, none⟩ v) hg' (by simpa using hfr) (by simp at hl ⊢; omega) (fun x hx => h1 x (by simp [hx]))
    refine ⟨w', cur', ?_, q2, by simpa using q3, fun j => ?_, fun k hk => ?_, ?_, q7, q8, q9⟩
    · simp only [storeCells, Sem.run_bind, hst, Result.andThen_ok, q1]
    · rw [q4 j]
      by_cases hj : j = o + i
      · subst hj
        rw [if_neg (by omega), if_pos ⟨by omega, by simp only [List.length_cons]; omega⟩]
        simp [Array.getElem?_setIfInBounds, hi]
      · by_cases hin : o + (i + 1) ≤ j ∧ j < o + (i + 1) + r.length
        · rw [if_pos hin, if_pos ⟨by omega, by simp only [List.length_cons]; omega⟩]
          rw [show j - (o + i) = (j - (o + (i + 1))) + 1 by omega]; simp
        · rw [if_neg hin, if_neg (by simp only [List.length_cons]; omega), Array.getElem?_setIfInBounds, if_neg (by omega)]
    · rw [q5 k hk, heap_setCell_other w _ k v hk]
    · rw [q6]; simp

/-- A block of the call's own changed in place. -/
theorem Sim.change (hS : Sim c A ρ σ a w) {w' : World} (ho : w'.os = w.os) (ht : w'.tape = w.tape) (hout : w'.output = w.output) (hsz : w'.heap.size = w.heap.size)
    {b : Nat} {r : BR} {k k' : LB} (hr : ρ b = some r) (hk : σ.lh b = some k) (hlive : k.live = true) (hold : ∀ g, g ≠ r.g → w'.heap[g]? = w.heap[g]?)
    (hB : Keeps w w' A A → BRep w' A ρ k' r) (hl' : k'.live = true) :
    Sim c A ρ { σ with lh := upd σ.lh b (some k') } a w' := by
  obtain ⟨hA, hO⟩ := hS.own b r k hr hk hlive
  have kp : Keeps w w' A A := fun g hg => ⟨hg, hold g (fun e => hA (e ▸ hg))⟩
  have look : ∀ b1 k1, upd σ.lh b (some k') b1 = some k1 → (b1 = b ∧ k1 = k') ∨ (b1 ≠ b ∧ σ.lh b1 = some k1) := fun b1 k1 h => by
    by_cases e : b1 = b
    · subst e; simp at h; exact .inl ⟨rfl, h.symm⟩
    · rw [zI1 _ _ _ _ e] at h; exact .inr ⟨e, h⟩
  have some1 : ∀ b1, (upd σ.lh b (some k') b1).isSome = true → (σ.lh b1).isSome = true := fun b1 h => by
    by_cases e : b1 = b
    · subst e; simp [hk]
    · rwa [zI1 _ _ _ _ e] at h
  refine { size := hS.size, defers := hS.defers.mono kp (fun _ _ h => h), env := fun t => (hS.env t).mono kp (fun _ _ h => h), blk := ?_, inj := fun b1 r1 b2 r2 h1 h2 s1 s2 hg => hS.inj b1 r1 b2 r2 h1 h2 (some1 _ s1) (some1 _ s2) hg, own := ?_, dead := ?_, lt := fun g hg => by rw [hsz]; exact hS.lt g hg, up := hS.up, new := hS.new, os := ho.trans hS.os, tape := ht.trans hS.tape, output := hout.trans hS.output, hsize := by rw [hsz]; exact hS.hsize, frame := ?_ }
  · intro b1 r1 k1 h1 hk1
    rcases look b1 k1 hk1 with ⟨rfl, rfl⟩ | ⟨e, h⟩
    · rw [hr] at h1; cases h1; exact hB kp
    · have hne : r1.g ≠ r.g := fun eg => e (hS.inj b1 r1 b r h1 hr (by simp [h]) (by simp [hk]) eg)
      exact (hS.blk b1 r1 k1 h1 h).mono kp (fun _ _ h => h) (hold _ hne)
  · intro b1 r1 k1 h1 hk1 hl1
    rcases look b1 k1 hk1 with ⟨rfl, rfl⟩ | ⟨e, h⟩
    · rw [hr] at h1; cases h1; exact ⟨hA, hO⟩
    · exact hS.own b1 r1 k1 h1 h hl1
  · intro b1 r1 k1 h1 hk1 hl1
    rcases look b1 k1 hk1 with ⟨rfl, rfl⟩ | ⟨e, h⟩
    · rw [hl'] at hl1; cases hl1
    · exact hS.dead b1 r1 k1 h1 h hl1
  · intro g hg hOg
    by_cases e : g = r.g
    · rcases hO with h | h
      · exact absurd (e ▸ h) hOg
      · omega
    · rw [hold g e]; exact hS.frame g hg hOg

theorem run_storeVar' {t : TypeId} {i : TypeInfo} (hi : P.info? t = some i) (v : Value) (hv : v.cells.size = i.size) (ad : Addr) (w : World) :
    (storeVar t ad v).run P w = (storeCells ad v.cells.toList).run P w := by
  simp [storeVar, zG8 hi, hv]

theorem splice_in {α : Type} (l v : List α) (fo m : Nat) (d : α) (h : fo ≤ l.length) (h1 : fo ≤ m) (h2 : m < fo + v.length) :
    (l.take fo ++ v ++ l.drop (fo + v.length)).getD m d = v.getD (m - fo) d := by
  have ht : (l.take fo).length = fo := by simp only [List.length_take]; omega
  simp only [List.getD_eq_getElem?_getD]
  rw [List.append_assoc, List.getElem?_append_right (by omega), ht, List.getElem?_append_left (by omega)]

theorem splice_out {α : Type} (l v : List α) (fo m : Nat) (d : α) (h : fo + v.length ≤ l.length) (h1 : m < fo ∨ fo + v.length ≤ m) :
    (l.take fo ++ v ++ l.drop (fo + v.length)).getD m d = l.getD m d := by
  have ht : (l.take fo).length = fo := by simp only [List.length_take]; omega
  simp only [List.getD_eq_getElem?_getD]
  by_cases hlt : m < fo
  · rw [List.append_assoc, List.getElem?_append_left (by omega), List.getElem?_take, if_pos hlt]
  · rw [List.append_assoc, List.getElem?_append_right (by omega), ht, List.getElem?_append_right (by omega), List.getElem?_drop]
    congr 2; omega

theorem astore_cells {e v : AV} {fo : Nat} (h : fo + v.cells.length ≤ e.cells.length) :
    (astore e fo v).cells = e.cells.take fo ++ v.cells ++ e.cells.drop (fo + v.cells.length) := by
  unfold astore
  split
  · rename_i hc
    obtain ⟨rfl, hl, _⟩ := hc
    simp [hl]
  · rfl

theorem store_sound (hS : Sim c A ρ σ a w) {t : TypeId} {ti : TI} (hti : tinfo P t = some ti) {b es i fo : Nat} {x : Value} (hx : ARep w A ρ (.loc b es i fo) x)
    {k : LB} (hk : σ.lh b = some k) (hlive : k.live = true) (hi : i < k.els.length) {v : AV} {y : Value} (hy : ARep w A ρ v y) (hvl : v.cells.length = ti.sz) (hv1 : v.cells.all avOne = true) (hfo : fo + ti.sz ≤ k.es) :
    ∃ w', (Instr.storeAt t x y).run P w = .ok () w' ∧ Sim c A ρ { σ with lh := upd σ.lh b (some { k with els := k.els.set i (astore (k.els.getD i .undef) fo v) }) } a w' := by
  obtain ⟨ii, u, z, hii, hu, _, _, hsz, _⟩ := zG5 hti
  obtain ⟨c1, c2⟩ := avOne_cells hv1 hy
  cases hx with
  | loc _ _ _ _ r hr he =>
    obtain ⟨⟨cur, fr, h1, h2, h3, h4, h5⟩, hes, hlen, hcap, hels⟩ := hS.blk b r k hr hk
    have hl := hels i hi
    have hee : es = k.es := by omega
    subst hee
    have hfit : i * k.es + fo + ti.sz ≤ cur.size := by
      rw [h2, hes]
      have : (i + 1) * k.es ≤ r.cap * k.es := Nat.mul_le_mul_right _ (by omega)
      rw [Nat.add_mul] at this; omega
    have hsz' : y.cells.toList.length = ti.sz := by simp; omega
    obtain ⟨w', cur', q1, q2, q3, q4, q5, q6, q7, q8, q9⟩ := run_storeCells_row (P := P) r.g (i * k.es + fo) k.ty fr y.cells.toList 0 cur w h1 h4 (by omega)
      (fun u hu => by
        obtain ⟨j, hj, rfl⟩ := List.mem_iff_getElem.1 hu
        have hj' : j < y.cells.size := by simpa using hj
        have := (c2 j (by omega)).1
        simpa [Array.getD, hj'] using this)
    refine ⟨w', by simpa [Instr.storeAt, Instr.sureAddr, run_storeVar' hii y (by omega)] using q1, ?_⟩
    refine hS.change q7 q8 q9 q6 hr hk hlive q5 (fun kp => ?_) hlive
    have ac := astore_cells (e := k.els.getD i .undef) (v := v) (fo := fo) (by omega)
    have acl : (astore (k.els.getD i .undef) fo v).cells.length = k.es := by rw [ac]; simp only [List.length_append, List.length_take, List.length_drop]; omega
    refine ⟨⟨cur', fr, q2, by rw [q3, h2], h3, by rw [q3]; exact h4, ?_⟩, hes, by simpa using hlen, hcap, ?_⟩
    · intro j m hj hm
      have hm : m < k.es := hm
      simp only [List.length_set] at hj
      have q4' := q4 (j * k.es + m)
      simp only [Nat.add_zero, hsz'] at q4'
      by_cases hji : j = i
      · subst hji
        have eg : (k.els.set j (astore (k.els.getD j .undef) fo v)).getD j .undef = astore (k.els.getD j .undef) fo v := by simp [List.getD, hj]
        rw [eg, ac]
        by_cases hin : fo ≤ m ∧ m < fo + ti.sz
        · rw [if_pos ⟨by omega, by omega⟩] at q4'
          have hm' : m - fo < v.cells.length := by omega
          have hm'' : m - fo < y.cells.size := by omega
          refine ⟨y.cells.getD (m - fo) undef, ?_, (c2 _ hm').1, ?_⟩
          · rw [q4', show j * k.es + m - (j * k.es + fo) = m - fo by omega]
            simp [Array.getD, hm'']
          · have e2 := splice_in (k.els.getD j .undef).cells v.cells fo m .undef (by omega) hin.1 (by omega)
            rw [e2]
            exact ((c2 _ hm').2).mono kp (fun _ _ h => h)
        · rw [if_neg (by omega)] at q4'
          obtain ⟨u', p1, p2, p3⟩ := h5 j m hj hm
          refine ⟨u', by rw [q4']; exact p1, p2, ?_⟩
          have e2 := splice_out (k.els.getD j .undef).cells v.cells fo m .undef (by omega) (by omega)
          rw [e2]; exact p3.mono kp (fun _ _ h => h)
      · have eg : (k.els.set i (astore (k.els.getD i .undef) fo v)).getD j .undef = k.els.getD j .undef := by simp [List.getD, List.getElem?_set, Ne.symm hji]
        rw [eg]
        obtain ⟨u', p1, p2, p3⟩ := h5 j m hj hm
        refine ⟨u', ?_, p2, p3.mono kp (fun _ _ h => h)⟩
        rw [q4', if_neg ?_]
        · exact p1
        · rcases Nat.lt_or_gt_of_ne hji with hlt | hgt
          · have : (j + 1) * k.es ≤ i * k.es := Nat.mul_le_mul_right _ hlt
            rw [Nat.add_mul] at this; omega
          · have : (i + 1) * k.es ≤ j * k.es := Nat.mul_le_mul_right _ hgt
            rw [Nat.add_mul] at this; omega
    · intro j hj
      simp only [List.length_set] at hj
      by_cases hji : j = i
      · subst hji
        have eg : (k.els.set j (astore (k.els.getD j .undef) fo v)).getD j .undef = astore (k.els.getD j .undef) fo v := by simp [List.getD, hj]
        rw [eg]; exact acl
      · have eg : (k.els.set i (astore (k.els.getD i .undef) fo v)).getD j .undef = k.els.getD j .undef := by simp [List.getD, List.getElem?_set, Ne.symm hji]
        rw [eg]; exact hels j hj
end
end Go.Proofs.Am

set_option linter.unusedVariables false
set_option linter.unusedSimpArgs false
namespace Go.Proofs.Am
open Go Go.RowKit

inductive All2 {α β : Type} (R : α → β → Prop) : List α → List β → Prop where
  | nil : All2 R [] []
  | cons {a : α} {b : β} {l : List α} {r : List β} (h : R a b) (t : All2 R l r) : All2 R (a :: l) (b :: r)

theorem All2.map {α β γ : Type} {R : β → γ → Prop} {f : α → β} {g : α → γ} (l : List α) (h : ∀ x ∈ l, R (f x) (g x)) : All2 R (l.map f) (l.map g) := by
  induction l with
  | nil => exact .nil
  | cons x l ih => exact .cons (h x (by simp)) (ih fun y hy => h y (by simp [hy]))

section
variable {P : Program} {c : Ctx} {A : Nat → Prop} {ρ : Nat → Option BR} {σ : St} {a : Act} {w : World}

theorem fold_set (off : Nat) : ∀ (l : List Value) (s : Nat) (cells : Array Value),
    ((l.zipIdx s).foldl (fun cs (p : Value × Nat) => cs.setIfInBounds (off + p.2) p.1) cells).size = cells.size ∧
    ∀ k, ((l.zipIdx s).foldl (fun cs (p : Value × Nat) => cs.setIfInBounds (off + p.2) p.1) cells)[k]? = if off + s ≤ k ∧ k < off + s + l.length ∧ k < cells.size then l[k - (off + s)]? else cells[k]?
  | [], s, cells => by simp; intro k h1 h2; omega
  | v :: r, s, cells => by
    obtain ⟨h1, h2⟩ := fold_set off r (s + 1) (cells.setIfInBounds (off + s) v)
    simp only [List.zipIdx_cons, List.foldl_cons]
    refine ⟨by simpa using h1, fun k => ?_⟩
    rw [h2 k]
    simp only [Array.size_setIfInBounds, List.length_cons]
    by_cases hk : k = off + s
    · subst hk
      rw [if_neg (by omega), Array.getElem?_setIfInBounds]
      by_cases hl : off + s < cells.size
      · rw [if_pos rfl, if_pos hl, if_pos ⟨by omega, by omega, hl⟩]; simp
      · rw [if_pos rfl, if_neg hl, if_neg (by omega)]; simp [hl]
    · by_cases hin : off + (s + 1) ≤ k ∧ k < off + (s + 1) + r.length ∧ k < cells.size
      · rw [if_pos hin, if_pos ⟨by omega, by omega, hin.2.2⟩, show k - (off + s) = (k - (off + (s + 1))) + 1 by omega]; simp
      · rw [if_neg hin, if_neg (by omega), Array.getElem?_setIfInBounds, if_neg (by omega)]

theorem fill_fold (off : Nat) (vs : Array Value) (cells : Array Value) :
    (vs.zipIdx.foldl (fun cs (p : Value × Nat) => cs.setIfInBounds (off + p.2) p.1) cells).size = cells.size ∧
    ∀ k, (vs.zipIdx.foldl (fun cs (p : Value × Nat) => cs.setIfInBounds (off + p.2) p.1) cells)[k]? = if off ≤ k ∧ k < off + vs.size ∧ k < cells.size then vs[k - off]? else cells[k]? := by
  have h := fold_set off vs.toList 0 cells
  have e : vs.zipIdx.toList = vs.toList.zipIdx := by simp
  rw [← e, Array.foldl_toList] at h
  simpa using h

/-- An array of cells stands for elements. -/
structure RowOf (w : World) (A : Nat → Prop) (ρ : Nat → Option BR) (es : Nat) (els : List AV) (arr : Array Value) : Prop where
  size : arr.size = els.length * es
  cell : ∀ j m, j < els.length → m < es → ∃ v, arr[j * es + m]? = some v ∧ v.oneCell' = true ∧ ARep w A ρ ((els.getD j .undef).cells.getD m .undef) v
  els : ∀ j, j < els.length → (els.getD j .undef).cells.length = es

theorem mul_lt_of {i n es m : Nat} (hi : i < n) (hm : m < es) : i * es + m < n * es := by
  have : (i + 1) * es ≤ n * es := Nat.mul_le_mul_right _ hi
  rw [Nat.add_mul] at this; omega

theorem fillL_sound {es : Nat} : ∀ (parts : List (Nat × AV)) (vals : List (Nat × Value)) (els els' : List AV) (arr : Array Value), RowOf w A ρ es els arr →
    All2 (fun p q => p.1 = q.1 ∧ ARep w A ρ p.2 q.2) parts vals → (∀ p ∈ parts, p.2.cells.all avOne = true) → fillL es els parts = some els' →
    ∃ arr', Instr.fill (fun i => some (i * es, es)) arr vals = some arr' ∧ RowOf w A ρ es els' arr' ∧ els'.length = els.length := by
  intro parts vals els els' arr hR hF
  induction hF generalizing els arr with
  | nil => intro _ h; simp only [fillL, Option.some.injEq] at h; subst h; exact ⟨arr, rfl, hR, rfl⟩
  | @cons p q ps qs hpq hF ih =>
    intro h1 h
    obtain ⟨i, v⟩ := p
    obtain ⟨i', x⟩ := q
    obtain ⟨rfl, hx⟩ := hpq
    simp only [fillL] at h
    split at h
    · rename_i hc
      obtain ⟨hi, hl⟩ := hc
      have hx : ARep w A ρ v x := hx
      obtain ⟨c1, c2⟩ := avOne_cells (d := v) (v := x) (h1 (i, v) (by simp)) hx
      have hl : v.cells.length = es := hl
      have hi : i < els.length := hi
      have hfit : i * es + es ≤ arr.size := by
        rw [hR.size]
        have : (i + 1) * es ≤ els.length * es := Nat.mul_le_mul_right _ hi
        rw [Nat.add_mul] at this; omega
      obtain ⟨f1, f2⟩ := fill_fold (i * es) x.cells arr
      have hR' : RowOf w A ρ es (els.set i v) (x.cells.zipIdx.foldl (fun cs (p : Value × Nat) => cs.setIfInBounds (i * es + p.2) p.1) arr) := by
        refine ⟨by rw [f1, hR.size]; simp, fun j m hj hm => ?_, fun j hj => ?_⟩
        · simp only [List.length_set] at hj
          rw [f2]
          by_cases hji : j = i
          · subst hji
            rw [if_pos ⟨by omega, by omega, by omega⟩, show j * es + m - j * es = m by omega]
            have hm' : m < x.cells.size := by omega
            refine ⟨x.cells.getD m undef, by simp [Array.getD, hm'], (c2 m (by omega)).1, ?_⟩
            have eg : (els.set j v).getD j .undef = v := by simp [List.getD, hj]
            rw [eg]; exact (c2 m (by omega)).2
          · rw [if_neg ?_]
            · have eg : (els.set i v).getD j .undef = els.getD j .undef := by simp [List.getD, List.getElem?_set, Ne.symm hji]
              rw [eg]; exact hR.cell j m hj hm
            · rcases Nat.lt_or_gt_of_ne hji with hlt | hgt
              · have : (j + 1) * es ≤ i * es := Nat.mul_le_mul_right _ hlt
                rw [Nat.add_mul] at this; omega
              · have : (i + 1) * es ≤ j * es := Nat.mul_le_mul_right _ hgt
                rw [Nat.add_mul] at this; omega
        · simp only [List.length_set] at hj
          by_cases hji : j = i
          · subst hji
            have eg : (els.set j v).getD j .undef = v := by simp [List.getD, hj]
            rw [eg]; exact hl
          · have eg : (els.set i v).getD j .undef = els.getD j .undef := by simp [List.getD, List.getElem?_set, Ne.symm hji]
            rw [eg]; exact hR.els j hj
      obtain ⟨arr', g1, g2, g3⟩ := ih _ _ hR' (fun p hp => h1 p (by simp [hp])) h
      refine ⟨arr', ?_, g2, by simpa using g3⟩
      simp only [Instr.fill]
      have e1 : (decide (x.cells.size ≠ es) || decide (i * es + x.cells.size > arr.size)) = false := by
        rw [Bool.or_eq_false_iff]; exact ⟨by simp; omega, by simp; omega⟩
      rw [e1]
      exact g1
    · cases h

theorem zero_row {ti : TI} {z : Value} {n : Nat} (hzd : zeroD z = some ti.zero) (hzl : ti.zero.cells.length = ti.sz) (hpos : n * ti.sz ≠ 0 ∨ True) :
    RowOf w A ρ ti.sz (List.replicate n (.d ti.zero)) ((Array.range (n * ti.sz)).map (z.cells[· % z.cells.size]!)) := by
  obtain ⟨c1, c2⟩ := (zeroD_rep hzd w A).cells
  have hone := zeroD_one hzd
  refine ⟨by simp, fun j m hj hm => ?_, fun j hj => ?_⟩
  · simp only [List.length_replicate] at hj
    have hlt := mul_lt_of hj hm
    have hm' : m < ti.zero.cells.length := by omega
    refine ⟨z.cells.getD m undef, ?_, hone m hm', ?_⟩
    · have hmod : (j * ti.sz + m) % z.cells.size = m := by
        rw [c1, hzl, Nat.mul_comm, Nat.mul_add_mod]; exact Nat.mod_eq_of_lt hm
      have hsz : m < z.cells.size := by omega
      simp only [Array.getElem?_map, Array.getElem?_range, hlt, if_true, Option.map_some, hmod]
      simp [Array.getD, hsz, getElem!_pos]
    · rw [getD_replicate _ _ _ _ hj, dcells, zG7 _ _ hm']
      exact .d _ _ (c2 m hm')
  · simp only [List.length_replicate] at hj
    rw [getD_replicate _ _ _ _ hj, dcells]; simpa using hzl

theorem newRow_sound (hS : Sim c A ρ σ a w) (hf : ρ σ.nid = none) {es : Nat} {els : List AV} {arr : Array Value} (hR : RowOf w A ρ es els arr) (t : TypeId) (hm : els.length ≤ maxLen) :
    ∃ ρ', Sim c A ρ' { σ with lh := upd σ.lh σ.nid (some ⟨els, es, t, true, true⟩), nid := σ.nid + 1 } a (w.alloc (.cells arr t)) ∧
      (∀ n, n ≤ els.length → ARep (w.alloc (.cells arr t)) A ρ' (.slc σ.nid es 0 n) (.slice (some ⟨w.heap.size, 0, none⟩) n els.length)) ∧ Names ρ ρ' σ.nid (σ.nid + 1) := by
  let r : BR := ⟨w.heap.size, els.length, es⟩
  have hr : ∀ b r', ρ b = some r' → upd ρ σ.nid (some r) b = some r' := fun b r' h => by
    rw [zI1 _ _ _ _ (fun e => by rw [e, hf] at h; cases h)]; exact h
  have kp : Keeps w (w.alloc (.cells arr t)) A A := fun g hA => ⟨hA, heap_alloc_old w _ g (hS.lt g hA)⟩
  refine ⟨upd ρ σ.nid (some r), ?_, fun n hn => ?_, Names.one _ _ _⟩
  · refine hS.newBlock hf (w' := w.alloc (.cells arr t)) rfl rfl rfl (by simp) (fun g hg => heap_alloc_old w _ g hg) _ r (Nat.le_refl _) ?_ rfl
    exact ⟨⟨arr, (0, 0), heap_alloc_new w _, hR.size, fun _ => rfl, .inl rfl, fun j m hj hm => let ⟨v, x, y, z⟩ := hR.cell j m hj hm; ⟨v, x, y, z.mono kp hr⟩⟩, rfl, Nat.le_refl _, hm, hR.els⟩
  · have := ARep.slc (w := w.alloc (.cells arr t)) (A := A) (ρ := upd ρ σ.nid (some r)) σ.nid es 0 n r (by simp) rfl (by simpa [r] using hn)
    simpa [r] using this

theorem buildSlice_sound (hS : Sim c A ρ σ a w) (hfree : ρ σ.nid = none) {t e : TypeId} {ti : TI} (hu : P.underlying t = some (.slice e)) (hti : tinfo P e = some ti) {len : Nat} (hlen : len * ti.sz ≤ 16777216) (hsz0 : 0 < ti.sz)
    {parts : List (Nat × AV)} {vals : Array (Nat × Value)} (hF : All2 (fun p q => p.1 = q.1 ∧ ARep w A ρ p.2 q.2) parts vals.toList) (h1 : ∀ p ∈ parts, p.2.cells.all avOne = true)
    {els : List AV} (hf : fillL ti.sz (List.replicate len (.d ti.zero)) parts = some els) :
    Yields P c A ρ σ a (Instr.buildSlice t len vals) w ⟨.slc σ.nid ti.sz 0 len, [(σ.nid, some ⟨els, ti.sz, e, true, true⟩)], σ.nid + 1⟩ := by
  obtain ⟨ii, u, z, hii, hu', hz, hzd, hsz, _, _, hzl⟩ := zG5 hti
  obtain ⟨arr, g1, g2, g3⟩ := fillL_sound parts vals.toList _ els _ (zero_row (w := w) (A := A) (ρ := ρ) (n := len) hzd hzl (.inr trivial)) hF h1 hf
  simp only [List.length_replicate] at g3
  have hll : len ≤ 16777216 := Nat.le_trans (Nat.le_mul_of_pos_right _ hsz0) hlen
  obtain ⟨ρ', s1, s2, s3⟩ := newRow_sound hS hfree g2 e (by rw [g3]; simp only [maxLen]; omega)
  refine ⟨.slice (some ⟨w.heap.size, 0, none⟩) len len, w.alloc (.cells arr e), A, ρ', ?_, s1, ?_, s3⟩
  · have hg1 : Instr.fill (fun i => some (i * ii.size, ii.size)) ((Array.range (len * ii.size)).map (z.cells[· % z.cells.size]!)) vals.toList = some arr := by rw [← hsz]; exact g1
    have hle : ¬ (16777216 < len * ii.size) := by rw [← hsz]; omega
    by_cases h0 : len * ii.size = 0
    · have hl0 : len = 0 := by
        rcases Nat.mul_eq_zero.1 h0 with h | h
        · exact h
        · omega
      subst hl0
      have e0 : Array.range 0 = #[] := rfl
      simp only [Nat.zero_mul, e0, Array.map_empty] at hg1
      simp [Instr.buildSlice, run_underlying hu, zG8 hii, e0, hg1, newRow]
    · simp [Instr.buildSlice, run_underlying hu, zG8 hii, hle, h0, zeroValue, zK1 hii, hz, hg1, newRow]
  · have := s2 len (by omega)
    rw [g3] at this; exact this

theorem makeSlice_sound (hS : Sim c A ρ σ a w) (hfree : ρ σ.nid = none) {t e : TypeId} {ti : TI} (hu : P.underlying t = some (.slice e)) (hti : tinfo P e = some ti) {n m : Int} (h0 : 0 ≤ n) (hnm : n ≤ m) (hm : m ≤ big) (hb : ti.bytes ≤ 32768) :
    Yields P c A ρ σ a (Instr.makeSlice t (.int .i64 n) (.int .i64 m)) w ⟨.slc σ.nid ti.sz 0 n.toNat, [(σ.nid, some ⟨List.replicate m.toNat (.d ti.zero), ti.sz, e, true, true⟩)], σ.nid + 1⟩ := by
  obtain ⟨ii, u, z, hii, hu', hz, hzd, hsz, _, hby, hzl⟩ := zG5 hti
  have hR := zero_row (w := w) (A := A) (ρ := ρ) (n := m.toNat) hzd hzl (.inr trivial)
  simp only [big] at hm
  obtain ⟨ρ', s1, s2, s3⟩ := newRow_sound hS hfree hR e (by simp only [List.length_replicate, maxLen]; omega)
  have hbb : (ii.bytes : Int) * m ≤ 281474976710656 := by
    have h1 : (ii.bytes : Int) ≤ 32768 := by omega
    have h2 : (ii.bytes : Int) * m ≤ 32768 * m := Int.mul_le_mul_of_nonneg_right h1 (by omega)
    omega
  have hrun := run_make (P := P) w t e ii z hu hii hz .i64 .i64 n m h0 hnm hbb (by omega)
  refine ⟨.slice (some ⟨w.heap.size, 0, none⟩) n.toNat m.toNat, _, A, ρ', ?_, s1, ?_, s3⟩
  · rw [hrun]; unfold madeCells; rw [hsz]
  · have := s2 n.toNat (by simp; omega)
    simpa using this

structure RowC (w : World) (A : Nat → Prop) (ρ : Nat → Option BR) (cs : List AV) (arr : Array Value) : Prop where
  size : arr.size = cs.length
  cell : ∀ m, m < cs.length → ∃ v, arr[m]? = some v ∧ v.oneCell' = true ∧ ARep w A ρ (cs.getD m .undef) v

theorem fillA_sound {pl : List (Nat × Nat)} : ∀ (parts : List (Nat × AV)) (vals : List (Nat × Value)) (cs cs' : List AV) (arr : Array Value), RowC w A ρ cs arr →
    All2 (fun p q => p.1 = q.1 ∧ ARep w A ρ p.2 q.2) parts vals → (∀ p ∈ parts, p.2.cells.all avOne = true) → fillA pl cs parts = some cs' →
    ∃ arr', Instr.fill (fun i => pl[i]?) arr vals = some arr' ∧ RowC w A ρ cs' arr' ∧ cs'.length = cs.length := by
  intro parts vals cs cs' arr hR hF
  induction hF generalizing cs arr with
  | nil => intro _ h; simp only [fillA, Option.some.injEq] at h; subst h; exact ⟨arr, rfl, hR, rfl⟩
  | @cons p q ps qs hpq hF ih =>
    intro h1 h
    obtain ⟨i, v⟩ := p
    obtain ⟨i', x⟩ := q
    obtain ⟨rfl, hx⟩ := hpq
    have hx : ARep w A ρ v x := hx
    obtain ⟨c1, c2⟩ := avOne_cells (d := v) (v := x) (h1 (i, v) (by simp)) hx
    simp only [fillA] at h
    split at h
    · rename_i off sz hpl
      split at h
      · rename_i hc
        obtain ⟨hl, hfit⟩ := hc
        have hl : v.cells.length = sz := hl
        have hsz := hR.size
        obtain ⟨f1, f2⟩ := fill_fold off x.cells arr
        have hR' : RowC w A ρ (cs.take off ++ v.cells ++ cs.drop (off + v.cells.length)) (x.cells.zipIdx.foldl (fun cs (p : Value × Nat) => cs.setIfInBounds (off + p.2) p.1) arr) := by
          refine ⟨by rw [f1, hsz]; simp only [List.length_append, List.length_take, List.length_drop]; omega, fun m hm => ?_⟩
          have hm : m < cs.length := by simp only [List.length_append, List.length_take, List.length_drop] at hm; omega
          rw [f2]
          by_cases hin : off ≤ m ∧ m < off + v.cells.length
          · rw [if_pos ⟨by omega, by omega, by omega⟩, splice_in _ _ _ _ _ (by omega) hin.1 hin.2]
            have hm' : m - off < x.cells.size := by omega
            exact ⟨x.cells.getD (m - off) undef, by simp [Array.getD, hm'], (c2 _ (by omega)).1, (c2 _ (by omega)).2⟩
          · rw [if_neg (by omega), splice_out _ _ _ _ _ (by omega) (by omega)]
            exact hR.cell m hm
        obtain ⟨arr', g1, g2, g3⟩ := ih _ _ hR' (fun p hp => h1 p (by simp [hp])) h
        refine ⟨arr', ?_, g2, by rw [g3]; simp only [List.length_append, List.length_take, List.length_drop]; omega⟩
        have hpl' : pl[i]? = some (off, sz) := hpl
        simp only [Instr.fill, hpl']
        have e1 : (decide (x.cells.size ≠ sz) || decide (off + x.cells.size > arr.size)) = false := by
          rw [Bool.or_eq_false_iff]; exact ⟨by simp; omega, by simp; omega⟩
        rw [e1]
        exact g1
      · cases h
    · cases h

theorem fill_up {f g : Nat → Option (Nat × Nat)} (h : ∀ i p, f i = some p → g i = some p) : ∀ (vals : List (Nat × Value)) (arr r : Array Value), Instr.fill f arr vals = some r → Instr.fill g arr vals = some r
  | [], arr, r, e => e
  | (i, v) :: rest, arr, r, e => by
    simp only [Instr.fill] at e ⊢
    cases hf : f i with
    | none => simp [hf] at e
    | some p =>
      rw [h i p hf]
      rw [hf] at e
      obtain ⟨off, sz⟩ := p
      simp only at e ⊢
      split at e
      · cases e
      · rename_i hc
        rw [if_neg hc]
        exact fill_up h rest _ r e

theorem build_sound {t : TypeId} {ti : TI} (hti : tinfo P t = some ti) (hagg : ti.agg = true) {pl : List (Nat × Nat)} (hpl : places P t = some pl)
    {parts : List (Nat × AV)} {vals : Array (Nat × Value)} (hF : All2 (fun p q => p.1 = q.1 ∧ ARep w A ρ p.2 q.2) parts vals.toList) (h1 : ∀ p ∈ parts, p.2.cells.all avOne = true)
    {cs : List AV} (hf : fillA pl (ti.zero.cells.map .d) parts = some cs) :
    ∃ x, (Instr.build t vals).run P w = .ok x w ∧ ARep w A ρ (.agg cs) x := by
  obtain ⟨ii, u, z, hii, hu, hz, hzd, hsz, hag, _, hzl⟩ := zG5 hti
  obtain ⟨c1, c2⟩ := (zeroD_rep hzd w A).cells
  have hone := zeroD_one hzd
  have hR0 : RowC w A ρ (ti.zero.cells.map .d) z.cells := by
    refine ⟨by simpa using c1, fun m hm => ?_⟩
    have hm : m < ti.zero.cells.length := by simpa using hm
    have hm' : m < z.cells.size := by omega
    refine ⟨z.cells.getD m undef, by simp [Array.getD, hm'], hone m hm, ?_⟩
    rw [zG7 _ _ hm]; exact .d _ _ (c2 m hm)
  obtain ⟨arr, g1, g2, g3⟩ := fillA_sound parts vals.toList _ cs _ hR0 hF h1 hf
  refine ⟨.agg arr, ?_, .agg cs arr g2.size (fun i hi => ?_) (fun i hi => ?_)⟩
  · unfold places at hpl
    split at hpl
    · rename_i fs hu2
      have := run_places (P := P) w _ _ hpl
      simp [Instr.build, run_underlying hu2, zeroValue, zK1 hii, hz, Array.mapM_eq_mapM_toList, this, g1]
    · rename_i n e hu2
      cases hie : P.info? e with
      | none => simp [hie] at hpl
      | some ie =>
        simp only [hie, Option.map_some, Option.some.injEq] at hpl
        have g1' := fill_up (g := fun i => some (i * ie.size, ie.size)) (fun i p hp => by
          subst hpl
          simp only [List.getElem?_map, List.getElem?_range] at hp
          cases hi : (List.range n)[i]? with
          | none => simp [hi] at hp
          | some j =>
            have : j = i := by
              have := List.getElem?_eq_some_iff.1 hi
              obtain ⟨q1, q2⟩ := this
              simp at q2; exact q2.symm
            subst this
            simp [hi] at hp
            simpa using hp) _ _ _ g1
        simp [Instr.build, run_underlying hu2, zG8 hie, zeroValue, zK1 hii, hz, g1']
    · cases hpl
  · obtain ⟨v, q1, q2, q3⟩ := g2.cell i hi; rw [getElem?_of_get q1]; exact q2
  · obtain ⟨v, q1, q2, q3⟩ := g2.cell i hi; rw [getElem?_of_get q1]; exact q3
end
end Go.Proofs.Am

set_option linter.unusedVariables false
set_option linter.unusedSimpArgs false
namespace Go.Proofs.Am
open Go Go.RowKit

section
variable {P : Program} {c : Ctx} {A : Nat → Prop} {ρ : Nat → Option BR} {σ : St} {a : Act} {w : World}

/-- The elements of a source: their cells as the memory holds them. -/
structure Source (w : World) (A : Nat → Prop) (ρ : Nat → Option BR) (es : Nat) (els : List AV) (ad : Addr) (news : List Value) : Prop where
  len : news.length = els.length * es
  mem : ∀ j u, news[j]? = some u → w.cell? (ad.add j) = some u
  one : ∀ u ∈ news, u.oneCell' = true
  rep : ∀ j m, j < els.length → m < es → ∃ v, news[j * es + m]? = some v ∧ ARep w A ρ ((els.getD j .undef).cells.getD m .undef) v
  els : ∀ j, j < els.length → (els.getD j .undef).cells.length = es

theorem source_of {es c0 o : Nat} {els : List AV} {ad : Addr} (val : Nat → Nat → Value) (ha : 0 < els.length → ad = ⟨c0, o, none⟩)
    (hc : ∀ j m, j < els.length → m < es → w.cell? ⟨c0, o + j * es + m, none⟩ = some (val j m))
    (hone : ∀ j m, j < els.length → m < es → (val j m).oneCell' = true)
    (hv : ∀ j m, j < els.length → m < es → ARep w A ρ ((els.getD j .undef).cells.getD m .undef) (val j m))
    (hes : ∀ j, j < els.length → (els.getD j .undef).cells.length = es) :
    ∃ news, Source w A ρ es els ad news := by
  have at_ : ∀ i, i < els.length * es → ∃ j m, j < els.length ∧ m < es ∧ i = j * es + m ∧ i / es = j ∧ i % es = m := fun i hi => by
    have hpos : 0 < es := by
      rcases Nat.eq_zero_or_pos es with h | h
      · subst h; simp at hi
      · exact h
    exact ⟨i / es, i % es, Nat.div_lt_of_lt_mul (by rw [Nat.mul_comm]; exact hi), Nat.mod_lt _ hpos, (Nat.div_add_mod' i es).symm, rfl, rfl⟩
  refine ⟨(List.range (els.length * es)).map fun i => val (i / es) (i % es), by simp, fun j u hu => ?_, fun u hu => ?_, fun j m hj hm => ?_, hes⟩
  · have hj : j < els.length * es := by
      have := (List.getElem?_eq_some_iff.1 hu).1; simpa using this
    simp [hj] at hu
    obtain ⟨x, m, hx, hm, rfl, e1, e2⟩ := at_ j hj
    rw [ha (by omega), add_at, ← Nat.add_assoc, hc x m hx hm]
    rw [e1, e2] at hu; rw [hu]
  · simp at hu
    obtain ⟨i, hi, rfl⟩ := hu
    obtain ⟨x, m, hx, hm, _, e1, e2⟩ := at_ i hi
    rw [e1, e2]; exact hone x m hx hm
  · have hlt := mul_lt_of hj hm
    have hpos : 0 < es := by omega
    refine ⟨val j m, ?_, hv j m hj hm⟩
    have e1 : (j * es + m) / es = j := by rw [Nat.mul_comm, Nat.mul_add_div hpos]; simp [Nat.div_eq_of_lt hm]
    have e2 : (j * es + m) % es = m := by rw [Nat.mul_comm, Nat.mul_add_mod]; exact Nat.mod_eq_of_lt hm
    simp [hlt, e1, e2]

/-- Appended: the world, the new row. -/
theorem append_run {t t' ty e : TypeId} {ti : TI} (hu : P.underlying t = some (.slice e)) {e' : TypeId} (hu' : P.underlying t' = some (.slice e')) (hti : tinfo P e = some ti) (h0 : 0 < ti.sz) (hby : ti.bytes ≤ 32768)
    (v : Value) (n : Nat) (xs : List Value) (hown : w.ownsRow 0 e ti.sz v n xs) (ad : Addr) (m cc : Nat) (news : List Value) (hl : news.length = m * ti.sz)
    (hnews : ∀ j u, news[j]? = some u → w.cell? (ad.add j) = some u) (h1 : ∀ u ∈ news, u.oneCell' = true) (hb : n + m ≤ big) :
    ∃ v' w', (Builtin.append_ #[t, t'] ty #[v, .slice (some ad) m cc]).run P w = .ok v' w' ∧ w'.ownsRow 0 e ti.sz v' (n + m) (xs ++ news) ∧ w.grownBy w' v.ownBlock ∧
      (v' = .slice none 0 0 ↔ v = .slice none 0 0 ∧ m = 0) ∧ (v'.ownBlock = v.ownBlock ∨ v'.ownBlock = some w.heap.size) := by
  obtain ⟨ii, u, z, hii, hu2, hz, hzd, hsz, _, hbyt, hzl⟩ := zG5 hti
  have hzs : z.cells.size = ti.sz := by rw [(zeroD_rep hzd w (fun _ => True)).cells.1, hzl]
  simp only [big] at hb
  have hbb : (n + m) * ii.bytes ≤ 140737488355328 := by
    have : (n + m) * ii.bytes ≤ 4294967296 * 32768 := Nat.mul_le_mul hb (by omega)
    omega
  have := run_append_own_at (P := P) w 0 t ty e ii z ti.sz ii.bytes hu hii hz hsz.symm rfl hzs h0 v n xs hown ad m cc news hl hnews h1 (by simp only [maxLen]; omega) hbb (by omega)
  have e1 : (Builtin.append_ #[t, t'] ty #[v, .slice (some ad) m cc]).run P w = (Builtin.append_ #[t, t] ty #[v, .slice (some ad) m cc]).run P w := by
    rcases hown.2 with ⟨rfl, _⟩ | ⟨g, cap, cur, rfl, _⟩ <;> simp [Builtin.append_, run_underlying hu, run_underlying hu', Builtin.lenOf]
  rw [e1]; exact this

def oldRow (σ : St) (ρ : Nat → Option BR) : Option Nat → Option Nat → Prop
  | none, row => row = none
  | some b, row => ∃ r k, ρ b = some r ∧ σ.lh b = some k ∧ k.live = true ∧ row = some r.g

def kill (lh : Nat → Option LB) : Option Nat → Nat → Option LB
  | none => lh
  | some b => upd lh b none

/-- The new row as a local block; the old one, if there was one, is given up. -/
theorem append_sim (hS : Sim c A ρ σ a w) (hf : ρ σ.nid = none) {w' : World} {e : TypeId} {es : Nat} {els : List AV} (old : Option Nat) (row : Option Nat)
    (hold : oldRow σ ρ old row)
    (hg : w.grownBy w' row) {g cap : Nat} {cur : Array Value} (hh : w'.heap[g]? = some (.cells cur e (0, 0))) (hnc : els.length ≤ cap) (hcm : cap ≤ maxLen) (hcs : cur.size = cap * es)
    (hgg : some g = row ∨ g = w.heap.size)
    (hcell : Keeps w w' A A → ∀ j m, j < els.length → m < es → ∃ v, cur[j * es + m]? = some v ∧ v.oneCell' = true ∧ ARep w' A ρ ((els.getD j .undef).cells.getD m .undef) v)
    (hels : ∀ j, j < els.length → (els.getD j .undef).cells.length = es) :
    ∃ ρ', Sim c A ρ' { σ with lh := upd (kill σ.lh old) σ.nid (some ⟨els, es, e, true, true⟩), nid := σ.nid + 1 } a w' ∧
      (∀ n, n ≤ cap → ARep w' A ρ' (.slc σ.nid es 0 n) (.slice (some ⟨g, 0, none⟩) n cap)) ∧ Names ρ ρ' σ.nid (σ.nid + 1) := by
  let r0 : BR := ⟨g, cap, es⟩
  have fresh : ∀ b r, ρ b = some r → b ≠ σ.nid := fun b r h e => by rw [e, hf] at h; cases h
  have hr : ∀ b r', ρ b = some r' → upd ρ σ.nid (some r0) b = some r' := fun b r' h => by rw [zI1 _ _ _ _ (fresh b r' h)]; exact h
  have hnotA : ∀ gg, row = some gg → ¬ A gg ∧ (c.O0 gg ∨ c.w0.heap.size ≤ gg) ∧ gg < w.heap.size := fun gg e1 => by
    cases old with
    | none => simp only [oldRow] at hold; rw [hold] at e1; cases e1
    | some b =>
      obtain ⟨r, k, p1, p2, p3, p4⟩ := hold
      rw [p4] at e1; cases e1
      exact ⟨(hS.own b r k p1 p2 p3).1, (hS.own b r k p1 p2 p3).2, hS.g_lt p1 p2⟩
  have same : ∀ gg, gg < w.heap.size → some gg ≠ row → w'.heap[gg]? = w.heap[gg]? := hg.block
  have kp : Keeps w w' A A := fun gg hA => ⟨hA, same gg (hS.lt gg hA) (fun e1 => (hnotA gg e1.symm).1 hA)⟩
  have back : ∀ b r', upd ρ σ.nid (some r0) b = some r' → (b = σ.nid ∧ r' = r0) ∨ (b ≠ σ.nid ∧ ρ b = some r') := fun b r' h => by
    by_cases e1 : b = σ.nid
    · subst e1; simp at h; exact .inl ⟨rfl, h.symm⟩
    · rw [zI1 _ _ _ _ e1] at h; exact .inr ⟨e1, h⟩
  have look : ∀ b, b ≠ σ.nid → ∀ k, upd (kill σ.lh old) σ.nid (some ⟨els, es, e, true, true⟩) b = some k → σ.lh b = some k ∧ some b ≠ old := fun b hb k h => by
    rw [zI1 _ _ _ _ hb] at h
    cases old with
    | none => exact ⟨h, by simp⟩
    | some b0 =>
      simp only [kill] at h
      by_cases e1 : b = b0
      · subst e1; simp at h
      · rw [zI1 _ _ _ _ e1] at h; exact ⟨h, by simpa using e1⟩
  have gne : ∀ b r1 k1, ρ b = some r1 → σ.lh b = some k1 → some b ≠ old → r1.g ≠ g ∧ some r1.g ≠ row := fun b r1 k1 p1 p2 p3 => by
    have q : some r1.g ≠ row := fun e1 => by
      cases old with
      | none => simp only [oldRow] at hold; rw [hold] at e1; cases e1
      | some b0 =>
        obtain ⟨r, k, s1, s2, s3, s4⟩ := hold
        have e2 : r1.g = r.g := by rw [s4] at e1; simpa using e1
        exact p3 (by rw [hS.inj b r1 b0 r p1 s1 (by simp [p2]) (by simp [s2]) e2])
    refine ⟨fun e1 => ?_, q⟩
    rcases hgg with h | h
    · exact q (by rw [e1]; exact h)
    · have := hS.g_lt p1 p2; omega
  have hglt : g < w'.heap.size := (Array.getElem?_eq_some_iff.1 hh).1
  have hgA : ¬ A g ∧ (c.O0 g ∨ c.w0.heap.size ≤ g) := by
    rcases hgg with h | h
    · exact ⟨(hnotA g h.symm).1, (hnotA g h.symm).2.1⟩
    · exact ⟨fun hA => by have := hS.lt g hA; omega, .inr (by rw [h]; exact hS.hsize)⟩
  refine ⟨upd ρ σ.nid (some r0), ?_, fun n hn => ?_, Names.one _ _ _⟩
  · refine { size := hS.size, defers := hS.defers.mono kp hr, env := fun t => (hS.env t).mono kp hr, blk := ?_, inj := ?_, own := ?_, dead := ?_, lt := fun gg hA => Nat.lt_of_lt_of_le (hS.lt gg hA) hg.size, up := hS.up, new := hS.new, os := hg.os.trans hS.os, tape := hg.tape.trans hS.tape, output := hg.output.trans hS.output, hsize := Nat.le_trans hS.hsize hg.size, frame := ?_ }
    · intro b r' k' h hk
      rcases back b r' h with ⟨eb, er⟩ | ⟨eb, hq⟩
      · subst er; subst eb
        simp at hk; subst hk
        exact ⟨⟨cur, (0, 0), hh, hcs, fun _ => rfl, .inl rfl, fun j m hj hm => let ⟨v, x, y, z⟩ := hcell kp j m hj hm; ⟨v, x, y, z.mono (Keeps.refl _ _) hr⟩⟩, rfl, hnc, hcm, hels⟩
      · obtain ⟨l1, l2⟩ := look b eb k' hk
        exact (hS.blk b r' k' hq l1).mono kp hr (same _ (hS.g_lt hq l1) (gne b r' k' hq l1 l2).2)
    · intro b r1 b' r2 h h' hs hs' hge
      obtain ⟨k1, hk1⟩ := Option.isSome_iff_exists.1 hs
      obtain ⟨k2, hk2⟩ := Option.isSome_iff_exists.1 hs'
      rcases back b r1 h with ⟨eb, er⟩ | ⟨eb, hq⟩ <;> rcases back b' r2 h' with ⟨eb', er'⟩ | ⟨eb', hq'⟩
      · exact eb.trans eb'.symm
      · obtain ⟨l1, l2⟩ := look b' eb' k2 hk2
        exact absurd (by rw [← hge, er]) (gne b' r2 k2 hq' l1 l2).1
      · obtain ⟨l1, l2⟩ := look b eb k1 hk1
        exact absurd (by rw [hge, er']) (gne b r1 k1 hq l1 l2).1
      · obtain ⟨l1, l2⟩ := look b eb k1 hk1
        obtain ⟨l1', l2'⟩ := look b' eb' k2 hk2
        exact hS.inj b r1 b' r2 hq hq' (by simp [l1]) (by simp [l1']) hge
    · intro b r1 k1 h hk hl
      rcases back b r1 h with ⟨eb, er⟩ | ⟨eb, hq⟩
      · subst er; exact hgA
      · obtain ⟨l1, l2⟩ := look b eb k1 hk
        exact hS.own b r1 k1 hq l1 hl
    · intro b r1 k1 h hk hl
      rcases back b r1 h with ⟨eb, er⟩ | ⟨eb, hq⟩
      · subst eb; simp at hk; subst hk; cases hl
      · obtain ⟨l1, l2⟩ := look b eb k1 hk
        exact hS.dead b r1 k1 hq l1 hl
    · intro gg hgl hO
      rw [same gg (Nat.lt_of_lt_of_le hgl hS.hsize) (fun e1 => ?_)]
      · exact hS.frame gg hgl hO
      · rcases (hnotA gg e1.symm).2.1 with h | h
        · exact hO h
        · omega
  · have := ARep.slc (w := w') (A := A) (ρ := upd ρ σ.nid (some r0)) σ.nid es 0 n r0 (by simp) rfl (by simpa [r0] using hn)
    simpa [r0] using this

theorem slice_form (v : Value) {e : TypeId} {es n : Nat} {xs : List Value} (h : w.ownsRow 0 e es v n xs) (hne : v ≠ .slice none 0 0) :
    ∃ g cap cur, v = .slice (some ⟨g, 0, none⟩) n cap ∧ w.heap[g]? = some (.cells cur e (0, 0)) ∧ n ≤ cap ∧ cap ≤ maxLen ∧ cur.size = cap * es ∧ cur.toList.take (n * es) = xs := by
  rcases h.2 with ⟨h1, _⟩ | ⟨g, cap, cur, h1, _, h2, h3, h4, h5, h6⟩
  · exact absurd h1 hne
  · exact ⟨g, cap, cur, h1, h2, h3, h4, h5, h6⟩

theorem cells_of_take {cur : Array Value} {n es : Nat} {xs : List Value} (h : cur.toList.take (n * es) = xs) {i : Nat} (hi : i < n * es) : cur[i]? = xs[i]? := by
  rw [← h, List.getElem?_take, if_pos hi]; simp

/-- The general step: a source appended to a row of the call's own, or to nil. -/
theorem append_step (hS : Sim c A ρ σ a w) (hf : ρ σ.nid = none) {t t' ty e e' : TypeId} {ti : TI} (hu : P.underlying t = some (.slice e)) (hu' : P.underlying t' = some (.slice e')) (hti : tinfo P e = some ti) (h0 : 0 < ti.sz) (hby : ti.bytes ≤ 32768)
    {xels : List AV} {ad : Addr} {news : List Value} (hsrc : Source w A ρ ti.sz xels ad news) (cc : Nat) (old : Option Nat) (sv : Value) (sels : List AV)
    (hold : match old with
      | none => sv = .slice none 0 0 ∧ sels = []
      | some b => ∃ r k len, ρ b = some r ∧ σ.lh b = some k ∧ k.live = true ∧ k.plain = true ∧ k.ty = e ∧ k.es = ti.sz ∧ len ≤ k.els.length ∧ sels = k.els.take len ∧ sv = .slice (some ⟨r.g, 0, none⟩) len r.cap)
    (hb : sels.length + xels.length ≤ big) (hne : old = none → xels ≠ []) :
    Yields P c A ρ σ a (Builtin.append_ #[t, t'] ty #[sv, .slice (some ad) xels.length cc]) w
      ⟨.slc σ.nid ti.sz 0 (sels.length + xels.length), (match old with | none => [] | some b => [(b, none)]) ++ [(σ.nid, some ⟨sels ++ xels, ti.sz, e, true, true⟩)], σ.nid + 1⟩ := by
  have hes : ∀ j, j < (sels ++ xels).length → ((sels ++ xels).getD j .undef).cells.length = ti.sz := fun j hj => by
    by_cases h : j < sels.length
    · have e1 : (sels ++ xels).getD j .undef = sels.getD j .undef := by simp only [List.getD_eq_getElem?_getD]; rw [List.getElem?_append_left h]
      rw [e1]
      cases old with
      | none => simp only at hold; rw [hold.2] at h; simp at h
      | some b =>
        obtain ⟨r, k, len, p1, p2, p3, p4, p5, p6, p7, p8, p9⟩ := hold
        obtain ⟨_, _, _, _, q⟩ := hS.blk b r k p1 p2
        subst p8
        have hj' : j < len := by simp at h; omega
        have e2 : (k.els.take len).getD j .undef = k.els.getD j .undef := by simp only [List.getD_eq_getElem?_getD]; rw [List.getElem?_take, if_pos hj']
        rw [e2, ← p6]; exact q j (by omega)
    · have e1 : (sels ++ xels).getD j .undef = xels.getD (j - sels.length) .undef := by simp only [List.getD_eq_getElem?_getD]; rw [List.getElem?_append_right (by omega)]
      rw [e1]; exact hsrc.els _ (by simp at hj; omega)
  have own : ∃ xs, w.ownsRow 0 e ti.sz sv sels.length xs ∧ (∀ j m, j < sels.length → m < ti.sz → ∃ v, xs[j * ti.sz + m]? = some v ∧ v.oneCell' = true ∧ ARep w A ρ ((sels.getD j .undef).cells.getD m .undef) v) ∧
      oldRow σ ρ old sv.ownBlock := by
    cases old with
    | none =>
      simp only at hold
      rw [hold.1, hold.2]
      exact ⟨[], World.ownsRow_nil w 0 e ti.sz, fun j m hj => by simp at hj, rfl⟩
    | some b =>
      obtain ⟨r, k, len, p1, p2, p3, p4, p5, p6, p7, p8, p9⟩ := hold
      obtain ⟨⟨cur, fr, q1, q2, q3, q4, q5⟩, q6, q7, q8, q9⟩ := hS.blk b r k p1 p2
      have hl : sels.length = len := by rw [p8]; simp; omega
      have hfit : len * ti.sz ≤ cur.size := by rw [q2, q6, p6]; exact Nat.mul_le_mul_right _ (by omega)
      refine ⟨cur.toList.take (len * ti.sz), ?_, fun j m hj hm => ?_, r, k, p1, p2, p3, by rw [p9]; rfl⟩
      · rw [hl]
        refine ⟨by simp; omega, .inr ⟨r.g, r.cap, cur, p9, Nat.zero_le _, ?_, by omega, q8, by rw [q2, q6, p6], rfl⟩⟩
        rw [q1, q3 p4, p5]
      · have hj' : j < len := by omega
        obtain ⟨v, s1, s2, s3⟩ := q5 j m (by omega) (by omega)
        refine ⟨v, ?_, s2, ?_⟩
        · rw [p6] at s1
          rw [List.getElem?_take, if_pos (mul_lt_of hj' hm)]; simpa using s1
        · have e2 : sels.getD j .undef = k.els.getD j .undef := by rw [p8]; simp only [List.getD_eq_getElem?_getD]; rw [List.getElem?_take, if_pos hj']
          rw [e2]; exact s3
  obtain ⟨xs, hown, hxs, hrow⟩ := own
  obtain ⟨v', w', r1, r2, r3, r4, r5⟩ := append_run (ty := ty) hu hu' hti h0 hby sv sels.length xs hown ad xels.length cc news hsrc.len hsrc.mem hsrc.one hb
  have hv' : v' ≠ .slice none 0 0 := fun h => by
    obtain ⟨g1, g2⟩ := r4.1 h
    cases old with
    | none => exact hne rfl (List.eq_nil_of_length_eq_zero g2)
    | some b => obtain ⟨r, k, len, p1, p2, p3, p4, p5, p6, p7, p8, p9⟩ := hold; rw [p9] at g1; cases g1
  obtain ⟨g, cap, cur, f1, f2, f3, f4, f5, f6⟩ := slice_form v' r2 hv'
  have hlen : (sels ++ xels).length = sels.length + xels.length := List.length_append
  obtain ⟨ρ', s1, s2, s3⟩ := append_sim hS hf (w' := w') (e := e) (es := ti.sz) (els := sels ++ xels) old sv.ownBlock hrow r3 f2 (by omega) f4 f5
    (by rw [f1] at r5; simp only [Value.ownBlock] at r5; rcases r5 with h | h; exact .inl h; exact .inr (by simpa using h))
    (fun kp j m hj hm => by
      have hlt : j * ti.sz + m < (sels.length + xels.length) * ti.sz := mul_lt_of (by omega) hm
      rw [cells_of_take f6 hlt]
      have hxl : xs.length = sels.length * ti.sz := hown.1
      by_cases h : j < sels.length
      · have e1 : (sels ++ xels).getD j .undef = sels.getD j .undef := by simp only [List.getD_eq_getElem?_getD]; rw [List.getElem?_append_left h]
        obtain ⟨v, x1, x2, x3⟩ := hxs j m h hm
        rw [e1, List.getElem?_append_left (by rw [hxl]; exact mul_lt_of h hm)]
        exact ⟨v, x1, x2, x3.mono kp (fun _ _ h => h)⟩
      · have e1 : (sels ++ xels).getD j .undef = xels.getD (j - sels.length) .undef := by simp only [List.getD_eq_getElem?_getD]; rw [List.getElem?_append_right (by omega)]
        have hj2 : j - sels.length < xels.length := by omega
        obtain ⟨v, x1, x3⟩ := hsrc.rep (j - sels.length) m hj2 hm
        have ei : j * ti.sz + m - xs.length = (j - sels.length) * ti.sz + m := by
          rw [hxl, Nat.sub_mul]
          have : sels.length * ti.sz ≤ j * ti.sz := Nat.mul_le_mul_right _ (by omega)
          omega
        have hge : xs.length ≤ j * ti.sz + m := by
          rw [hxl]
          have : sels.length * ti.sz ≤ j * ti.sz := Nat.mul_le_mul_right _ (by omega)
          omega
        rw [e1, List.getElem?_append_right hge, ei]
        refine ⟨v, x1, hsrc.one v ?_, x3.mono kp (fun _ _ h => h)⟩
        exact List.mem_of_getElem? x1) hes
  refine ⟨v', w', A, ρ', r1, ?_, ?_, s3⟩
  · cases old with
    | none => simpa [kill] using s1
    | some b => simpa [kill] using s1
  · rw [f1]; exact s2 _ f3

theorem newsB_sound {E : CallE} {tx : Bool} {KP : DV → Res → Prop} (hS : Sim c A ρ σ a w) {ti : TI} {x : AV} {xv : Value} (hx : ARep w A ρ x xv) (h0 : 0 < ti.sz) {k : List AV → BM} {K : Res → Prop}
    (h : wpB E tx (newsB ti x k) σ.lh K KP) : ∃ els ad cc news, xv = .slice (some ad) els.length cc ∧ Source w A ρ ti.sz els ad news ∧ wpB E tx (k els) σ.lh K KP := by
  unfold newsB at h
  split at h
  · rename_i els
    split at h
    · rename_i hall
      have hx := hx.ofD
      cases hx with
      | sim _ ad cap cc o es val hb hcap ha hes hc hone hv =>
        have hl : ∀ j, j < els.length → (els.getD j .inil).cells.length = ti.sz := fun j hj => by
          have := (List.all_eq_true.1 hall) (els.getD j .inil) (by simp [List.getD, List.getElem?_eq_getElem hj])
          simpa using this
        have he : ∀ j, j < els.length → es = ti.sz := fun j hj => by rw [← hes j hj, hl j hj]
        obtain ⟨news, hn⟩ := source_of (w := w) (A := A) (ρ := ρ) (es := ti.sz) (els := els.map AV.d) (ad := ad) (c0 := cc) (o := o) val (fun hp => (ha (by simpa using hp)).1)
          (fun j m hj hm => by have hj : j < els.length := by simpa using hj
                               have := he j hj; subst this; exact hc j m hj hm)
          (fun j m hj hm => by have hj : j < els.length := by simpa using hj
                               have := he j hj; subst this; exact hone j m hj hm)
          (fun j m hj hm => by
            have hj : j < els.length := by simpa using hj
            have := he j hj; subst this
            rw [zG7 _ _ hj, dcells, zG7 _ _ (by rw [hes j hj]; exact hm)]
            exact .d _ _ (hv j m hj hm))
          (fun j hj => by
            have hj : j < els.length := by simpa using hj
            rw [zG7 _ _ hj, dcells]; simpa using hl j hj)
        exact ⟨els.map AV.d, ad, cap, news, by simp, hn, h⟩
    · exact h.elim
  · rename_i b es off n
    cases hx with
    | slc _ _ _ _ r hr he hl =>
      simp only [wpB] at h
      cases hq : σ.lh b with
      | none => simp [hq] at h
      | some q =>
        simp only [hq] at h
        split at h
        · rename_i hc
          obtain ⟨hc1, hc2⟩ := hc
          obtain ⟨⟨cur, fr, q1, q2, q3, q4, q5⟩, q6, q7, q8, q9⟩ := hS.blk b r q hr hq
          have hee : q.es = ti.sz := by omega
          have hle : ((q.els.drop off).take n).length = n := by simp; omega
          have hget : ∀ j, j < n → ((q.els.drop off).take n).getD j .undef = q.els.getD (off + j) .undef := fun j hj => by
            simp only [List.getD_eq_getElem?_getD]; rw [List.getElem?_take, if_pos hj, List.getElem?_drop]
          obtain ⟨news, hn⟩ := source_of (w := w) (A := A) (ρ := ρ) (es := ti.sz) (els := (q.els.drop off).take n) (ad := ⟨r.g, off * es, none⟩) (c0 := r.g) (o := off * es) (fun j m => cur.getD ((off + j) * q.es + m) undef) (fun _ => rfl)
            (fun j m hj hm => by
              have hj : j < n := by omega
              obtain ⟨v, p1, p2, p3⟩ := q5 (off + j) m (by omega) (by omega)
              rw [cell_of_row w r.g _ cur q.ty fr q1, show off * es + j * ti.sz + m = (off + j) * q.es + m by rw [hee, ← hc2, Nat.add_mul], p1, getElem?_of_get p1])
            (fun j m hj hm => by
              have hj : j < n := by omega
              obtain ⟨v, p1, p2, p3⟩ := q5 (off + j) m (by omega) (by omega)
              rw [getElem?_of_get p1]; exact p2)
            (fun j m hj hm => by
              have hj : j < n := by omega
              obtain ⟨v, p1, p2, p3⟩ := q5 (off + j) m (by omega) (by omega)
              rw [getElem?_of_get p1, hget j hj]; exact p3)
            (fun j hj => by rw [hget j (by omega), ← hee]; exact q9 _ (by omega))
          exact ⟨_, _, r.cap - off, news, by rw [hle], hn, h⟩
        · exact h.elim
  · exact h.elim

theorem append_zc {t t' ty e e' : TypeId} {ti : TI} (hu : P.underlying t = some (.slice e)) (hu' : P.underlying t' = some (.slice e')) (hti : tinfo P e = some ti) (hby : ti.bytes ≤ 32768)
    {xels : List AV} {ad : Addr} {news : List Value} (hsrc : Source w A ρ ti.sz xels ad news) (cc : Nat) (b : Addr) (hb : xels.length ≤ big) (hne : xels ≠ []) :
    (Builtin.append_ #[t, t'] ty #[.slice (some b) 0 0, .slice (some ad) xels.length cc]).run P w = (Builtin.append_ #[t, t'] ty #[.slice none 0 0, .slice (some ad) xels.length cc]).run P w := by
  obtain ⟨ii, u, z, hii, hu2, hz, hzd, hsz, _, hbyt, hzl⟩ := zG5 hti
  have hn : 0 < xels.length := List.length_pos_iff.2 hne
  simp only [big] at hb
  have hbb : xels.length * ii.bytes ≤ 140737488355328 := by
    have : xels.length * ii.bytes ≤ 4294967296 * 32768 := Nat.mul_le_mul hb (by omega)
    omega
  have hl : news.length = xels.length * ii.size := by rw [hsrc.len, hsz]
  have r1 := run_append_nil (P := P) w t ty e ii z hu hii hz ad xels.length cc news hl hsrc.mem hn (by omega) (by omega)
  have r2 := run_append_grow (P := P) w t ty e ii z hu hii hz b 0 0 [] (by simp) (fun j v h => by simp at h) ad xels.length cc news hl hsrc.mem (by omega) (by omega) (by rw [Nat.zero_add, nextslicecap_zero hn]; omega)
  have e1 : ∀ v, (v = .slice none 0 0 ∨ v = .slice (some b) 0 0) → (Builtin.append_ #[t, t'] ty #[v, .slice (some ad) xels.length cc]).run P w = (Builtin.append_ #[t, t] ty #[v, .slice (some ad) xels.length cc]).run P w := fun v hv => by
    rcases hv with rfl | rfl <;> simp [Builtin.append_, run_underlying hu, run_underlying hu', Builtin.lenOf]
  rw [e1 _ (.inl rfl), e1 _ (.inr rfl), r1, r2]
  simp

theorem appendB_sound {E : CallE} {tx : Bool} {KP : DV → Res → Prop} (hS : Sim c A ρ σ a w) {K : Res → Prop} (hfree : ∀ r, K r → ∀ k, σ.nid + k < r.nid → ρ (σ.nid + k) = none) {t t' ty e e' : TypeId} {ti : TI} (hu : P.underlying t = some (.slice e)) (hu' : P.underlying t' = some (.slice e')) (hti : tinfo P e = some ti)
    {s x : AV} {sv xv : Value} (hs : ARep w A ρ s sv) (hx : ARep w A ρ x xv) (h : wpB E tx (appendB σ.nid ti e s x) σ.lh K KP) :
    ∃ r, K (r.res σ.lh) ∧ Yields P c A ρ σ a (Builtin.append_ #[t, t'] ty #[sv, xv]) w r := by
  obtain ⟨ii, u, z, hii, hu2, hz, hzd, hsz, _, hbyt, hzl⟩ := zG5 hti
  unfold appendB at h
  split at h
  case isFalse => exact h.elim
  rename_i hpre
  obtain ⟨hby, h0⟩ := hpre
  split at h
  · have hx := hx.ofD
    cases hx
    have stay : ∀ (s : AV), ARep w A ρ s sv → (∃ ad n cc, sv = .slice ad n cc ∧ n ≤ cc) → K (OpR.res ⟨s, [], σ.nid⟩ σ.lh) → ∃ r, K (r.res σ.lh) ∧ Yields P c A ρ σ a (Builtin.append_ #[t, t'] ty #[sv, .slice none 0 0]) w r := fun s hs hsv hK => by
      obtain ⟨ad, n, cc, rfl, hle⟩ := hsv
      refine ⟨_, hK, Yields.just hS ⟨_, ?_, hs⟩⟩
      have hr0 : ∀ x : Addr, (storeCells x [] 0).run P w = .ok () w := fun x => rfl
      cases ad <;> simp [Builtin.append_, run_underlying hu, run_underlying hu', zG8 hii, Builtin.lenOf, Builtin.firstCells, hle, hr0]
    split at h
    · have hs' := hs.ofD; cases hs'
      exact stay _ hs ⟨none, 0, 0, rfl, Nat.le_refl _⟩ h
    · have hs' := hs.ofD; cases hs' with
      | sim _ ad cap cc o es val hb hcap ha hes hc hone hv => exact stay _ hs ⟨some ad, _, cap, rfl, hcap⟩ h
    · have hs' := hs
      cases hs' with
      | slc _ _ _ _ r hr he hl => exact stay _ hs ⟨some _, _, r.cap - _, rfl, by omega⟩ h
    · have hs' := hs
      cases hs' with
      | zc b => exact stay _ hs ⟨some b, 0, 0, rfl, Nat.le_refl _⟩ h
    · exact h.elim
  · obtain ⟨xels, ad, cc, news, rfl, hsrc, h⟩ := newsB_sound hS hx h0 h
    split at h
    · have hs' := hs.ofD; cases hs'
      split at h
      · rename_i hz0
        refine ⟨_, h, Yields.just hS ⟨.slice none 0 0, ?_, .d _ _ .snil⟩⟩
        have hx0 : xels = [] := List.eq_nil_of_length_eq_zero hz0
        subst hx0
        have hf : (Builtin.firstCells ii.size 0 (.slice (some ad) 0 cc)).run P w = .ok #[] w := by simp [Builtin.firstCells, loadCells, loadCellsFrom]
        simp [Builtin.append_, run_underlying hu, run_underlying hu', zG8 hii, Builtin.lenOf, hf]
      · split at h
        · rename_i hne hbig
          have := append_step (ty := ty) hS (hfree _ h 0 (by simp [OpR.res])) hu hu' hti h0 hby hsrc cc none (.slice none 0 0) [] ⟨rfl, rfl⟩ (by simpa using hbig) (fun _ e1 => hne (by rw [e1]; rfl))
          simp only [List.nil_append, List.length_nil, Nat.zero_add] at this
          exact ⟨_, h, this⟩
        · exact h.elim
    · cases hs with
      | zc b =>
      split at h
      · rename_i hz0
        refine ⟨_, h, Yields.just hS ⟨.slice (some b) 0 0, ?_, .zc b⟩⟩
        have hx0 : xels = [] := List.eq_nil_of_length_eq_zero hz0
        subst hx0
        have hf : (Builtin.firstCells ii.size 0 (.slice (some ad) 0 cc)).run P w = .ok #[] w := by simp [Builtin.firstCells, loadCells, loadCellsFrom]
        have hr0 : ∀ x : Addr, (storeCells x [] 0).run P w = .ok () w := fun x => rfl
        simp [Builtin.append_, run_underlying hu, run_underlying hu', zG8 hii, Builtin.lenOf, hf, hr0]
      · split at h
        · rename_i hne hbig
          have hne' : xels ≠ [] := fun e1 => hne (by rw [e1]; rfl)
          have := append_step (ty := ty) hS (hfree _ h 0 (by simp [OpR.res])) hu hu' hti h0 hby hsrc cc none (.slice none 0 0) [] ⟨rfl, rfl⟩ (by simpa using hbig) (fun _ => hne')
          simp only [List.nil_append, List.length_nil, Nat.zero_add] at this
          obtain ⟨x, w', A', ρ', q1, q2, q3, q4⟩ := this
          exact ⟨_, h, x, w', A', ρ', by rw [append_zc (ty := ty) hu hu' hti hby hsrc cc b hbig hne']; exact q1, q2, q3, q4⟩
        · exact h.elim
    · rename_i b es len _
      cases hs with
      | slc _ _ _ _ r hr he hl =>
        simp only [wpB] at h
        cases hq : σ.lh b with
        | none => simp [hq] at h
        | some q =>
          simp only [hq] at h
          split at h
          · rename_i hc
            obtain ⟨c1, c2, c3, c4, c5, c6⟩ := hc
            have hes := (hS.blk b r q hr hq).es
            have hlt : (q.els.take len).length = len := by simp; omega
            have := append_step (ty := ty) hS (hfree _ h 0 (by simp [OpR.res])) hu hu' hti h0 hby hsrc cc (some b) (.slice (some ⟨r.g, 0, none⟩) len r.cap) (q.els.take len)
              ⟨r, q, len, hr, hq, c1, c2, c3, by omega, c5, rfl, rfl⟩ (by omega) (fun h => by cases h)
            rw [hlt] at this
            refine ⟨_, h, ?_⟩
            simpa using this
          · exact h.elim
    · exact h.elim
end
end Go.Proofs.Am

set_option linter.unusedVariables false
set_option linter.unusedSimpArgs false
namespace Go.Proofs.Am
open Go Go.RowKit

/-- The package variables that hold a whole number. -/
def GInt (gs : List Nat) (w : World) : Prop := ∀ g ∈ gs, ∃ m, w.cell? ⟨g, 0, none⟩ = some (.int .i64 m)

/-- What a result says of a value in a world behind a call that began in w with A. -/
structure RetRep (w : World) (A : Nat → Prop) (r : Ret) (v : Value) (w' : World) : Prop where
  mk' ::
  ex : ∃ (A' : Nat → Prop) (ρ : Nat → Option BR), Below w.heap.size w w' ∧ (∀ g, A g → A' g) ∧ (∀ g, A' g → A g ∨ w.heap.size ≤ g) ∧ (∀ g, A' g → g < w'.heap.size) ∧ ARep w' A' ρ r.v v ∧
    (∀ b k, r.blks[b]? = some k → k.live = true ∧ ∃ q, ρ b = some q ∧ BRep w' A' ρ k q ∧ w.heap.size ≤ q.g ∧ ¬ A' q.g) ∧
    (∀ b q b' q', ρ b = some q → ρ b' = some q' → q.g = q'.g → b = b') ∧ (∀ b q, ρ b = some q → b < r.blks.length)

/-- A function that is entered when it is called. -/
def enterOk (P : Program) (f : FuncId) : Bool :=
  match P.funcs[f]? with
  | some fn => !(fn.name == "runtime.NumGoroutine") && fn.body.isSome
  | none => false

/-- THE CONTRACT of a call: for these data it hands back this result, and nothing that was there is changed. -/
def PureCall (P : Program) (gs : List Nat) (f : FuncId) (args : List DV) (r : Ret) : Prop :=
  enterOk P f = true ∧ ∀ (w : World) (A : Nat → Prop) (vals : Array Value), (∀ g, A g → g < w.heap.size) → vals.size = args.length →
    (∀ i, i < args.length → DRep w A (args.getD i .inil) (vals.getD i undef)) → GInt gs w →
    Calls P f vals w fun e w' => ∃ v, e = .returned v ∧ RetRep w A r v w'

/-- It gives up, with this value. -/
def PanicCall (P : Program) (gs : List Nat) (f : FuncId) (args : List DV) (d : DV) : Prop :=
  enterOk P f = true ∧ ∀ (w : World) (A : Nat → Prop) (vals : Array Value), (∀ g, A g → g < w.heap.size) → vals.size = args.length →
    (∀ i, i < args.length → DRep w A (args.getD i .inil) (vals.getD i undef)) → GInt gs w →
    Calls P f vals w fun e w' => ∃ v, e = .panicked [{ v, recovered := false }] ∧ RetRep w A ⟨.d d, []⟩ v w'

section
variable {P : Program} {c : Ctx} {A : Nat → Prop} {ρ : Nat → Option BR} {σ : St} {a : Act} {w : World}

theorem sh_cells (k : Nat) (v : AV) : (v.sh k).cells = v.cells.map (AV.sh k) := by
  cases v with
  | d x => cases x <;> simp [AV.sh, AV.shL_map, AV.cells]
  | _ => simp [AV.sh, AV.shL_map, AV.cells]

theorem ARep.sh {k : Nat} {ρ' : Nat → Option BR} (h : ∀ b r, ρ b = some r → ρ' (b + k) = some r) {v : AV} {x : Value} (hv : ARep w A ρ v x) : ARep w A ρ' (v.sh k) x := by
  have get : ∀ (l : List AV) (i : Nat), i < l.length → (l.map (AV.sh k)).getD i .undef = (l.getD i .undef).sh k := fun l i hi => by
    simp [List.getD, List.getElem?_map, List.getElem?_eq_getElem hi]
  induction hv with
  | d v x h => simp only [AV.sh, AV.shL_map]; exact .d v x h
  | loc b es i fo r h1 he => simp only [AV.sh, AV.shL_map]; exact .loc _ es i fo r (h _ _ h1) he
  | slc b es off len r h1 he hl => simp only [AV.sh, AV.shL_map]; exact .slc _ es off len r (h _ _ h1) he hl
  | agg cs vs hl hone h ih =>
    simp only [AV.sh, AV.shL_map]
    exact .agg _ vs (by simpa using hl) (fun i hi => hone i (by simpa using hi)) (fun i hi => by rw [get _ _ (by simpa using hi)]; exact ih i (by simpa using hi))
  | tup cs vs hl h ih =>
    simp only [AV.sh, AV.shL_map]
    exact .tup _ vs (by simpa using hl) (fun i hi => by rw [get _ _ (by simpa using hi)]; exact ih i (by simpa using hi))
  | fn f caps vals hl h ih =>
    simp only [AV.sh, AV.shL_map]
    exact .fn f _ vals (by simpa using hl) (fun i hi => by rw [get _ _ (by simpa using hi)]; exact ih i (by simpa using hi))
  | iface t v x h ih => simp only [AV.sh, AV.shL_map]; exact .iface t _ x ih
  | zc a => simp only [AV.sh, AV.shL_map]; exact .zc a
  | un x => simp only [AV.sh, AV.shL_map]; exact .un x

theorem BRep.sh {k : Nat} {ρ' : Nat → Option BR} (h : ∀ b r, ρ b = some r → ρ' (b + k) = some r) {b : LB} {r : BR} (hb : BRep w A ρ b r) : BRep w A ρ' (b.sh k) r := by
  obtain ⟨⟨cur, fr, h1, h2, h3, h4, h5⟩, e1, e2, e3, e4⟩ := hb
  have get : ∀ (l : List AV) (i : Nat), i < l.length → (l.map (AV.sh k)).getD i .undef = (l.getD i .undef).sh k := fun l i hi => by
    simp [List.getD, List.getElem?_map, List.getElem?_eq_getElem hi]
  refine ⟨⟨cur, fr, h1, h2, h3, h4, fun j m hj hm => ?_⟩, e1, by simpa [LB.sh] using e2, e3, fun j hj => ?_⟩
  · have hj : j < b.els.length := by simpa [LB.sh] using hj
    have hm : m < b.es := hm
    obtain ⟨v, p1, p2, p3⟩ := h5 j m hj hm
    refine ⟨v, p1, p2, ?_⟩
    simp only [LB.sh]
    rw [get _ _ hj, sh_cells, get _ _ (by rw [e4 j hj]; exact hm)]
    exact p3.sh h
  · have hj : j < b.els.length := by simpa [LB.sh] using hj
    simp only [LB.sh]
    rw [get _ _ hj, sh_cells]; simpa using e4 j hj

theorem fold_upd (nid : Nat) : ∀ (l : List LB) (s : Nat) (lh : Nat → Option LB), ∀ b,
    ((l.zipIdx s).map fun p => (p.2, some (p.1.sh nid))).foldl (fun f (p : Nat × Option LB) => upd f p.1 p.2) lh b = if s ≤ b ∧ b < s + l.length then (l[b - s]?).map (LB.sh nid) else lh b
  | [], s, lh, b => by simp; intro h1 h2; omega
  | k :: l, s, lh, b => by
    simp only [List.zipIdx_cons, List.map_cons, List.foldl_cons]
    rw [fold_upd nid l (s + 1) _ b]
    simp only [List.length_cons]
    by_cases h : s + 1 ≤ b ∧ b < s + 1 + l.length
    · rw [if_pos h, if_pos ⟨by omega, by omega⟩, show b - s = (b - (s + 1)) + 1 by omega]; simp
    · rw [if_neg h]
      by_cases e : b = s
      · subst e; rw [if_pos ⟨by omega, by omega⟩]; simp
      · rw [zI1 _ _ _ _ e, if_neg (by omega)]

theorem Sim.adopt (hS : Sim c A ρ σ a w) {r : Ret} (hf : ∀ k, k < r.blks.length → ρ (σ.nid + k) = none) {v : Value} {w' : World} (hR : RetRep w A r v w') :
    ∃ A' ρ', Sim c A' ρ' { σ with lh := applyChg σ.lh (r.op σ.nid).chg, nid := (r.op σ.nid).nid } a w' ∧ ARep w' A' ρ' (r.op σ.nid).v v ∧ Names ρ ρ' σ.nid (r.op σ.nid).nid := by
  obtain ⟨A', q, hB, hup, hnew, hlt, hv, hblk, hinj, hids⟩ := hR.ex
  have hlh : ∀ b, applyChg σ.lh (r.op σ.nid).chg b = if σ.nid ≤ b ∧ b < σ.nid + r.blks.length then (r.blks[b - σ.nid]?).map (LB.sh σ.nid) else σ.lh b :=
    fun b => fold_upd σ.nid r.blks σ.nid σ.lh b
  let ρ' : Nat → Option BR := fun b => if σ.nid ≤ b ∧ b < σ.nid + r.blks.length then q (b - σ.nid) else ρ b
  have hr : ∀ b r', ρ b = some r' → ρ' b = some r' := fun b r' h => by
    simp only [ρ']; rw [if_neg]; exact h
    intro hb
    have := hf (b - σ.nid) (by omega)
    rw [show σ.nid + (b - σ.nid) = b by omega] at this
    rw [this] at h; cases h
  have hq : ∀ b r', q b = some r' → ρ' (b + σ.nid) = some r' := fun b r' h => by
    have hb := hids _ _ h
    simp only [ρ']; rw [if_pos ⟨by omega, by omega⟩, Nat.add_sub_cancel]; exact h
  have kp : Keeps w w' A A' := fun g hA => ⟨hup g hA, hB.block g (hS.lt g hA)⟩
  have look : ∀ b r' k, ρ' b = some r' → (if σ.nid ≤ b ∧ b < σ.nid + r.blks.length then (r.blks[b - σ.nid]?).map (LB.sh σ.nid) else σ.lh b) = some k →
      (¬ (σ.nid ≤ b ∧ b < σ.nid + r.blks.length) ∧ ρ b = some r' ∧ σ.lh b = some k) ∨ (σ.nid ≤ b ∧ ∃ k0, q (b - σ.nid) = some r' ∧ r.blks[b - σ.nid]? = some k0 ∧ k = k0.sh σ.nid) := fun b r' k h hk => by
    simp only [ρ'] at h
    by_cases e : σ.nid ≤ b ∧ b < σ.nid + r.blks.length
    · rw [if_pos e] at h
      rw [if_pos e] at hk
      obtain ⟨k0, e1, e2⟩ := Option.map_eq_some_iff.1 hk
      exact .inr ⟨by omega, k0, h, e1, e2.symm⟩
    · rw [if_neg e] at h; rw [if_neg e] at hk; exact .inl ⟨e, h, hk⟩
  refine ⟨A', ρ', ?_, hv.sh hq, by simp only [Ret.op]; omega, fun b hb => by simp only [ρ']; rw [if_neg (by simpa [Ret.op] using hb)]⟩
  refine { size := hS.size, defers := hS.defers.mono kp hr, env := fun t => (hS.env t).mono kp hr, blk := ?_, inj := ?_, own := ?_, dead := ?_, lt := hlt, up := fun g h => hup g (hS.up g h), new := fun g h => ?_, os := hB.os.trans hS.os, tape := hB.tape.trans hS.tape, output := hB.output.trans hS.output, hsize := Nat.le_trans hS.hsize hB.size, frame := ?_ }
  · intro b r' k h hk
    simp only [hlh] at hk
    rcases look b r' k h hk with ⟨_, h1, h2⟩ | ⟨hle, k0, h1, h2, rfl⟩
    · exact (hS.blk b r' k h1 h2).mono kp hr (hB.block _ (hS.g_lt h1 h2))
    · obtain ⟨_, q', p1, p2, _⟩ := hblk _ _ h2
      rw [h1] at p1; cases p1
      exact p2.sh hq
  · intro b r1 b' r2 h h' hs hs' hge
    simp only [hlh] at hs hs'
    obtain ⟨k1, hk1⟩ := Option.isSome_iff_exists.1 hs
    obtain ⟨k2, hk2⟩ := Option.isSome_iff_exists.1 hs'
    rcases look b r1 k1 h hk1 with ⟨_, h1, h2⟩ | ⟨hle, k0, h1, h2, _⟩ <;> rcases look b' r2 k2 h' hk2 with ⟨_, h1', h2'⟩ | ⟨hle', k0', h1', h2', _⟩
    · exact hS.inj b r1 b' r2 h1 h1' (by simp [h2]) (by simp [h2']) hge
    · obtain ⟨_, q', p1, _, p3, _⟩ := hblk _ _ h2'
      rw [h1'] at p1; cases p1
      have := hS.g_lt h1 h2; omega
    · obtain ⟨_, q', p1, _, p3, _⟩ := hblk _ _ h2
      rw [h1] at p1; cases p1
      have := hS.g_lt h1' h2'; omega
    · have := hinj _ _ _ _ h1 h1' hge; omega
  · intro b r' k h hk hl
    simp only [hlh] at hk
    rcases look b r' k h hk with ⟨_, h1, h2⟩ | ⟨hle, k0, h1, h2, rfl⟩
    · obtain ⟨o1, o2⟩ := hS.own b r' k h1 h2 hl
      refine ⟨fun hA => ?_, o2⟩
      rcases hnew _ hA with h | h
      · exact o1 h
      · have := hS.g_lt h1 h2; omega
    · obtain ⟨_, q', p1, _, p3, p4⟩ := hblk _ _ h2
      rw [h1] at p1; cases p1
      exact ⟨p4, .inr (Nat.le_trans hS.hsize p3)⟩
  · intro b r' k h hk hl
    simp only [hlh] at hk
    rcases look b r' k h hk with ⟨_, h1, h2⟩ | ⟨hle, k0, h1, h2, rfl⟩
    · exact hup _ (hS.dead b r' k h1 h2 hl)
    · obtain ⟨q0, _⟩ := hblk _ _ h2
      have hl : k0.live = false := hl
      rw [q0] at hl; cases hl
  · rcases hnew g h with h1 | h1
    · exact hS.new g h1
    · exact .inr (.inr (Nat.le_trans hS.hsize h1))
  · intro g hg hO
    rw [hB.block g (Nat.lt_of_lt_of_le hg hS.hsize)]; exact hS.frame g hg hO

/-- The blocks of a caller's own. -/
def Own (ρ : Nat → Option BR) (lh : Nat → Option LB) (g : Nat) : Prop := ∃ b r k, ρ b = some r ∧ lh b = some k ∧ k.live = true ∧ r.g = g

def ctx0 (w : World) (A : Nat → Prop) (ρ : Nat → Option BR) (lh : Nat → Option LB) (n m : Nat) : Ctx := ⟨w, A, Own ρ lh, n, m, ρ⟩

theorem Sim.own_of (hS : Sim c A ρ σ a w) {g : Nat} (h : Own ρ σ.lh g) : ¬ A g ∧ (c.O0 g ∨ c.w0.heap.size ≤ g) := by
  obtain ⟨b, r, k, h1, h2, h3, rfl⟩ := h
  exact hS.own b r k h1 h2 h3

/-- What a call begins with. -/
theorem Sim.hs (hS : Sim c A ρ σ a w) (n m : Nat) : HS (ctx0 w A ρ σ.lh n m) A ρ σ.lh w := {
  blk := hS.blk
  inj := hS.inj
  own := fun b r k h1 h2 h3 => ⟨(hS.own b r k h1 h2 h3).1, .inl ⟨b, r, k, h1, h2, h3, rfl⟩⟩
  dead := hS.dead
  lt := hS.lt
  up := fun g h => h
  new := fun g h => .inl h
  os := rfl
  tape := rfl
  output := rfl
  hsize := Nat.le_refl _
  frame := fun g _ _ => rfl }

theorem HS.keeps {n m : Nat} {lh : Nat → Option LB} (hS : HS (ctx0 w A ρ lh n m) A ρ lh w) {A' : Nat → Prop} {ρ' : Nat → Option BR} {lh' : Nat → Option LB} {w' : World} (h : HS (ctx0 w A ρ lh n m) A' ρ' lh' w') : Keeps w w' A A' := fun g hA =>
  ⟨h.up g hA, h.frame g (hS.lt g hA) (fun ho => by
    obtain ⟨b, r, k, h1, h2, h3, rfl⟩ := ho
    exact (hS.own b r k h1 h2 h3).1 hA)⟩

/-- What a call left, taken into the caller's state. -/
theorem Sim.take (hS : Sim c A ρ σ a w) {n m0 : Nat} {A' : Nat → Prop} {ρ' : Nat → Option BR} {lh' : Nat → Option LB} {w' : World} (h : HS (ctx0 w A ρ σ.lh n m0) A' ρ' lh' w')
    {m : Nat} (hN : Names ρ ρ' σ.nid m) (hf : ∀ k, σ.nid + k < m → ρ (σ.nid + k) = none) : Sim c A' ρ' { σ with lh := lh', nid := m } a w' := by
  have kp : Keeps w w' A A' := (hS.hs n m0).keeps h
  have hr : ∀ b r, ρ b = some r → ρ' b = some r := fun b r hb => by
    rw [hN.2 b ?_]; exact hb
    rintro ⟨h1, h2⟩
    have := hf (b - σ.nid) (by omega)
    rw [show σ.nid + (b - σ.nid) = b by omega] at this
    rw [this] at hb; cases hb
  refine { size := hS.size, defers := hS.defers.mono kp hr, env := fun t => (hS.env t).mono kp hr, blk := h.blk, inj := h.inj, own := ?_, dead := h.dead, lt := h.lt, up := fun g hg => h.up g (hS.up g hg), new := ?_, os := h.os.trans hS.os, tape := h.tape.trans hS.tape, output := h.output.trans hS.output, hsize := Nat.le_trans hS.hsize h.hsize, frame := ?_ }
  · intro b r k h1 h2 h3
    obtain ⟨q1, q2⟩ := h.own b r k h1 h2 h3
    refine ⟨q1, ?_⟩
    rcases q2 with q2 | q2
    · exact (hS.own_of q2).2
    · exact .inr (Nat.le_trans hS.hsize q2)
  · intro g hg
    rcases h.new g hg with q | q | q
    · exact hS.new g q
    · exact .inr (hS.own_of q).2
    · exact .inr (.inr (Nat.le_trans hS.hsize q))
  · intro g hg hO
    rw [h.frame g (Nat.lt_of_lt_of_le hg hS.hsize) (fun q => ?_)]
    · exact hS.frame g hg hO
    · rcases (hS.own_of q).2 with q | q
      · exact hO q
      · omega
end
end Go.Proofs.Am

set_option linter.unusedVariables false
set_option linter.unusedSimpArgs false
namespace Go.Proofs.Am
open Go Go.RowKit

/-- A value with the local blocks that it leads to as data, n blocks deep. -/
def frz (lh : Nat → Option LB) : Nat → AV → Option DV
  | _, .d v => some v
  | 0, _ => none
  | n + 1, .slc b es off len => match lh b with
    | some k => if off + len ≤ k.els.length ∧ len ≤ big then (((k.els.drop off).take len).mapM (frz lh n)).map .sim else none
    | none => none
  | n + 1, .loc b es i fo => match lh b with
    | some k => if i < k.els.length then (k.els.mapM (frz lh n)).map fun l => .pim l i fo else none
    | none => none
  | n + 1, .agg cs => (cs.mapM (frz lh n)).map .agg
  | n + 1, .tup cs => (cs.mapM (frz lh n)).map .tup
  | n + 1, .fn f cs => (cs.mapM (frz lh n)).map (.fn f)
  | n + 1, .iface t v => (frz lh n v).map (.iface t)
  | _ + 1, .zc => some (.sim [])
  | _ + 1, .undef => none

/-- The local blocks that a value leads to. -/
def reach (lh : Nat → Option LB) : Nat → AV → List Nat
  | _, .d _ => []
  | 0, _ => []
  | n + 1, .slc b _ _ _ => b :: match lh b with | some k => k.els.flatMap (reach lh n) | none => []
  | n + 1, .loc b _ _ _ => b :: match lh b with | some k => k.els.flatMap (reach lh n) | none => []
  | n + 1, .agg cs => cs.flatMap (reach lh n)
  | n + 1, .tup cs => cs.flatMap (reach lh n)
  | n + 1, .fn _ cs => cs.flatMap (reach lh n)
  | n + 1, .iface _ v => reach lh n v
  | _ + 1, .zc => []
  | _ + 1, .undef => []

theorem reach_el {lh : Nat → Option LB} {n : Nat} {cs : List AV} {i : Nat} (hi : i < cs.length) : ∀ b ∈ reach lh n (cs.getD i .undef), b ∈ cs.flatMap (reach lh n) := fun b hb =>
  List.mem_flatMap.2 ⟨_, by simp [List.getD, List.getElem?_eq_getElem hi], hb⟩

theorem frz_d (lh : Nat → Option LB) (n : Nat) (v : DV) : frz lh n (.d v) = some v := by cases n <;> simp [frz]

theorem frz_list {lh : Nat → Option LB} {n : Nat} {cs : List AV} {ds : List DV} (h : cs.mapM (frz lh n) = some ds) :
    ds.length = cs.length ∧ ∀ i, i < cs.length → frz lh n (cs.getD i .undef) = some (ds.getD i .inil) := by
  obtain ⟨h1, h2⟩ := mapM_some h
  refine ⟨h1, fun i hi => ?_⟩
  obtain ⟨y, e1, e2⟩ := h2 i (cs[i]) (List.getElem?_eq_getElem hi)
  have g1 : cs.getD i .undef = cs[i] := by simp [List.getD, List.getElem?_eq_getElem hi]
  have g2 : ds.getD i .inil = y := by simp [List.getD, e1]
  rw [g1, g2]; exact e2

theorem frz_cells {lh : Nat → Option LB} {n : Nat} {e : AV} {d : DV} (h : frz lh n e = some d) :
    d.cells.length = e.cells.length ∧ ∀ m, m < e.cells.length → ∃ n', n' ≤ n ∧ frz lh n' (e.cells.getD m .undef) = some (d.cells.getD m .inil) ∧ ∀ b ∈ reach lh n' (e.cells.getD m .undef), b ∈ reach lh n e := by
  have one : ∀ {e : AV} {d : DV}, frz lh n e = some d → e.cells = [e] → d.cells = [d] → d.cells.length = e.cells.length ∧ ∀ m, m < e.cells.length → ∃ n', n' ≤ n ∧ frz lh n' (e.cells.getD m .undef) = some (d.cells.getD m .inil) ∧ ∀ b ∈ reach lh n' (e.cells.getD m .undef), b ∈ reach lh n e := fun {e d} h h1 h2 => by
    rw [h1, h2]
    refine ⟨rfl, fun m hm => ⟨n, Nat.le_refl _, ?_⟩⟩
    have : m = 0 := by simpa using hm
    subst this; exact ⟨h, fun b hb => hb⟩
  cases e with
  | d v =>
    rw [frz_d] at h; cases h
    rw [dcells]
    refine ⟨by simp, fun m hm => ⟨0, Nat.zero_le _, ?_⟩⟩
    have hm : m < d.cells.length := by simpa using hm
    rw [zG7 _ _ hm, frz_d]
    exact ⟨rfl, fun b hb => by simp [reach] at hb⟩
  | agg cs =>
    cases n with
    | zero => simp [frz] at h
    | succ n =>
      simp only [frz, Option.map_eq_some_iff] at h
      obtain ⟨ds, h1, rfl⟩ := h
      obtain ⟨q1, q2⟩ := frz_list h1
      exact ⟨q1, fun m hm => ⟨n, Nat.le_succ n, q2 m hm, reach_el (lh := lh) (n := n) hm⟩⟩
  | slc b es off len =>
    refine one h rfl ?_
    cases n with
    | zero => simp [frz] at h
    | succ n =>
      simp only [frz] at h
      split at h
      · split at h
        · obtain ⟨ds, _, rfl⟩ := Option.map_eq_some_iff.1 h; rfl
        · cases h
      · cases h
  | loc b es i fo =>
    refine one h rfl ?_
    cases n with
    | zero => simp [frz] at h
    | succ n =>
      simp only [frz] at h
      split at h
      · split at h
        · obtain ⟨ds, _, rfl⟩ := Option.map_eq_some_iff.1 h; rfl
        · cases h
      · cases h
  | undef => cases n <;> simp [frz] at h
  | zc =>
    refine one h rfl ?_
    cases n with
    | zero => simp [frz] at h
    | succ n => simp only [frz, Option.some.injEq] at h; subst h; rfl
  | tup cs =>
    refine one h rfl ?_
    cases n with
    | zero => simp [frz] at h
    | succ n => simp only [frz] at h; obtain ⟨ds, _, rfl⟩ := Option.map_eq_some_iff.1 h; rfl
  | fn f cs =>
    refine one h rfl ?_
    cases n with
    | zero => simp [frz] at h
    | succ n => simp only [frz] at h; obtain ⟨ds, _, rfl⟩ := Option.map_eq_some_iff.1 h; rfl
  | iface t v =>
    refine one h rfl ?_
    cases n with
    | zero => simp [frz] at h
    | succ n => simp only [frz] at h; obtain ⟨ds, _, rfl⟩ := Option.map_eq_some_iff.1 h; rfl

theorem frz_sound {w : World} {A A' : Nat → Prop} {ρ : Nat → Option BR} {lh : Nat → Option LB} (hA : ∀ g, A g → A' g)
    (hblk : ∀ b r k, ρ b = some r → lh b = some k → BRep w A ρ k r) : ∀ (n : Nat) (v : AV) (d : DV) (x : Value), frz lh n v = some d → (∀ b ∈ reach lh n v, ∀ r k, ρ b = some r → lh b = some k → A' r.g) → ARep w A ρ v x → DRep w A' d x := by
  have kp : Keeps w w A A' := fun g h => ⟨hA g h, rfl⟩
  intro n
  induction n using Nat.strongRecOn with
  | _ n ih =>
    intro v d x h hre hv
    cases hv with
    | d v x hd => rw [frz_d] at h; cases h; exact hd.mono kp
    | un x => cases n <;> simp [frz] at h
    | zc a =>
      cases n with
      | zero => simp [frz] at h
      | succ n =>
        simp only [frz, Option.some.injEq] at h
        subst h
        exact .sim [] a 0 0 0 0 (fun _ _ => undef) (by simp) (by simp) (fun h => by simp at h) (fun j hj => by simp at hj) (fun j m hj => by simp at hj) (fun j m hj => by simp at hj) (fun j m hj => by simp at hj)
    | agg cs vs hl hone hh =>
      cases n with
      | zero => simp [frz] at h
      | succ n =>
        simp only [frz, Option.map_eq_some_iff] at h
        obtain ⟨ds, h1, rfl⟩ := h
        obtain ⟨q1, q2⟩ := frz_list h1
        exact .agg ds vs (by omega) (fun i hi => hone i (by omega)) (fun i hi => ih n (Nat.lt_succ_self n) _ _ _ (q2 i (by omega)) (fun b hb => hre b (reach_el (lh := lh) (n := n) (show i < cs.length by omega) b hb)) (hh i (by omega)))
    | tup cs vs hl hh =>
      cases n with
      | zero => simp [frz] at h
      | succ n =>
        simp only [frz, Option.map_eq_some_iff] at h
        obtain ⟨ds, h1, rfl⟩ := h
        obtain ⟨q1, q2⟩ := frz_list h1
        exact .tup ds vs (by omega) (fun i hi => ih n (Nat.lt_succ_self n) _ _ _ (q2 i (by omega)) (fun b hb => hre b (reach_el (lh := lh) (n := n) (show i < cs.length by omega) b hb)) (hh i (by omega)))
    | fn f cs vs hl hh =>
      cases n with
      | zero => simp [frz] at h
      | succ n =>
        simp only [frz, Option.map_eq_some_iff] at h
        obtain ⟨ds, h1, rfl⟩ := h
        obtain ⟨q1, q2⟩ := frz_list h1
        exact .fn f ds vs (by omega) (fun i hi => ih n (Nat.lt_succ_self n) _ _ _ (q2 i (by omega)) (fun b hb => hre b (reach_el (lh := lh) (n := n) (show i < cs.length by omega) b hb)) (hh i (by omega)))
    | iface t v x hh =>
      cases n with
      | zero => simp [frz] at h
      | succ n =>
        simp only [frz, Option.map_eq_some_iff] at h
        obtain ⟨d', h1, rfl⟩ := h
        exact .iface t d' x (ih n (Nat.lt_succ_self n) _ _ _ h1 hre hh)
    | slc b es off len r hr he hl =>
      cases n with
      | zero => simp [frz] at h
      | succ n =>
        simp only [frz] at h
        cases hk : lh b with
        | none => simp [hk] at h
        | some k =>
          simp only [hk] at h
          split at h
          · rename_i hc
            obtain ⟨ds, h1, rfl⟩ := Option.map_eq_some_iff.1 h
            obtain ⟨q1, q2⟩ := frz_list h1
            obtain ⟨⟨cur, fr, b1, b2, b3, b4, b5⟩, e1, e2, e3, e4⟩ := hblk b r k hr hk
            have hAg : A' r.g := hre b (by simp [reach]) r k hr hk
            have hsub : ∀ j, j < k.els.length → ∀ b' ∈ reach lh n (k.els.getD j .undef), b' ∈ reach lh (n + 1) (.slc b es off len) := fun j hj b' hb' => by
              simp only [reach, hk]; exact List.mem_cons_of_mem _ (reach_el (lh := lh) (n := n) hj b' hb')
            have hlen : ((k.els.drop off).take len).length = len := by simp; omega
            have hget : ∀ j, j < len → ((k.els.drop off).take len).getD j .undef = k.els.getD (off + j) .undef := fun j hj => by
              simp only [List.getD_eq_getElem?_getD]; rw [List.getElem?_take, if_pos hj, List.getElem?_drop]
            have hdl : ds.length = len := by omega
            have q3 : ∀ j, j < len → frz lh n (k.els.getD (off + j) .undef) = some (ds.getD j .inil) := fun j hj => by
              have := q2 j (by omega); rw [hget j hj] at this; exact this
            have hcell : ∀ j m, j < len → m < es → ∃ v, w.cell? ⟨r.g, off * es + j * es + m, none⟩ = some v ∧ v = cur.getD ((off + j) * k.es + m) undef ∧ v.oneCell' = true ∧ DRep w A' ((ds.getD j .inil).cells.getD m .inil) v := fun j m hj hm => by
              obtain ⟨v, p1, p2, p3⟩ := b5 (off + j) m (by omega) (by omega)
              obtain ⟨f1, f2⟩ := frz_cells (q3 j hj)
              have ek := e4 (off + j) (by omega)
              obtain ⟨n', hn', f3, f4⟩ := f2 m (by omega)
              refine ⟨v, ?_, (getElem?_of_get p1).symm, p2, ih n' (by omega) _ _ _ f3 (fun b' hb' => hre b' (hsub (off + j) (by omega) b' (f4 b' hb'))) p3⟩
              rw [cell_of_row w r.g _ cur k.ty fr b1, show off * es + j * es + m = (off + j) * k.es + m by rw [← e1, he, Nat.add_mul]]; exact p1
            have := DRep.sim (w := w) (A := A') ds ⟨r.g, off * es, none⟩ (r.cap - off) r.g (off * es) es (fun j m => cur.getD ((off + j) * k.es + m) undef) (by omega) (by omega) (fun _ => ⟨rfl, hAg⟩)
              (fun j hj => by obtain ⟨f1, _⟩ := frz_cells (q3 j (by omega)); rw [f1, e4 _ (by omega)]; omega)
              (fun j m hj hm => by obtain ⟨v, p1, p2, _⟩ := hcell j m (by omega) hm; rw [p1, p2])
              (fun j m hj hm => by obtain ⟨v, p1, p2, p3, _⟩ := hcell j m (by omega) hm; rw [← p2]; exact p3)
              (fun j m hj hm => by obtain ⟨v, p1, p2, _, p4⟩ := hcell j m (by omega) hm; rw [← p2]; exact p4)
            rw [hdl] at this; exact this
          · cases h
    | loc b es i fo r hr he =>
      cases n with
      | zero => simp [frz] at h
      | succ n =>
        simp only [frz] at h
        cases hk : lh b with
        | none => simp [hk] at h
        | some k =>
          simp only [hk] at h
          split at h
          · rename_i hi
            obtain ⟨ds, h1, rfl⟩ := Option.map_eq_some_iff.1 h
            obtain ⟨q1, q3⟩ := frz_list h1
            obtain ⟨⟨cur, fr, b1, b2, b3, b4, b5⟩, e1, e2, e3, e4⟩ := hblk b r k hr hk
            have hAg : A' r.g := hre b (by simp [reach]) r k hr hk
            have hsub : ∀ j, j < k.els.length → ∀ b' ∈ reach lh n (k.els.getD j .undef), b' ∈ reach lh (n + 1) (.loc b es i fo) := fun j hj b' hb' => by
              simp only [reach, hk]; exact List.mem_cons_of_mem _ (reach_el (lh := lh) (n := n) hj b' hb')
            have hcell : ∀ j m, j < ds.length → m < es → ∃ v, w.cell? ⟨r.g, 0 + j * es + m, none⟩ = some v ∧ v = cur.getD (j * k.es + m) undef ∧ v.oneCell' = true ∧ DRep w A' ((ds.getD j .inil).cells.getD m .inil) v := fun j m hj hm => by
              obtain ⟨v, p1, p2, p3⟩ := b5 j m (by omega) (by omega)
              obtain ⟨f1, f2⟩ := frz_cells (q3 j (by omega))
              have ek := e4 j (by omega)
              obtain ⟨n', hn', f3, f4⟩ := f2 m (by omega)
              refine ⟨v, ?_, (getElem?_of_get p1).symm, p2, ih n' (by omega) _ _ _ f3 (fun b' hb' => hre b' (hsub j (by omega) b' (f4 b' hb'))) p3⟩
              rw [cell_of_row w r.g _ cur k.ty fr b1, Nat.zero_add, ← he, e1]; exact p1
            have := DRep.pim (w := w) (A := A') ds i fo r.g 0 es (fun j m => cur.getD (j * k.es + m) undef) (by omega) hAg
              (fun j hj => by obtain ⟨f1, _⟩ := frz_cells (q3 j (by omega)); rw [f1, e4 _ (by omega)]; omega)
              (fun j m hj hm => by obtain ⟨v, p1, p2, _⟩ := hcell j m hj hm; rw [p1, p2])
              (fun j m hj hm => by obtain ⟨v, p1, p2, p3, _⟩ := hcell j m hj hm; rw [← p2]; exact p3)
              (fun j m hj hm => by obtain ⟨v, p1, p2, _, p4⟩ := hcell j m hj hm; rw [← p2]; exact p4)
            simpa using this
          · cases h
end Go.Proofs.Am

set_option linter.unusedVariables false
set_option linter.unusedSimpArgs false
namespace Go.Proofs.Am
open Go Go.RowKit

def scalar0 : DV → Bool
  | .int _ _ | .bool _ | .str _ | .pnil | .snil | .fnil | .inil => true
  | _ => false

def scalar1 : DV → Bool
  | .tup l => l.all scalar0
  | .agg l => l.all scalar0
  | v => scalar0 v

/-- Data without memory of its own. -/
def scalarD : DV → Bool
  | .iface _ v => scalar1 v
  | v => scalar1 v

theorem scalar0_rep {d : DV} (h : scalar0 d = true) {w w' : World} {A A' : Nat → Prop} {v : Value} (hd : DRep w A d v) : DRep w' A' d v := by
  cases hd with
  | str s hs => exact .str s hs
  | int k n => exact .int k n
  | bool b => exact .bool b
  | pnil => exact .pnil
  | snil => exact .snil
  | fnil => exact .fnil
  | inil => exact .inil
  | _ => simp [scalar0] at h

theorem scalar1_rep {d : DV} (h : scalar1 d = true) {w w' : World} {A A' : Nat → Prop} {v : Value} (hd : DRep w A d v) : DRep w' A' d v := by
  have el : ∀ (l : List DV), l.all scalar0 = true → ∀ i, i < l.length → scalar0 (l.getD i .inil) = true := fun l hl i hi =>
    List.all_eq_true.1 hl _ (by simp [List.getD, List.getElem?_eq_getElem hi])
  cases hd with
  | agg cs vs hl hone hh => exact .agg cs vs hl hone (fun i hi => scalar0_rep (el cs h i hi) (hh i hi))
  | tup cs vs hl hh => exact .tup cs vs hl (fun i hi => scalar0_rep (el cs h i hi) (hh i hi))
  | str s hs => exact .str s hs
  | int k n => exact .int k n
  | bool b => exact .bool b
  | pnil => exact .pnil
  | snil => exact .snil
  | fnil => exact .fnil
  | inil => exact .inil
  | _ => simp [scalar1, scalar0] at h

theorem scalarD_rep {d : DV} (h : scalarD d = true) {w w' : World} {A A' : Nat → Prop} {v : Value} (hd : DRep w A d v) : DRep w' A' d v := by
  cases hd with
  | iface t d x hh => exact .iface t d x (scalar1_rep h hh)
  | agg cs vs hl hone hh => exact scalar1_rep (d := .agg cs) h (.agg cs vs hl hone hh)
  | tup cs vs hl hh => exact scalar1_rep (d := .tup cs) h (.tup cs vs hl hh)
  | str s hs => exact .str s hs
  | int k n => exact .int k n
  | bool b => exact .bool b
  | pnil => exact .pnil
  | snil => exact .snil
  | fnil => exact .fnil
  | inil => exact .inil
  | _ => simp [scalarD, scalar1, scalar0] at h

def isD : AV → Bool
  | .d _ => true
  | _ => false

/-- THE CONTRACT of a call with the local blocks of its caller. -/
def HCall (P : Program) (gs : List Nat) (f : FuncId) (args : List AV) (lh : Nat → Option LB) (nid : Nat) (r : Res) : Prop :=
  enterOk P f = true ∧ ∀ (w : World) (A : Nat → Prop) (ρ : Nat → Option BR) (vals : Array Value), HS (ctx0 w A ρ lh 0 0) A ρ lh w → GInt gs w → (∀ g ∈ gs, ¬ Own ρ lh g) → Free ρ nid → ARepL w A ρ args vals →
    Calls P f vals w fun e w' => ∃ v, e = .returned v ∧ ∃ A' ρ', HS (ctx0 w A ρ lh 0 0) A' ρ' r.lh w' ∧ ARep w' A' ρ' r.v v ∧ Names ρ ρ' nid r.nid

/-- The same for a call that gives up. -/
def HPanic (P : Program) (gs : List Nat) (f : FuncId) (args : List AV) (lh : Nat → Option LB) (nid : Nat) (d : DV) (r : Res) : Prop :=
  enterOk P f = true ∧ ∀ (w : World) (A : Nat → Prop) (ρ : Nat → Option BR) (vals : Array Value), HS (ctx0 w A ρ lh 0 0) A ρ lh w → GInt gs w → (∀ g ∈ gs, ¬ Own ρ lh g) → Free ρ nid → ARepL w A ρ args vals →
    Calls P f vals w fun e w' => ∃ v, e = .panicked [{ v, recovered := false }] ∧ ∃ A' ρ', HS (ctx0 w A ρ lh 0 0) A' ρ' r.lh w' ∧ DRep w' A' d v ∧ Names ρ ρ' nid r.nid

/-- Blocks that are not written any more. -/
def deaden (lh : Nat → Option LB) (bs : List Nat) : List (Nat × Option LB) := bs.map fun b => (b, (lh b).map fun k => { k with live := false })

/-- Calls by contract; local blocks are lent where the result has no memory, or given away. -/
def calls (P : Program) (gs : List Nat) : CallE := {
  ok lh nid f args rs r := ∃ ds p, args.mapM (frz lh 8) = some ds ∧ PureCall P gs f ds p ∧ rs = args.flatMap (reach lh 8) ∧
    (((args.all isD = true ∨ ∃ d, p = ⟨.d d, []⟩ ∧ scalarD d = true) ∧ r = p.op nid) ∨ r = ⟨(p.op nid).v, deaden lh rs ++ (p.op nid).chg, (p.op nid).nid⟩)
  okT lh nid f args r := HCall P gs f args lh nid r
  panD lh f args rs d := ∃ ds, args.mapM (frz lh 8) = some ds ∧ PanicCall P gs f ds d ∧ scalarD d = true ∧ rs = args.flatMap (reach lh 8)
  pan lh nid f args d r := (∃ ds, args.mapM (frz lh 8) = some ds ∧ PanicCall P gs f ds d ∧ scalarD d = true ∧ r = ⟨.undef, lh, nid⟩) ∨ HPanic P gs f args lh nid d r }

section
variable {P : Program} {gs : List Nat} {c : Ctx} {A : Nat → Prop} {ρ : Nat → Option BR} {σ : St} {a : Act} {w : World}

structure CtxOk (gs : List Nat) (c : Ctx) : Prop where
  g0 : GInt gs c.w0
  gO : ∀ g ∈ gs, ¬ c.O0 g

theorem Sim.gint (hS : Sim c A ρ σ a w) (hc : CtxOk gs c) : GInt gs w := fun g hg => by
  obtain ⟨m, hm⟩ := hc.g0 g hg
  have hlt := World.block_lt_of_cell? c.w0 _ hm
  exact ⟨m, by rw [World.cell?_of_block (w := c.w0) (w' := w) (a := ⟨g, 0, none⟩) (hS.frame g hlt (hc.gO g hg))]; exact hm⟩

/-- What follows an operation that yields. -/
theorem wp_yields {o : Oper} (hd : ∀ d, o.dst = some d → d < c.n) {s : Sem Value} (ho : execOp a.eval o = (do pure (.value (← s)))) {r : OpR}
    (hy : Yields P c A ρ σ a s w r) {next : Act → World → Prop} {Q : Exit → Act → World → Prop} (hn : ∀ x A' ρ' w', Names ρ ρ' σ.nid r.nid → Sim c A' ρ' (σ.app o.dst (r.res σ.lh)) (a.put o.dst x) w' → next (a.put o.dst x) w') : o.wp P a w next Q := by
  obtain ⟨x, w', A', ρ', h1, h2, h3, h4⟩ := hy
  unfold Oper.wp
  rw [ho]
  simp only [Sem.run_bind, h1, Result.andThen_ok, Sem.run_pure, Oper.upon_value]
  exact hn x A' ρ' w' h4 (h2.put h3 o.dst hd)

theorem args_rep {vs : Array Operand} {caps : Array Value} {capsA : List AV} (hS : Sim c A ρ σ a w) (hcl : caps.size = capsA.length) (hcr : ∀ i, i < capsA.length → ARep w A ρ (capsA.getD i .undef) (caps.getD i undef)) :
    (vs.map a.eval ++ caps).size = (vs.toList.map σ.eval ++ capsA).length ∧ ∀ i, i < (vs.toList.map σ.eval ++ capsA).length → ARep w A ρ ((vs.toList.map σ.eval ++ capsA).getD i .undef) ((vs.map a.eval ++ caps).getD i undef) := by
  refine ⟨by simp [hcl], fun i hi => ?_⟩
  by_cases h : i < vs.size
  · have e1 : (vs.toList.map σ.eval ++ capsA).getD i .undef = σ.eval (vs[i]) := by
      simp only [List.getD_eq_getElem?_getD]; rw [List.getElem?_append_left (by simpa using h)]; simp [h]
    have e2 : (vs.map a.eval ++ caps).getD i undef = a.eval (vs[i]) := by
      simp only [Array.getD_eq_getD_getElem?]; rw [Array.getElem?_append_left (by simpa using h)]; simp [h]
    rw [e1, e2]; exact zF7 hS _
  · have hi' : i - vs.size < capsA.length := by simp at hi; omega
    have e1 : (vs.toList.map σ.eval ++ capsA).getD i .undef = capsA.getD (i - vs.size) .undef := by
      simp only [List.getD_eq_getElem?_getD]; rw [List.getElem?_append_right (by simpa using h)]; simp
    have e2 : (vs.map a.eval ++ caps).getD i undef = caps.getD (i - vs.size) undef := by
      simp only [Array.getD_eq_getD_getElem?]; rw [Array.getElem?_append_right (by simpa using h)]; simp
    rw [e1, e2]; exact hcr _ hi'

/-- Arguments as data, all local memory being readable. -/
theorem lent (hS : Sim c A ρ σ a w) {args : List AV} {vals : Array Value} (hl : vals.size = args.length) (hr : ∀ i, i < args.length → ARep w A ρ (args.getD i .undef) (vals.getD i undef))
    {ds : List DV} (hf : args.mapM (frz σ.lh 8) = some ds) {A1 : Nat → Prop} (hA1 : ∀ g, A g → A1 g) (hre : ∀ b ∈ args.flatMap (reach σ.lh 8), ∀ r k, ρ b = some r → σ.lh b = some k → A1 r.g) :
    vals.size = ds.length ∧ (∀ i, i < ds.length → DRep w A1 (ds.getD i .inil) (vals.getD i undef)) := by
  obtain ⟨q1, q2⟩ := frz_list hf
  refine ⟨by omega, fun i hi => ?_⟩
  exact frz_sound hA1 (fun b r k h1 h2 => hS.blk b r k h1 h2) 8 _ _ _ (q2 i (by omega)) (fun b hb r k h1 h2 => hre b (reach_el (lh := σ.lh) (n := 8) (show i < args.length by omega) b hb) r k h1 h2) (hr i (by omega))

theorem reach_isD (lh : Nat → Option LB) (n : Nat) : ∀ (args : List AV), args.all isD = true → args.flatMap (reach lh n) = []
  | [], _ => rfl
  | x :: r, h => by
    simp only [List.all_cons, Bool.and_eq_true] at h
    have hx : reach lh n x = [] := by
      cases x with
      | d v => cases n <;> rfl
      | _ => simp [isD] at h
    rw [List.flatMap_cons, hx, reach_isD lh n r h.2]; rfl

theorem applyChg_map (f : Nat → Option LB) : ∀ (bs : List Nat) (lh : Nat → Option LB) (b : Nat), applyChg lh (bs.map fun b => (b, f b)) b = if b ∈ bs then f b else lh b
  | [], lh, b => by simp [applyChg]
  | x :: bs, lh, b => by
    have := applyChg_map f bs (upd lh x (f x)) b
    simp only [applyChg, List.map_cons, List.foldl_cons] at this ⊢
    rw [this]
    by_cases h : b ∈ bs
    · simp [h]
    · by_cases e : b = x
      · subst e; simp [h]
      · simp [h, e, zI1]

/-- Blocks given away: they are data from now on. -/
theorem Sim.donate (hS : Sim c A ρ σ a w) (bs : List Nat) :
    Sim c (fun g => A g ∨ ∃ b r k, b ∈ bs ∧ ρ b = some r ∧ σ.lh b = some k ∧ r.g = g) ρ { σ with lh := applyChg σ.lh (deaden σ.lh bs) } a w := by
  have hlh : ∀ b, applyChg σ.lh (deaden σ.lh bs) b = if b ∈ bs then (σ.lh b).map (fun k => { k with live := false }) else σ.lh b := fun b => applyChg_map _ bs σ.lh b
  have kp : Keeps w w A (fun g => A g ∨ ∃ b r k, b ∈ bs ∧ ρ b = some r ∧ σ.lh b = some k ∧ r.g = g) := fun g h => ⟨.inl h, rfl⟩
  have look : ∀ b k, applyChg σ.lh (deaden σ.lh bs) b = some k → ∃ k0, σ.lh b = some k0 ∧ ((b ∈ bs ∧ k = { k0 with live := false }) ∨ (b ∉ bs ∧ k = k0)) := fun b k h => by
    rw [hlh] at h
    by_cases hb : b ∈ bs
    · rw [if_pos hb] at h
      obtain ⟨k0, h1, rfl⟩ := Option.map_eq_some_iff.1 h
      exact ⟨k0, h1, .inl ⟨hb, rfl⟩⟩
    · rw [if_neg hb] at h; exact ⟨k, h, .inr ⟨hb, rfl⟩⟩
  have some1 : ∀ b, (applyChg σ.lh (deaden σ.lh bs) b).isSome = true → (σ.lh b).isSome = true := fun b h => by
    obtain ⟨k, hk⟩ := Option.isSome_iff_exists.1 h
    obtain ⟨k0, h0, _⟩ := look b k hk
    simp [h0]
  refine { size := hS.size, defers := hS.defers.mono kp (fun _ _ h => h), env := fun t => (hS.env t).mono kp (fun _ _ h => h), blk := ?_, inj := fun b r b' r' h1 h2 s1 s2 hg => hS.inj b r b' r' h1 h2 (some1 b s1) (some1 b' s2) hg, own := ?_, dead := ?_, lt := ?_, up := fun g h => .inl (hS.up g h), new := ?_, os := hS.os, tape := hS.tape, output := hS.output, hsize := hS.hsize, frame := hS.frame }
  · intro b r k h hk
    obtain ⟨k0, h0, hc⟩ := look b k hk
    have hB := (hS.blk b r k0 h h0).mono kp (fun _ _ h => h) rfl
    rcases hc with ⟨_, rfl⟩ | ⟨_, rfl⟩
    · obtain ⟨e, q1, q2, q3, q4⟩ := hB
      exact ⟨e, q1, q2, q3, q4⟩
    · exact hB
  · intro b r k h hk hl
    obtain ⟨k0, h0, hc⟩ := look b k hk
    rcases hc with ⟨_, rfl⟩ | ⟨hnb, rfl⟩
    · cases hl
    · obtain ⟨q1, q2⟩ := hS.own b r k h h0 hl
      refine ⟨?_, q2⟩
      rintro (hA | ⟨b', r', k', hb', h1, h2, hg⟩)
      · exact q1 hA
      · have := hS.inj b' r' b r h1 h (by simp [h2]) (by simp [h0]) hg
        subst this; exact hnb hb'
  · intro b r k h hk hl
    obtain ⟨k0, h0, hc⟩ := look b k hk
    rcases hc with ⟨hb, rfl⟩ | ⟨hnb, rfl⟩
    · exact .inr ⟨b, r, k0, hb, h, h0, rfl⟩
    · exact .inl (hS.dead b r k h h0 hl)
  · intro g hg
    rcases hg with h | ⟨b, r, k, _, h1, h2, rfl⟩
    · exact hS.lt g h
    · exact hS.g_lt h1 h2
  · intro g hg
    rcases hg with h | ⟨b, r, k, _, h1, h2, rfl⟩
    · exact hS.new g h
    · cases hl : k.live with
      | true => exact .inr (hS.own b r k h1 h2 hl).2
      | false => exact hS.new _ (hS.dead b r k h1 h2 hl)

theorem RetRep.scalar {w w' : World} {A A1 : Nat → Prop} {d : DV} (hd : scalarD d = true) {v : Value} (h : RetRep w A1 ⟨.d d, []⟩ v w') (hA : ∀ g, A g → g < w.heap.size) : RetRep w A ⟨.d d, []⟩ v w' := by
  obtain ⟨A', q, hB, hup, hnew, hlt, hv, hblk, hinj, hids⟩ := h.ex
  exact ⟨A, fun _ => none, hB, fun g h => h, fun g h => .inl h, fun g h => Nat.lt_of_lt_of_le (hA g h) hB.size, .d _ _ (scalarD_rep hd hv.ofD), fun b k h => by simp at h, fun b q b' q' h => by simp at h, fun b q h => by simp at h⟩

def callPost (next : Act → World → Prop) (Q : Exit → Act → World → Prop) (a : Act) (dst : Option Tmp) : Ending → World → Prop
  | .returned v, w'' => next (a.put dst v) w''
  | .panicked chain, w'' => Q (.panic chain) a w''
  | .outgrown, _ => LetsOut Q

theorem Sim.gown (hS : Sim c A ρ σ a w) (hc : CtxOk gs c) : ∀ g ∈ gs, ¬ Own ρ σ.lh g := fun g hg ho => by
  obtain ⟨m, hm⟩ := hc.g0 g hg
  have hlt := World.block_lt_of_cell? c.w0 _ hm
  rcases (hS.own_of ho).2 with h | h
  · exact hc.gO g hg h
  · simp only at hlt; omega

theorem call_sound (hc : CtxOk gs c) (hS : Sim c A ρ σ a w) {f : FuncId} {args : List AV} {vals : Array Value} (hl : vals.size = args.length) (hr : ∀ i, i < args.length → ARep w A ρ (args.getD i .undef) (vals.getD i undef))
    {dst : Option Tmp} (hd : ∀ d, dst = some d → d < c.n) {tx : Bool} {K : Res → Prop} {KP : DV → Res → Prop} (h : wpB (calls P gs) tx (.call σ.nid f args) σ.lh K KP)
    {next : Act → World → Prop} {Q : Exit → Act → World → Prop} (hf : ∀ r, K r → ∀ k, σ.nid + k < r.nid → ρ (σ.nid + k) = none) (hF : tx = true → Free ρ σ.nid)
    (hn : ∀ r x A' ρ' w', K r → Names ρ ρ' σ.nid r.nid → Sim c A' ρ' (σ.app dst r) (a.put dst x) w' → next (a.put dst x) w')
    (hp : ∀ d r x A' ρ' w', KP d r → Names ρ ρ' σ.nid r.nid → Sim c A' ρ' { σ with lh := r.lh, nid := r.nid } a w' → DRep w' A' d x → Q (.panic [{ v := x, recovered := false }]) a w') :
    enterOk P f = true ∧ Calls P f vals w (callPost next Q a dst) := by
  rcases h with ⟨r, rs, ⟨ds, p, hfz, ⟨hent, hpure⟩, hrs, hkind⟩, hK⟩ | ⟨htx, r, ⟨hent, hheap⟩, hK⟩ | ⟨htx, d, r, hpan, hK⟩ | ⟨d, rs, ⟨ds, hfz, ⟨hent, hpan⟩, hsc, hrs⟩, hK⟩
  · refine ⟨hent, ?_⟩
    rcases hkind with ⟨hkind, rfl⟩ | rfl
    · have fin : ∀ (e : Ending) w', (∃ v, e = .returned v ∧ RetRep w A p v w') → callPost next Q a dst e w' := fun e w' ⟨v, he, hR⟩ => by
        subst he
        obtain ⟨A', ρ', s1, s2, s3⟩ := hS.adopt (hf := fun k hk => hf _ hK k (by simp only [Ret.op, OpR.res]; omega)) hR
        exact hn _ v A' ρ' w' hK s3 (s1.put s2 dst hd)
      rcases hkind with hall | ⟨d, rfl, hsc⟩
      · obtain ⟨e1, e2⟩ := lent hS hl hr hfz (A1 := A) (fun g h => h) (fun b hb => by rw [reach_isD _ _ _ hall] at hb; cases hb)
        exact (hpure w A vals hS.lt e1 e2 (hS.gint hc)).mono fin
      · obtain ⟨e1, e2⟩ := lent hS hl hr hfz (A1 := fun g => A g ∨ ∃ b r k, ρ b = some r ∧ σ.lh b = some k ∧ r.g = g) (fun g h => .inl h) (fun b hb r k h1 h2 => .inr ⟨b, r, k, h1, h2, rfl⟩)
        refine (hpure w _ vals (fun g h => ?_) e1 e2 (hS.gint hc)).mono fun e w' ⟨v, he, hR⟩ => fin e w' ⟨v, he, hR.scalar hsc hS.lt⟩
        rcases h with h | ⟨b, r, k, h1, h2, rfl⟩
        · exact hS.lt g h
        · exact hS.g_lt h1 h2
    · have hD := hS.donate rs
      obtain ⟨e1, e2⟩ := lent hS hl hr hfz (A1 := fun g => A g ∨ ∃ b r k, b ∈ rs ∧ ρ b = some r ∧ σ.lh b = some k ∧ r.g = g) (fun g h => .inl h) (fun b hb r k h1 h2 => .inr ⟨b, r, k, by rw [hrs]; exact hb, h1, h2, rfl⟩)
      refine (hpure w _ vals hD.lt e1 e2 (hS.gint hc)).mono fun e w' ⟨v, he, hR⟩ => ?_
      subst he
      obtain ⟨A', ρ', s1, s2, s3⟩ := hD.adopt (hf := fun k hk => hf _ hK k (by simp only [Ret.op, OpR.res]; omega)) hR
      refine hn _ v A' ρ' w' hK s3 ?_
      have s4 := s1.put s2 dst hd
      have e3 : applyChg (applyChg σ.lh (deaden σ.lh rs)) (p.op σ.nid).chg = applyChg σ.lh (deaden σ.lh rs ++ (p.op σ.nid).chg) := by simp [applyChg, List.foldl_append]
      simp only [e3] at s4
      exact s4
  · refine ⟨hent, (hheap w A ρ vals (hS.hs 0 0) (hS.gint hc) (hS.gown hc) (hF htx) ⟨hl, hr⟩).mono fun e w' ⟨v, he, A', ρ', q1, q2, q3⟩ => ?_⟩
    subst he
    have s1 := hS.take q1 q3 (fun k hk => hF htx _ (Nat.le_add_right _ _))
    exact hn r v A' ρ' w' hK q3 (s1.put q2 dst hd)
  · rcases hpan with ⟨ds, hfz, ⟨hent, hpan⟩, hsc, rfl⟩ | ⟨hent, hheap⟩
    · obtain ⟨e1, e2⟩ := lent hS hl hr hfz (A1 := fun g => A g ∨ ∃ b r k, ρ b = some r ∧ σ.lh b = some k ∧ r.g = g) (fun g h => .inl h) (fun b hb r k h1 h2 => .inr ⟨b, r, k, h1, h2, rfl⟩)
      refine ⟨hent, (hpan w _ vals (fun g h => ?_) e1 e2 (hS.gint hc)).mono fun e w' ⟨v, he, hR⟩ => ?_⟩
      · rcases h with h | ⟨b, r, k, h1, h2, rfl⟩
        · exact hS.lt g h
        · exact hS.g_lt h1 h2
      · subst he
        obtain ⟨A', ρ', s1, s2, s3⟩ := hS.adopt (hf := fun k hk => by simp at hk) (hR.scalar hsc hS.lt)
        have s1' : Sim c A' ρ' σ a w' := by simpa [Ret.op, applyChg] using s1
        have s2' : ARep w' A' ρ' (.d d) v := by simpa [Ret.op, AV.sh] using s2
        exact hp d _ v A' ρ' w' hK (by simpa [Ret.op] using s3) s1' s2'.ofD
    · refine ⟨hent, (hheap w A ρ vals (hS.hs 0 0) (hS.gint hc) (hS.gown hc) (hF htx) ⟨hl, hr⟩).mono fun e w' ⟨v, he, A', ρ', q1, q2, q3⟩ => ?_⟩
      subst he
      have s1 := hS.take q1 q3 (fun k hk => hF htx _ (Nat.le_add_right _ _))
      exact hp d r v A' ρ' w' hK q3 s1 q2
  · obtain ⟨e1, e2⟩ := lent hS hl hr hfz (A1 := fun g => A g ∨ ∃ b r k, ρ b = some r ∧ σ.lh b = some k ∧ r.g = g) (fun g h => .inl h) (fun b hb r k h1 h2 => .inr ⟨b, r, k, h1, h2, rfl⟩)
    refine ⟨hent, (hpan w _ vals (fun g h => ?_) e1 e2 (hS.gint hc)).mono fun e w' ⟨v, he, hR⟩ => ?_⟩
    · rcases h with h | ⟨b, r, k, h1, h2, rfl⟩
      · exact hS.lt g h
      · exact hS.g_lt h1 h2
    · subst he
      obtain ⟨A', ρ', s1, s2, s3⟩ := hS.adopt (hf := fun k hk => by simp at hk) (hR.scalar hsc hS.lt)
      have s1' : Sim c A' ρ' σ a w' := by simpa [Ret.op, applyChg] using s1
      have s2' : ARep w' A' ρ' (.d d) v := by simpa [Ret.op, AV.sh] using s2
      exact hp d _ v A' ρ' w' hK (by simpa [Ret.op] using s3) s1' s2'.ofD
end
end Go.Proofs.Am

set_option linter.unusedVariables false
set_option linter.unusedSimpArgs false
namespace Go.Proofs.Am
open Go Go.RowKit

section
variable {P : Program} {gs : List Nat} {c : Ctx} {A : Nat → Prop} {ρ : Nat → Option BR} {σ : St} {a : Act} {w : World}

theorem zH6 {E : CallE} {tx : Bool} {α : Type} {o : Option α} {k : α → BM} {lh : Nat → Option LB} {K : Res → Prop} {KP : DV → Res → Prop} (h : wpB E tx (BM.ofO o k) lh K KP) : ∃ x, o = some x ∧ wpB E tx (k x) lh K KP := by
  cases o with
  | none => exact h.elim
  | some x => exact ⟨x, rfl, h⟩

/-- The value that a plain operation makes. -/
theorem zH4 {o : Oper} (hS : Sim c A ρ σ a w) (hd : ∀ d, o.dst = some d → d < c.n) {s : Sem Value} (ho : execOp a.eval o = (do pure (.value (← s)))) {v : AV}
    (hy : ∃ x, s.run P w = .ok x w ∧ ARep w A ρ v x) {K : Res → Prop} (hK : K ⟨v, σ.lh, σ.nid⟩) {next : Act → World → Prop} {Q : Exit → Act → World → Prop}
    (hn : ∀ r x A' ρ' w', K r → Names ρ ρ' σ.nid r.nid → Sim c A' ρ' (σ.app o.dst r) (a.put o.dst x) w' → next (a.put o.dst x) w') : o.wp P a w next Q :=
  wp_yields hd ho (Yields.just hS hy) (fun x A' ρ' w' q h => hn _ x A' ρ' w' hK q h)

theorem zK0 {o : Oper} {op : Op} (h : o.op = op) : execOp a.eval o = execOp a.eval { o with op := op } := by
  cases o; simp only at h; subst h; rfl

theorem parts_all {parts : Array (Nat × Operand)} (hS : Sim c A ρ σ a w) :
    All2 (fun p q => p.1 = q.1 ∧ ARep w A ρ p.2 q.2) (parts.toList.map fun (i, x) => (i, σ.eval x)) (parts.map fun (i, x) => (i, a.eval x)).toList := by
  rw [Array.toList_map]
  exact All2.map parts.toList fun p hp => ⟨rfl, zF7 hS p.2⟩

theorem parts_one {parts : Array (Nat × Operand)} (h : (parts.toList.all fun (_, x) => (σ.eval x).cells.all avOne) = true) :
    ∀ p ∈ (parts.toList.map fun (i, x) => (i, σ.eval x)), p.2.cells.all avOne = true := fun p hp => by
  obtain ⟨q, hq, rfl⟩ := List.mem_map.1 hp
  exact List.all_eq_true.1 h q hq

theorem opt_rep (hS : Sim c A ρ σ a w) (x : Option Operand) : match x.map σ.eval, x.map a.eval with | some x, some y => ARep w A ρ x y | none, none => True | _, _ => False := by
  cases x with
  | none => trivial
  | some x => exact zF7 hS x

theorem two_args {α : Type} [Inhabited α] {xs : Array α} (d : α) (h : xs.size = 2) : xs = #[xs.getD 0 d, xs.getD 1 d] := by
  apply Array.ext (by simp [h])
  intro i h1 h2
  have : i = 0 ∨ i = 1 := by omega
  rcases this with rfl | rfl <;> simp [Array.getD, h]

theorem one_arg {α : Type} {xs : Array α} (d : α) (h : xs.size = 1) : xs = #[xs.getD 0 d] := by
  apply Array.ext (by simp [h])
  intro i h1 h2
  have : i = 0 := by omega
  subst this; simp [Array.getD, h]

/-- What is to be shown of an operation. -/
def OpGoal (P : Program) (gs : List Nat) (c : Ctx) (A : Nat → Prop) (ρ : Nat → Option BR) (σ : St) (a : Act) (w : World) (o : Oper) : Prop :=
  ∀ (tx : Bool) (K : Res → Prop) (KP : DV → Res → Prop) (next : Act → World → Prop) (Q : Exit → Act → World → Prop), wpB (calls P gs) tx (opB P σ.nid σ.eval o.op) σ.lh K KP →
    (∀ r, K r → ∀ k, σ.nid + k < r.nid → ρ (σ.nid + k) = none) → (tx = true → Free ρ σ.nid) →
    (∀ r x A' ρ' w', K r → Names ρ ρ' σ.nid r.nid → Sim c A' ρ' (σ.app o.dst r) (a.put o.dst x) w' → next (a.put o.dst x) w') →
    (∀ d r x A' ρ' w', KP d r → Names ρ ρ' σ.nid r.nid → Sim c A' ρ' { σ with lh := r.lh, nid := r.nid } a w' → DRep w' A' d x → Q (.panic [{ v := x, recovered := false }]) a w') → o.wp P a w next Q

theorem op_move (hc : CtxOk gs c) (hS : Sim c A ρ σ a w) {o : Oper} (hd : ∀ d, o.dst = some d → d < c.n) (x : Operand) (hop : o.op = .move x) : OpGoal P gs c A ρ σ a w o := by
  intro tx K KP next Q h hfr hF hn hp
  simp only [hop, opB] at h
  exact zH4 hS hd (s := pure (a.eval x)) (by rw [zK0 hop]; rfl) ⟨_, rfl, zF7 hS x⟩ h hn

theorem op_assign (hc : CtxOk gs c) (hS : Sim c A ρ σ a w) {o : Oper} (hd : ∀ d, o.dst = some d → d < c.n) (x : Operand) (hop : o.op = .assign x) : OpGoal P gs c A ρ σ a w o := by
  intro tx K KP next Q h hfr hF hn hp
  simp only [hop, opB] at h
  exact zH4 hS hd (s := pure (a.eval x)) (by rw [zK0 hop]; rfl) ⟨_, rfl, zF7 hS x⟩ h hn

theorem op_pick (hc : CtxOk gs c) (hS : Sim c A ρ σ a w) {o : Oper} (hd : ∀ d, o.dst = some d → d < c.n) (cc x y : Operand) (hop : o.op = .pick cc x y) : OpGoal P gs c A ρ σ a w o := by
  intro tx K KP next Q h hfr hF hn hp
  simp only [hop, opB] at h
  split at h
  · rename_i t ht
    have hcr := zF7 hS cc
    rw [ht] at hcr
    have hcr := hcr.ofD
    have hcv : a.eval cc = .bool t := by
      generalize a.eval cc = v at hcr
      cases hcr; rfl
    refine zH4 hS hd (s := pure (if t then a.eval x else a.eval y)) ?_ ⟨_, rfl, ?_⟩ h hn
    · rw [zK0 hop]; simp only [execOp, hcv]; rfl
    · cases t
      · exact zF7 hS y
      · exact zF7 hS x
  · exact h.elim

theorem op_alloc (hc : CtxOk gs c) (hS : Sim c A ρ σ a w) {o : Oper} (hd : ∀ d, o.dst = some d → d < c.n) (t : TypeId) (hop : o.op = .alloc t) : OpGoal P gs c A ρ σ a w o := by
  intro tx K KP next Q h hfr hF hn hp
  simp only [hop, opB] at h
  obtain ⟨ti, ht, h⟩ := zH6 h
  exact wp_yields hd (s := Instr.alloc t true (.tuple #[])) (by rw [zK0 hop]; rfl) (alloc_sound hS (hfr _ h 0 (by simp [OpR.res])) ht) (fun x A' ρ' w' q hh => hn _ x A' ρ' w' h q hh)

theorem op_box (hc : CtxOk gs c) (hS : Sim c A ρ σ a w) {o : Oper} (hd : ∀ d, o.dst = some d → d < c.n) (t : TypeId) (x : Operand) (hop : o.op = .box t x) : OpGoal P gs c A ρ σ a w o := by
  intro tx K KP next Q h hfr hF hn hp
  simp only [hop, opB] at h
  split at h
  · rename_i h1
    exact wp_yields hd (s := Instr.box t (a.eval x)) (by rw [zK0 hop]; rfl) (box_sound hS (hfr _ h 0 (by simp [OpR.res])) (zF7 hS x) h1) (fun x A' ρ' w' q hh => hn _ x A' ρ' w' h q hh)
  · exact h.elim

theorem op_build (hc : CtxOk gs c) (hS : Sim c A ρ σ a w) {o : Oper} (hd : ∀ d, o.dst = some d → d < c.n) (t : TypeId) (parts : Array (Nat × Operand)) (hop : o.op = .build t parts) : OpGoal P gs c A ρ σ a w o := by
  intro tx K KP next Q h hfr hF hn hp
  simp only [hop, opB] at h
  obtain ⟨ti, ht, h⟩ := zH6 h
  obtain ⟨pl, hpl, h⟩ := zH6 h
  split at h
  · rename_i hc2
    obtain ⟨cs, hcs, h⟩ := zH6 h
    exact zH4 hS hd (s := Instr.build t (parts.map fun (i, x) => (i, a.eval x))) (by rw [zK0 hop]; rfl) (build_sound ht hc2.2 hpl (parts_all hS) (parts_one hc2.1) hcs) h hn
  · exact h.elim

theorem op_buildSlice (hc : CtxOk gs c) (hS : Sim c A ρ σ a w) {o : Oper} (hd : ∀ d, o.dst = some d → d < c.n) (t : TypeId) (len : Nat) (parts : Array (Nat × Operand)) (hop : o.op = .buildSlice t len parts) : OpGoal P gs c A ρ σ a w o := by
  intro tx K KP next Q h hfr hF hn hp
  simp only [hop, opB] at h
  have hex : execOp a.eval o = (do pure (.value (← Instr.buildSlice t len (parts.map fun (i, x) => (i, a.eval x))))) := by
    rw [zK0 hop]; simp only [execOp]
  generalize hL : (16777216 : Nat) = L at h
  split at h
  · rename_i e hu
    obtain ⟨ti, ht, h⟩ := zH6 h
    split at h
    · rename_i hc2
      obtain ⟨els, hels, h⟩ := zH6 h
      have hle : len * ti.sz ≤ 16777216 := by rw [hL]; exact hc2.1
      have hy := buildSlice_sound (P := P) hS (hfr _ h 0 (by simp [OpR.res])) hu ht hle hc2.2.1 (parts_all hS) (parts_one hc2.2.2) hels
      exact wp_yields hd hex hy (fun x A' ρ' w' q hh => hn _ x A' ρ' w' h q hh)
    · exact h.elim
  · exact h.elim

theorem op_load (hc : CtxOk gs c) (hS : Sim c A ρ σ a w) {o : Oper} (hd : ∀ d, o.dst = some d → d < c.n) (t : TypeId) (ad : Operand) (hop : o.op = .load t ad) : OpGoal P gs c A ρ σ a w o := by
  intro tx K KP next Q h hfr hF hn hp
  simp only [hop, opB] at h
  obtain ⟨ti, ht, h⟩ := zH6 h
  have hex : execOp a.eval o = (do pure (.value (← Instr.loadAt t (a.eval ad)))) := by rw [zK0 hop]; rfl
  split at h
  · rename_i els i fo hev
    obtain ⟨v, hv, h⟩ := zH6 h
    have hr := zF7 hS ad; rw [hev] at hr
    exact zH4 hS hd hex (load_pim_sound ht hr hv) h hn
  · rename_i b es i fo hev
    simp only [wpB] at h
    cases hk : σ.lh b with
    | none => simp [hk] at h
    | some k =>
      simp only [hk] at h
      split at h
      · rename_i hi
        obtain ⟨v, hv, h⟩ := zH6 h
        have hr := zF7 hS ad; rw [hev] at hr
        exact zH4 hS hd hex (load_loc_sound hS ht hr hk hi hv) h hn
      · exact h.elim
  · exact h.elim

theorem op_store (hc : CtxOk gs c) (hS : Sim c A ρ σ a w) {o : Oper} (hd : ∀ d, o.dst = some d → d < c.n) (t : TypeId) (ad x : Operand) (hop : o.op = .store t ad x) : OpGoal P gs c A ρ σ a w o := by
  intro tx K KP next Q h hfr hF hn hp
  simp only [hop, opB] at h
  obtain ⟨ti, ht, h⟩ := zH6 h
  split at h
  · rename_i b es i fo hev
    simp only [wpB] at h
    cases hk : σ.lh b with
    | none => simp [hk] at h
    | some k =>
      simp only [hk] at h
      split at h
      · rename_i hc2
        obtain ⟨h1, h2, h3, h4, h5⟩ := hc2
        have hr := zF7 hS ad; rw [hev] at hr
        obtain ⟨w', q1, q2⟩ := store_sound (P := P) hS ht hr hk h1 h2 (zF7 hS x) h3 h4 h5
        unfold Oper.wp
        rw [zK0 hop]
        simp only [execOp, Sem.run_bind, q1, Result.andThen_ok, Sem.run_pure, Oper.upon_skip]
        exact hn _ undef A ρ w' h (Names.refl _ _) (q2.put (.un undef) o.dst hd)
      · exact h.elim
  · exact h.elim

theorem op_nilCheck (hc : CtxOk gs c) (hS : Sim c A ρ σ a w) {o : Oper} (hd : ∀ d, o.dst = some d → d < c.n) (x : Operand) (hop : o.op = .nilCheck x) : OpGoal P gs c A ρ σ a w o := by
  intro tx K KP next Q h hfr hF hn hp
  simp only [hop, opB] at h
  have hr := zF7 hS x
  have hex : ∀ v, (match v with | .pointer none | .nilIface | .nilFunc => False | .func (.method _) _ _ => False | _ => True) → a.eval x = v → execOp a.eval o = (do pure (.value (← (pure v : Sem Value)))) := fun v hv e => by
    rw [zK0 hop]; simp only [execOp, e]
    split <;> simp_all
  split at h
  · rename_i b es i fo hev
    rw [hev] at hr
    cases hr' : a.eval x with
    | pointer p =>
      rw [hr'] at hr
      cases p with
      | none => cases hr
      | some p => exact zH4 hS hd (hex _ trivial hr') ⟨_, rfl, hr⟩ h hn
    | _ => rw [hr'] at hr; cases hr
  · rename_i els i fo hev
    rw [hev] at hr
    cases hr' : a.eval x with
    | pointer p =>
      rw [hr'] at hr
      cases p with
      | none => cases hr.ofD
      | some p => exact zH4 hS hd (hex _ trivial hr') ⟨_, rfl, hr⟩ h hn
    | _ => rw [hr'] at hr; cases hr.ofD
  · rename_i f cs hev
    rw [hev] at hr
    cases hr' : a.eval x with
    | func fn first capt =>
      rw [hr'] at hr
      have hfn : ∃ g, fn = .func g := by cases hr.ofD; exact ⟨_, rfl⟩
      obtain ⟨g, rfl⟩ := hfn
      exact zH4 hS hd (hex _ trivial hr') ⟨_, rfl, hr⟩ h hn
    | _ => rw [hr'] at hr; cases hr.ofD
  · rename_i f cs hev
    rw [hev] at hr
    cases hr' : a.eval x with
    | func fn first capt =>
      rw [hr'] at hr
      have hfn : ∃ g, fn = .func g := by cases hr; exact ⟨_, rfl⟩
      obtain ⟨g, rfl⟩ := hfn
      exact zH4 hS hd (hex _ trivial hr') ⟨_, rfl, hr⟩ h hn
    | _ => rw [hr'] at hr; cases hr
  · exact h.elim

theorem op_unOp (hc : CtxOk gs c) (hS : Sim c A ρ σ a w) {o : Oper} (hd : ∀ d, o.dst = some d → d < c.n) (op : UnOp) (t : TypeId) (x : Operand) (hop : o.op = .unOp op t x) : OpGoal P gs c A ρ σ a w o := by
  intro tx K KP next Q h hfr hF hn hp
  simp only [hop, opB] at h
  obtain ⟨v, hv, h⟩ := zH6 h
  obtain ⟨z, hz, hzd⟩ := unD_sound (P := P) (zF7 hS x) hv
  exact zH4 hS hd (s := Op.unary op (a.eval x)) (by rw [zK0 hop]; rfl) ⟨z, hz, .d _ _ hzd⟩ h hn

theorem op_makeInterface (hc : CtxOk gs c) (hS : Sim c A ρ σ a w) {o : Oper} (hd : ∀ d, o.dst = some d → d < c.n) (t : TypeId) (x : Operand) (hop : o.op = .makeInterface t x) : OpGoal P gs c A ρ σ a w o := by
  intro tx K KP next Q h hfr hF hn hp
  simp only [hop, opB] at h
  split at h
  · exact h.elim
  · rename_i u hu hni
    have hrun : (Instr.makeInterface t (a.eval x)).run P w = .ok (.iface t (a.eval x)) w := by
      simp only [Instr.makeInterface, Sem.run_bind, run_underlying hni, Result.andThen_ok]
      rfl
    have hr := zF7 hS x
    split at h
    · rename_i v hev
      rw [hev] at hr
      exact zH4 hS hd (s := Instr.makeInterface t (a.eval x)) (by rw [zK0 hop]; rfl) ⟨_, hrun, .d _ _ (.iface t v _ hr.ofD)⟩ h hn
    · exact zH4 hS hd (s := Instr.makeInterface t (a.eval x)) (by rw [zK0 hop]; rfl) ⟨_, hrun, .iface t _ _ hr⟩ h hn
  · exact h.elim

end
end Go.Proofs.Am

set_option linter.unusedVariables false
set_option linter.unusedSimpArgs false
namespace Go.Proofs.Am
open Go Go.RowKit

section
variable {P : Program} {gs : List Nat} {c : Ctx} {A : Nat → Prop} {ρ : Nat → Option BR} {σ : St} {a : Act} {w : World}

theorem allD_rep : ∀ {l : List AV} {ds : List DV}, allD l = some ds → l = ds.map .d
  | [], ds, h => by simp only [allD, Option.some.injEq] at h; subst h; rfl
  | .d v :: r, ds, h => by
    simp only [allD, Option.map_eq_some_iff] at h
    obtain ⟨ds', h1, rfl⟩ := h
    rw [allD_rep h1]; rfl
  | .loc .. :: r, ds, h => by simp [allD] at h
  | .slc .. :: r, ds, h => by simp [allD] at h
  | .agg .. :: r, ds, h => by simp [allD] at h
  | .tup .. :: r, ds, h => by simp [allD] at h
  | .fn .. :: r, ds, h => by simp [allD] at h
  | .iface .. :: r, ds, h => by simp [allD] at h
  | .undef :: r, ds, h => by simp [allD] at h

theorem evals_get (hS : Sim c A ρ σ a w) (caps : Array Operand) (i : Nat) (h : i < caps.size) : ARep w A ρ ((caps.toList.map σ.eval).getD i .undef) ((caps.map a.eval).getD i undef) := by
  have e1 : (caps.toList.map σ.eval).getD i .undef = σ.eval caps[i] := by simp [List.getD, h]
  have e2 : (caps.map a.eval).getD i undef = a.eval caps[i] := by simp [Array.getD, h]
  rw [e1, e2]; exact zF7 hS _

theorem op_makeFunc (hc : CtxOk gs c) (hS : Sim c A ρ σ a w) {o : Oper} (hd : ∀ d, o.dst = some d → d < c.n) (f : FuncId) (first caps : Array Operand) (hop : o.op = .makeFunc (.func f) first caps) : OpGoal P gs c A ρ σ a w o := by
  intro tx K KP next Q h hfr hF hn hp
  simp only [hop, opB] at h
  have hex : execOp a.eval o = (do pure (.value (← Instr.makeFunc (.func f) (first.map a.eval) (caps.map a.eval)))) := by
    rw [zK0 hop]; simp only [execOp]
  split at h
  · rename_i h0
    have hf : first.map a.eval = #[] := by
      apply Array.ext (by simp [h0])
      intro i h1 h2; simp at h2
    have hrun : (Instr.makeFunc (.func f) (first.map a.eval) (caps.map a.eval)).run P w = .ok (.func (.func f) #[] (caps.map a.eval)) w := by rw [hf]; rfl
    split at h
    · rename_i ds hds
      have e := allD_rep hds
      have hl : ds.length = caps.size := by have := congrArg List.length e; simp at this; exact this.symm
      refine zH4 hS hd hex ⟨_, hrun, .d _ _ (.fn f ds _ (by simp [hl]) (fun i hi => ?_))⟩ h hn
      have := evals_get hS caps i (by omega)
      rw [e, zG7 _ _ hi] at this
      exact this.ofD
    · refine zH4 hS hd hex ⟨_, hrun, .fn f _ _ (by simp) (fun i hi => ?_)⟩ h hn
      exact evals_get hS caps i (by simpa using hi)
  · exact h.elim

theorem op_makeSlice (hc : CtxOk gs c) (hS : Sim c A ρ σ a w) {o : Oper} (hd : ∀ d, o.dst = some d → d < c.n) (t : TypeId) (l cc : Operand) (hop : o.op = .makeSlice t l cc) : OpGoal P gs c A ρ σ a w o := by
  intro tx K KP next Q h hfr hF hn hp
  simp only [hop, opB] at h
  have hex : execOp a.eval o = (do pure (.value (← Instr.makeSlice t (a.eval l) (a.eval cc)))) := by
    rw [zK0 hop]; simp only [execOp]
  split at h
  · rename_i e n m hu hl hm
    obtain ⟨ti, ht, h⟩ := zH6 h
    split at h
    · rename_i hc2
      obtain ⟨h1, h2, h3, h4⟩ := hc2
      have r1 := zF7 hS l
      have r2 := zF7 hS cc
      rw [hl] at r1; rw [hm] at r2
      have r1 := r1.ofD
      have r2 := r2.ofD
      have hy := makeSlice_sound (P := P) hS (hfr _ h 0 (by simp [OpR.res])) hu ht h1 h2 h3 h4
      generalize a.eval l = lv at r1 hex
      generalize a.eval cc = cv at r2 hex
      cases r1; cases r2
      exact wp_yields hd hex hy (fun x A' ρ' w' q hh => hn _ x A' ρ' w' h q hh)
    · exact h.elim
  · exact h.elim

theorem op_slice (hc : CtxOk gs c) (hS : Sim c A ρ σ a w) {o : Oper} (hd : ∀ d, o.dst = some d → d < c.n) (t : TypeId) (x : Operand) (lo hi : Option Operand) (hop : o.op = .slice t x lo hi none) : OpGoal P gs c A ρ σ a w o := by
  intro tx K KP next Q h hfr hF hn hp
  simp only [hop, opB] at h
  obtain ⟨v, hv, h⟩ := zH6 h
  have hex : execOp a.eval o = (do pure (.value (← Instr.sliceAt t (a.eval x) (lo.map a.eval) (hi.map a.eval) none))) := by
    rw [zK0 hop]; simp only [execOp, Option.map_none]
  exact zH4 hS hd hex (sliceA_sound (P := P) (zF7 hS x) (opt_rep hS lo) (opt_rep hS hi) hv) h hn

theorem op_fieldAddr (hc : CtxOk gs c) (hS : Sim c A ρ σ a w) {o : Oper} (hd : ∀ d, o.dst = some d → d < c.n) (s : TypeId) (x : Operand) (f : Nat) (hop : o.op = .fieldAddr s x f) : OpGoal P gs c A ρ σ a w o := by
  intro tx K KP next Q h hfr hF hn hp
  simp only [hop, opB] at h
  obtain ⟨v, hv, h⟩ := zH6 h
  exact zH4 hS hd (s := Instr.fieldAt s (a.eval x) f) (by rw [zK0 hop]; simp only [execOp]) (fieldAddr_sound (P := P) (zF7 hS x) hv) h hn

theorem op_indexAddr (hc : CtxOk gs c) (hS : Sim c A ρ σ a w) {o : Oper} (hd : ∀ d, o.dst = some d → d < c.n) (t : TypeId) (x i : Operand) (hop : o.op = .indexAddr t x i) : OpGoal P gs c A ρ σ a w o := by
  intro tx K KP next Q h hfr hF hn hp
  simp only [hop, opB] at h
  obtain ⟨v, hv, h⟩ := zH6 h
  exact zH4 hS hd (s := Instr.indexAt t (a.eval x) (a.eval i)) (by rw [zK0 hop]; simp only [execOp]) (indexAddr_sound (P := P) (zF7 hS x) (zF7 hS i) hv) h hn

theorem op_index (hc : CtxOk gs c) (hS : Sim c A ρ σ a w) {o : Oper} (hd : ∀ d, o.dst = some d → d < c.n) (t : TypeId) (x i : Operand) (hop : o.op = .index t x i) : OpGoal P gs c A ρ σ a w o := by
  intro tx K KP next Q h hfr hF hn hp
  simp only [hop, opB] at h
  have hex : execOp a.eval o = (do pure (.value (← Instr.index t (a.eval x) (a.eval i)))) := by rw [zK0 hop]; simp only [execOp]
  split at h
  · rename_i s k n hu hx hi
    have r1 := zF7 hS x
    have r2 := zF7 hS i
    rw [hx] at r1; rw [hi] at r2
    have r1 := r1.ofD
    have r2 := r2.ofD
    split at h
    · rename_i hb
      generalize a.eval x = xv at r1 hex
      generalize a.eval i = iv at r2 hex
      cases r1; cases r2
      have hlt : n.toNat < s.size := by omega
      refine zH4 hS hd hex ⟨.int .u8 (s.data.toList.getD n.toNat 0).toNat, ?_, .d _ _ (.int _ _)⟩ h hn
      have e : s[n.toNat]? = some (s.data.toList.getD n.toNat 0) := by
        have hl : n.toNat < s.data.toList.length := by simpa using hlt
        have : s.data.toList.getD n.toNat 0 = s[n.toNat] := by simp [List.getD, List.getElem?_eq_getElem hl]; rfl
        rw [this]; simp [hlt]
      simp [Instr.index, asIntOf, run_underlying hu, hb.1, e]
    · exact h.elim
  · exact h.elim

theorem op_extract (hc : CtxOk gs c) (hS : Sim c A ρ σ a w) {o : Oper} (hd : ∀ d, o.dst = some d → d < c.n) (x : Operand) (i : Nat) (hop : o.op = .extract x i) : OpGoal P gs c A ρ σ a w o := by
  intro tx K KP next Q h hfr hF hn hp
  simp only [hop, opB] at h
  have hex : execOp a.eval o = (do pure (.value (← Instr.extract (a.eval x) i))) := by rw [zK0 hop]; simp only [execOp]
  have r1 := zF7 hS x
  split at h
  · rename_i vs hx
    rw [hx] at r1
    obtain ⟨v, hv, h⟩ := zH6 h
    generalize a.eval x = xv at r1 hex
    cases r1 with
    | tup _ xs hl hh =>
      obtain ⟨hi, e⟩ := List.getElem?_eq_some_iff.1 hv
      refine zH4 hS hd hex ⟨xs.getD i undef, ?_, ?_⟩ h hn
      · have : i < xs.size := by omega
        simp [Instr.extract, Array.getD, this]
      · have := hh i hi
        have e2 : vs.getD i .undef = v := by simp [List.getD, hv]
        rw [e2] at this; exact this
  · rename_i vs hx
    rw [hx] at r1
    have r1 := r1.ofD
    obtain ⟨v, hv, h⟩ := zH6 h
    generalize a.eval x = xv at r1 hex
    cases r1 with
    | tup _ xs hl hh =>
      obtain ⟨hi, e⟩ := List.getElem?_eq_some_iff.1 hv
      refine zH4 hS hd hex ⟨xs.getD i undef, ?_, ?_⟩ h hn
      · have : i < xs.size := by omega
        simp [Instr.extract, Array.getD, this]
      · have := hh i hi
        have e2 : vs.getD i .inil = v := by simp [List.getD, hv]
        rw [e2] at this; exact .d _ _ this
  · exact h.elim

theorem op_len (hc : CtxOk gs c) (hS : Sim c A ρ σ a w) {o : Oper} (hd : ∀ d, o.dst = some d → d < c.n) (args : Array Operand) (ts : Array TypeId) (hop : o.op = .call { callee := .builtin .len, args, argTypes := ts }) : OpGoal P gs c A ρ σ a w o := by
  intro tx K KP next Q h hfr hF hn hp
  simp only [hop, opB] at h
  split at h
  · rename_i hsz
    obtain ⟨v, hv, h⟩ := zH6 h
    have e1 := one_arg (.tmp 0) hsz.1
    have e2 := one_arg (0 : TypeId) hsz.2
    have hex : execOp a.eval o = (do pure (.value (← Builtin.len_ #[ts.getD 0 0] o.type #[a.eval (args.getD 0 (.tmp 0))]))) := by
      rw [zK0 hop]
      simp only [execOp, resolve, invoke, builtin, pure_bind]
      rw [e1, e2]
      simp
    obtain ⟨y, hy, hyd⟩ := len_sound (P := P) (t := ts.getD 0 0) (ty := o.type) (zF7 hS (args.getD 0 (.tmp 0))) hv
    exact zH4 hS hd hex ⟨y, hy, .d _ _ hyd⟩ h hn
  · exact h.elim

theorem op_append (hc : CtxOk gs c) (hS : Sim c A ρ σ a w) {o : Oper} (hd : ∀ d, o.dst = some d → d < c.n) (args : Array Operand) (ts : Array TypeId) (hop : o.op = .call { callee := .builtin .append, args, argTypes := ts }) : OpGoal P gs c A ρ σ a w o := by
  intro tx K KP next Q h hfr hF hn hp
  simp only [hop, opB] at h
  split at h
  · rename_i hsz
    have e1 := two_args (.tmp 0) hsz.1
    have e2 := two_args (0 : TypeId) hsz.2
    split at h
    · rename_i e e' hu hu'
      obtain ⟨ti, ht, h⟩ := zH6 h
      have hex : execOp a.eval o = (do pure (.value (← Builtin.append_ #[ts.getD 0 0, ts.getD 1 0] o.type #[a.eval (args.getD 0 (.tmp 0)), a.eval (args.getD 1 (.tmp 0))]))) := by
        rw [zK0 hop]
        simp only [execOp, resolve, invoke, builtin, pure_bind]
        rw [e1, e2]
        simp
      obtain ⟨r, hK, hy⟩ := appendB_sound (P := P) (ty := o.type) hS hfr hu hu' ht (zF7 hS (args.getD 0 (.tmp 0))) (zF7 hS (args.getD 1 (.tmp 0))) h
      exact wp_yields hd hex hy (fun x A' ρ' w' q hh => hn _ x A' ρ' w' hK q hh)
    · exact h.elim
  · exact h.elim

theorem run_callFunc {f : FuncId} (h : enterOk P f = true) (args : Array Value) (w : World) : (callFunc f args).run P w = .ok (.enter f args) w := by
  unfold enterOk at h
  cases hf : P.funcs[f]? with
  | none => simp [hf] at h
  | some fn =>
    simp only [hf, Bool.and_eq_true, Bool.not_eq_true', beq_eq_false_iff_ne] at h
    obtain ⟨h1, h2⟩ := h
    have h3 : fn.body.isNone = false := by cases hb : fn.body <;> simp_all
    have h4 : fn.body ≠ none := fun e => by simp [e] at h2
    simp [callFunc, hf, h1, h4]

theorem op_call (hc : CtxOk gs c) (hS : Sim c A ρ σ a w) {o : Oper} (hd : ∀ d, o.dst = some d → d < c.n) (fv : Operand) (args : Array Operand) (ts : Array TypeId) (hop : o.op = .call { callee := .value fv, args, argTypes := ts }) : OpGoal P gs c A ρ σ a w o := by
  intro tx K KP next Q h hfr hF hn hp
  simp only [hop, opB] at h
  have r1 := zF7 hS fv
  have go : ∀ (f : FuncId) (caps : Array Value) (capsA : List AV), a.eval fv = .func (.func f) #[] caps → caps.size = capsA.length → (∀ i, i < capsA.length → ARep w A ρ (capsA.getD i .undef) (caps.getD i undef)) →
      wpB (calls P gs) tx (.call σ.nid f (args.toList.map σ.eval ++ capsA)) σ.lh K KP → o.wp P a w next Q := fun f caps capsA hev hcl hcr h => by
    obtain ⟨l1, l2⟩ := args_rep (vs := args) hS hcl hcr
    obtain ⟨hent, hcalls⟩ := call_sound (P := P) hc hS l1 l2 hd (K := K) (KP := KP) h (next := next) (Q := Q) hfr hF hn hp
    unfold Oper.wp
    have hex : (execOp a.eval o).run P w = .ok (.enter f (args.map a.eval ++ caps)) w := by
      rw [zK0 hop]
      simp only [execOp, resolve, hev, Deferred.ofValue, pure_bind, invoke]
      rw [Array.empty_append]
      exact run_callFunc hent _ w
    rw [hex, Oper.upon_enter]
    refine hcalls.mono fun e w' he => ?_
    cases e <;> exact he
  split at h
  · rename_i f caps hev
    rw [hev] at r1
    have r1 := r1.ofD
    generalize hv : a.eval fv = v at r1
    cases r1 with
    | fn _ _ vals hl hh =>
      refine go f vals (caps.map .d) hv (by simpa using hl) (fun i hi => ?_) h
      have hi' : i < caps.length := by simpa using hi
      rw [zG7 _ _ hi']; exact .d _ _ (hh i hi')
  · rename_i f caps hev
    rw [hev] at r1
    generalize hv : a.eval fv = v at r1
    cases r1 with
    | fn _ _ vals hl hh => exact go f vals caps hv hl hh h
  · exact h.elim

theorem op_typeAssert (hc : CtxOk gs c) (hS : Sim c A ρ σ a w) {o : Oper} (hd : ∀ d, o.dst = some d → d < c.n) (x : Operand) (xt t : TypeId) (ok : Bool) (hop : o.op = .typeAssert x xt t ok) : OpGoal P gs c A ρ σ a w o := by
  intro tx K KP next Q h hfr hF hn hp
  simp only [hop, opB] at h
  have hex : execOp a.eval o = (do pure (.value (← Instr.typeAssert (a.eval x) xt t ok))) := by rw [zK0 hop]; simp only [execOp]
  have r1 := zF7 hS x
  split at h
  · exact h.elim
  · rename_i ud u d hni hu hx
    rw [hx] at r1
    have r1 := r1.ofD
    obtain ⟨ti, ht, hq⟩ := zH6 h
    obtain ⟨ii, u2, z, hii, hu2, hz, hzd, hsz, _, _, hzl⟩ := zG5 ht
    generalize a.eval x = xv at r1 hex
    cases r1 with
    | iface _ _ y hy =>
      have two : ∀ (d1 d2 : DV) (v1 v2 : Value), DRep w A d1 v1 → DRep w A d2 v2 → DRep w A (.tup [d1, d2]) (.tuple #[v1, v2]) := fun d1 d2 v1 v2 q1 q2 =>
        .tup _ _ rfl (fun i hi => by
          have : i = 0 ∨ i = 1 := by simp at hi; omega
          rcases this with rfl | rfl
          · exact q1
          · exact q2)
      split at hq
      · rename_i hut
        subst hut
        refine zH4 hS hd hex (v := .d (if ok then .tup [d, .bool true] else d)) ⟨if ok then .tuple #[y, .bool true] else y, ?_, ?_⟩ hq hn
        · cases ud <;> first | exact absurd rfl (hni _) | (cases ok <;> simp [Instr.typeAssert, run_underlying hu])
        · cases ok
          · exact .d _ _ hy
          · exact .d _ _ (two _ _ _ _ hy (.bool true))
      · rename_i hut
        split at hq
        · rename_i hok
          subst hok
          refine zH4 hS hd hex ⟨.tuple #[z, .bool false], ?_, .d _ _ (two _ _ _ _ (zeroD_rep hzd w A) (.bool false))⟩ hq hn
          cases ud <;> first | exact absurd rfl (hni _) | simp [Instr.typeAssert, run_underlying hu, hut, zeroValue, zK1 hii, hz]
        · exact hq.elim
  · exact h.elim
end
end Go.Proofs.Am

set_option linter.unusedVariables false
set_option linter.unusedSimpArgs false
namespace Go.Proofs.Am
open Go Go.RowKit

section
variable {P : Program} {gs : List Nat} {c : Ctx} {A : Nat → Prop} {ρ : Nat → Option BR} {σ : St} {a : Act} {w : World}

theorem run_part_agg {t : TypeId} {i : TypeInfo} {u : TypeDesc} (hi : P.info? t = some i) (hu : P.underlying t = some u) (hd : descAgg u = true) (cs : Array Value) (off : Nat) :
    (part t cs off).run P w = .ok (.agg (cs.extract off (off + i.size))) w := by
  simp [part, run_isAgg' hu, hd, zG8 hi]

theorem run_part_one {t : TypeId} {i : TypeInfo} {u : TypeDesc} (hu : P.underlying t = some u) (hd : descAgg u = false) (cs : Array Value) (off : Nat) {v : Value} (h : cs[off]? = some v) :
    (part t cs off).run P w = .ok v w := by
  simp [part, run_isAgg' hu, hd, h]

theorem part_sound {t : TypeId} {ti : TI} (hti : tinfo P t = some ti) {x v : AV} {off : Nat} {cs : Array Value} (hag : aIsAgg x = true) (hx : ARep w A ρ x (.agg cs)) (h : aload ti x off = some v) :
    ∃ y, (part t cs off).run P w = .ok y w ∧ ARep w A ρ v y := by
  obtain ⟨i, u, z, hi, hu, _, _, hsz, hg, _, _⟩ := zG5 hti
  have hone : cs.size = x.cells.length ∧ ∀ m, m < x.cells.length → (cs.getD m undef).oneCell' = true ∧ ARep w A ρ (x.cells.getD m .undef) (cs.getD m undef) := by
    cases hx with
    | agg xs _ hl ho hh => exact ⟨hl, fun m hm => ⟨ho m hm, hh m hm⟩⟩
    | d xd _ hd =>
      cases hd with
      | agg xs _ hl ho hh =>
        simp only [AV.cells, List.length_map]
        exact ⟨hl, fun m hm => ⟨ho m hm, by rw [zG7 _ _ hm]; exact .d _ _ (hh m hm)⟩⟩
    | un => simp [aIsAgg] at hag
  obtain ⟨hl, hh⟩ := hone
  unfold aload at h
  rw [hg] at h
  cases hd : descAgg u with
  | true =>
    simp only [hd, if_true] at h
    have run := run_part_agg (P := P) (w := w) hi hu hd cs off
    split at h
    · rename_i hc2
      obtain ⟨h0, hlen, _⟩ := hc2
      cases h
      subst h0
      refine ⟨_, run, ?_⟩
      have e : cs.extract 0 (0 + i.size) = cs := by rw [Nat.zero_add, ← hsz, ← hlen, ← hl]; exact Array.extract_size
      rw [e]; exact hx
    · split at h
      · rename_i hfit
        cases h
        refine ⟨_, run, .agg _ _ (by simp; omega) (fun m hm => ?_) (fun m hm => ?_)⟩
        · have hm : m < ti.sz := by simp at hm; omega
          have e : (cs.extract off (off + i.size)).getD m undef = cs.getD (off + m) undef := by
            have : off + m < cs.size := by omega
            have h2 : m < min (off + i.size) cs.size - off := by omega
            simp [Array.getD, this, h2]
          rw [e]; exact (hh _ (by omega)).1
        · have hm : m < ti.sz := by simp at hm; omega
          have e : (cs.extract off (off + i.size)).getD m undef = cs.getD (off + m) undef := by
            have : off + m < cs.size := by omega
            have h2 : m < min (off + i.size) cs.size - off := by omega
            simp [Array.getD, this, h2]
          have e1 : ((x.cells.drop off).take ti.sz).getD m .undef = x.cells.getD (off + m) .undef := by
            simp [List.getD, List.getElem?_drop, hm]
          rw [e, e1]; exact (hh _ (by omega)).2
      · cases h
  | false =>
    simp only [hd, Bool.false_eq_true, if_false] at h
    have hlt : off < x.cells.length := (List.getElem?_eq_some_iff.1 h).1
    have e1 : x.cells.getD off .undef = v := by simp [List.getD, h]
    have h2 : off < cs.size := by omega
    refine ⟨cs.getD off undef, run_part_one (i := i) hu hd cs off (by simp [Array.getD, h2]), ?_⟩
    have := (hh off hlt).2
    rw [e1] at this; exact this

theorem op_field (hc : CtxOk gs c) (hS : Sim c A ρ σ a w) {o : Oper} (hd : ∀ d, o.dst = some d → d < c.n) (s : TypeId) (x : Operand) (f : Nat) (hop : o.op = .field s x f) : OpGoal P gs c A ρ σ a w o := by
  intro tx K KP next Q h hfr hF hn hp
  simp only [hop, opB] at h
  have hex : execOp a.eval o = (do pure (.value (← Instr.field s (a.eval x) f))) := by rw [zK0 hop]; simp only [execOp]
  obtain ⟨v, hv, h⟩ := zH6 h
  have r1 := zF7 hS x
  unfold fieldA at hv
  cases hf : fieldO P s f with
  | none => simp [hf] at hv
  | some p =>
    obtain ⟨off, ft⟩ := p
    obtain ⟨fs, fd, hu, hfs, rfl, rfl⟩ := fieldO_parts hf
    cases ht : tinfo P fd.type with
    | none => simp [hf, ht] at hv
    | some ti =>
      simp only [hf, ht, Option.bind_some] at hv
      split at hv
      · rename_i hag
        have hcs : ∃ cs, a.eval x = .agg cs := by
          generalize a.eval x = xv at r1
          generalize σ.eval x = xa at r1 hag
          cases r1 with
          | agg _ cs => exact ⟨cs, rfl⟩
          | d _ _ hd => cases hd <;> first | exact ⟨_, rfl⟩ | simp_all [aIsAgg]
          | _ => simp_all [aIsAgg]
        obtain ⟨cs, hcs⟩ := hcs
        rw [hcs] at r1 hex
        obtain ⟨y, hy, hyr⟩ := part_sound (P := P) ht hag r1 hv
        exact zH4 hS hd hex ⟨y, by simp [Instr.field, run_underlying hu, hfs, asAgg, hy], hyr⟩ h hn
      · cases hv

theorem op_panic (hc : CtxOk gs c) (hS : Sim c A ρ σ a w) {o : Oper} (hd : ∀ d, o.dst = some d → d < c.n) (x : Operand) (hop : o.op = .panic x) : OpGoal P gs c A ρ σ a w o := by
  intro tx K KP next Q h hfr hF hn hp
  simp only [hop, opB] at h
  have hr := zF7 hS x
  split at h
  · rename_i t v he
    rw [he] at hr
    have hr := hr.ofD
    have hex : execOp a.eval o = (do pure (.value (← Instr.panic (a.eval x)))) := by rw [zK0 hop]; rfl
    unfold Oper.wp
    rw [hex]
    generalize a.eval x = y at hr
    cases hr with
    | iface _ _ y hy =>
      simp only [Instr.panic, Sem.run_bind, run_goPanic, Result.andThen_halt, Oper.upon_panic]
      exact hp _ _ _ A ρ w h (Names.refl _ _) { hS with } (.iface t v y hy)
  · rename_i t cs he
    split at h
    · rename_i ds hds
      rw [he] at hr
      have hex : execOp a.eval o = (do pure (.value (← Instr.panic (a.eval x)))) := by rw [zK0 hop]; rfl
      unfold Oper.wp
      rw [hex]
      generalize a.eval x = y at hr
      cases hr with
      | iface _ _ y hy =>
        simp only [Instr.panic, Sem.run_bind, run_goPanic, Result.andThen_halt, Oper.upon_panic]
        have e := allD_rep hds
        subst e
        cases hy with
        | agg _ vs hl hone hh =>
          refine hp _ _ _ A ρ w h (Names.refl _ _) { hS with } (.iface t _ _ (.agg ds vs (by simpa using hl) (fun i hi => hone i (by simpa using hi)) (fun i hi => ?_)))
          have := hh i (by simpa using hi)
          rw [zG7 _ _ hi] at this
          exact this.ofD
    · exact h.elim
  · exact h.elim
end
end Go.Proofs.Am

set_option linter.unusedVariables false
set_option linter.unusedSimpArgs false
namespace Go.Proofs.Am
open Go Go.RowKit

section
variable {P : Program} {gs : List Nat} {c : Ctx} {A : Nat → Prop} {ρ : Nat → Option BR} {σ : St} {a : Act} {w : World}

theorem bytes_sound (hS : Sim c A ρ σ a w) (hf : ρ σ.nid = none) {src dst e : TypeId} {s : ByteArray} (hs : P.underlying src = some .string) (hd : P.underlying dst = some (.slice e)) (he : P.underlying e = some (.int .u8)) (hb : s.size ≤ big) :
    Yields P c A ρ σ a (convert src dst (.string s)) w ⟨.slc σ.nid 1 0 s.size, [(σ.nid, some ⟨bytesA s, 1, e, true, false⟩)], σ.nid + 1⟩ := by
  have hrun := run_bytes_of_string (P := P) w src dst e s hs hd he
  have hge := grownCap_ge w s.size 0 e
  have hle := grownCap_le_maxLen w s.size 0 e (by simp only [big] at hb; simp only [maxLen]; omega)
  generalize grownCap w s.size 0 e = cap at hrun hge hle
  have hsz : (bytesRow s cap).size = cap := by
    have : s.data.size = s.size := rfl
    simp only [bytesRow, Array.size_append, Array.size_map, Array.size_replicate]; omega
  let r : BR := ⟨w.heap.size, cap, 1⟩
  have hr : ∀ b r', ρ b = some r' → upd ρ σ.nid (some r) b = some r' := fun b r' h => by
    rw [zI1 _ _ _ _ (fun e => by rw [e] at h; simp_all)]; exact h
  refine ⟨_, _, A, upd ρ σ.nid (some r), hrun, ?_, ?_, Names.one _ _ _⟩
  · refine hS.newBlock hf (w' := w.drew.alloc (.cells (bytesRow s cap) e ((bytesRow s cap).size, (bytesRow s cap).size + 1))) rfl rfl rfl (by simp) (fun g hg => heap_alloc_old w.drew _ g hg) _ r (Nat.le_refl _) ?_ rfl
    refine ⟨⟨bytesRow s cap, _, heap_alloc_new w.drew _, by simp [r, hsz], (fun h => by cases h), .inr (Nat.le_refl _), fun j m hj hm => ?_⟩, rfl, ?_, hle, fun j hj => ?_⟩
    · have hm0 : m = 0 := by simpa using hm
      subst hm0
      have hj : j < s.data.size := by simpa [bytesA] using hj
      have hx : s.data[j]? = some s.data[j] := Array.getElem?_eq_getElem hj
      refine ⟨.int .u8 (s.data[j]).toNat, ?_, rfl, ?_⟩
      · simp only [bytesRow, Nat.mul_one, Nat.add_zero]
        rw [Array.getElem?_append_left (by simpa using hj)]
        simp [hx]
      · have e1 : (bytesA s).getD j .undef = .d (.int .u8 (s.data[j]).toNat) := by simp [bytesA, List.getD, hx]
        simp only
        rw [e1]
        exact .d _ _ (.int _ _)
    · simpa [bytesA, r] using hge
    · have hj : j < s.data.size := by simpa [bytesA] using hj
      have hx : s.data[j]? = some s.data[j] := Array.getElem?_eq_getElem hj
      have e1 : (bytesA s).getD j .undef = .d (.int .u8 (s.data[j]).toNat) := by simp [bytesA, List.getD, hx]
      simp only
      rw [e1]; rfl
  · have := ARep.slc (w := w.drew.alloc (.cells (bytesRow s cap) e ((bytesRow s cap).size, (bytesRow s cap).size + 1))) (A := A) (ρ := upd ρ σ.nid (some r)) σ.nid 1 0 s.size r (by simp) rfl (by simpa [r] using hge)
    simpa [r] using this

theorem unbytes_get : ∀ {l : List AV} {bs : List UInt8}, unbytes l = some bs → bs.length = l.length ∧ ∀ j (h : j < bs.length), ∃ n, l.getD j .undef = .d (.int .u8 n) ∧ bs[j] = UInt8.ofNat n.toNat
  | [], bs, h => by simp only [unbytes, Option.some.injEq] at h; subst h; exact ⟨rfl, fun j h => by simp at h⟩
  | .d (.int .u8 n) :: r, bs, h => by
    simp only [unbytes, Option.map_eq_some_iff] at h
    obtain ⟨bs', h1, rfl⟩ := h
    obtain ⟨q1, q2⟩ := unbytes_get h1
    refine ⟨by simp [q1], fun j hj => ?_⟩
    cases j with
    | zero => exact ⟨n, rfl, rfl⟩
    | succ j => simpa using q2 j (by simpa using hj)
  | .d (.int .i64 n) :: r, bs, h => by simp [unbytes] at h
  | x :: r, bs, h => by
    unfold unbytes at h
    split at h
    · rename_i he; cases he
    · rename_i n r' he
      simp only [List.cons.injEq] at he
      obtain ⟨rfl, rfl⟩ := he
      simp only [Option.map_eq_some_iff] at h
      obtain ⟨bs', h1, rfl⟩ := h
      obtain ⟨q1, q2⟩ := unbytes_get h1
      refine ⟨by simp [q1], fun j hj => ?_⟩
      cases j with
      | zero => exact ⟨n, rfl, rfl⟩
      | succ j => simpa using q2 j (by simpa using hj)
    · cases h

theorem str_sound {src dst e : TypeId} (hs : P.underlying src = some (.slice e)) (he : P.underlying e = some (.int .u8)) (hd : P.underlying dst = some .string) {els : List AV} {ad : Addr} {news : List Value} (hsrc : Source w A ρ 1 els ad news) (cc : Nat)
    {bs : List UInt8} (h : unbytes els = some bs) (hb : bs.length ≤ big) :
    ∃ x, (convert src dst (.slice (some ad) els.length cc)).run P w = .ok x w ∧ ARep w A ρ (.d (.str ⟨bs.toArray⟩)) x := by
  obtain ⟨q1, q2⟩ := unbytes_get h
  refine ⟨.string ⟨bs.toArray⟩, ?_, .d _ _ (.str _ (by show bs.toArray.size ≤ big; simpa using hb))⟩
  have hnl : news.length = els.length := by rw [hsrc.len]; omega
  have hcell : ∀ j, j < els.length → ∃ n, w.cell? (ad.add j) = some (.int .u8 n) ∧ els.getD j .undef = .d (.int .u8 n) := fun j hj => by
    obtain ⟨v, h1, h2⟩ := hsrc.rep j 0 hj (by omega)
    obtain ⟨n, h3, _⟩ := q2 j (by omega)
    simp only [Nat.mul_one, Nat.add_zero] at h1
    rw [h3] at h2
    simp only [AV.cells, List.getD_cons_zero] at h2
    have h2 := h2.ofD
    cases h2
    exact ⟨n, hsrc.mem j _ h1, h3⟩
  rw [run_convert_bytes_string w src dst e (some ad) els.length cc hs he hd]
  have hns : ∃ ns : List Int, ns.length = els.length ∧ ∀ j, j < els.length → els.getD j .undef = .d (.int .u8 (ns.getD j 0)) := by
    refine ⟨(List.range els.length).map fun j => match els.getD j .undef with | .d (.int _ n) => n | _ => 0, by simp, fun j hj => ?_⟩
    obtain ⟨n, _, h3⟩ := hcell j hj
    have : ((List.range els.length).map fun j => match els.getD j .undef with | .d (.int _ n) => n | _ => 0).getD j 0 = n := by
      simp only [List.getD_eq_getElem?_getD, List.getElem?_map, List.getElem?_range hj, Option.map_some, Option.getD_some]
      simp only [List.getD_eq_getElem?_getD] at h3
      rw [h3]
    rw [this]; exact h3
  obtain ⟨ns, n1, n2⟩ := hns
  have hl := run_loadCells_list (P := P) w ad (ns.map (Value.int .u8)) (fun j v hj => by
    have hj' : j < els.length := by
      have := (List.getElem?_eq_some_iff.1 hj).1
      simp at this; omega
    obtain ⟨n, h1, h3⟩ := hcell j hj'
    rw [n2 j hj'] at h3
    have e : ns.getD j 0 = n := by simpa using h3
    have hj2 : j < ns.length := by omega
    simp [List.getElem?_eq_getElem hj2] at hj
    rw [h1, ← e, ← hj]; simp [List.getD, List.getElem?_eq_getElem hj2])
  rw [List.length_map, n1] at hl
  rw [run_bytesToString w ad els.length cc ns hl]
  have key : ∀ (l : List Int) (r : ByteArray), l.foldl (fun r n => r.push (UInt8.ofNat n.toNat)) r = ⟨r.data ++ (l.map fun n => UInt8.ofNat n.toNat).toArray⟩ := by
    intro l
    induction l with
    | nil => intro r; simp
    | cons n l ih => intro r; simp only [List.foldl_cons, ih]; simp [ByteArray.push]
  rw [key]
  have e2 : (ns.map fun n => UInt8.ofNat n.toNat) = bs := by
    apply List.ext_getElem (by simp; omega)
    intro j h1 h2
    obtain ⟨n, h3, h4⟩ := q2 j h2
    have hj : j < els.length := by omega
    have hj2 : j < ns.length := by omega
    have h5 := n2 j hj
    rw [h3] at h5
    have e : n = ns.getD j 0 := by simpa using h5
    rw [h4, e]; simp [List.getD, List.getElem?_eq_getElem hj2]
  have he0 : ByteArray.empty.data = #[] := rfl
  rw [e2, he0]; simp

theorem op_convert (hc : CtxOk gs c) (hS : Sim c A ρ σ a w) {o : Oper} (hd : ∀ d, o.dst = some d → d < c.n) (src dst : TypeId) (x : Operand) (hop : o.op = .convert src dst x) : OpGoal P gs c A ρ σ a w o := by
  intro tx K KP next Q h hfr hF hn hp
  simp only [hop, opB] at h
  have hex : execOp a.eval o = (do pure (.value (← convert src dst (a.eval x)))) := by rw [zK0 hop]; rfl
  unfold convB at h
  split at h
  · rename_i e hsu hdu
    split at h
    · rename_i s heu hev
      have hr := zF7 hS x
      rw [hev] at hr
      have hr := hr.ofD
      generalize a.eval x = xv at hr hex
      cases hr with
      | str _ hs => exact wp_yields hd hex (bytes_sound hS (hfr _ h 0 (by simp [OpR.res])) hsu hdu heu hs) (fun x A' ρ' w' q hh => hn _ x A' ρ' w' h q hh)
    · exact h.elim
  · rename_i e hsu hdu
    split at h
    · rename_i heu
      have hr := zF7 hS x
      unfold toStrB at h
      split at h
      · rename_i hev
        rw [hev] at hr
        have hr := hr.ofD
        generalize a.eval x = xv at hr hex
        cases hr
        refine zH4 hS hd hex ⟨.string ⟨#[]⟩, ?_, .d _ _ (.str _ (by decide))⟩ h hn
        rw [run_convert_bytes_string w src dst e none 0 0 hsu heu hdu]
        rfl
      · rename_i els hev
        unfold strB at h
        split at h
        · rename_i bs hbs
          split at h
          · rename_i hbig
            have hnews : wpB (calls P gs) tx (newsB ⟨1, false, 1, .inil⟩ (.d (.sim els)) fun xs => just σ.nid (.tup xs)) σ.lh (fun r => r.v = .tup (els.map .d)) (fun _ _ => False) := by
              have hall : els.all (fun x => x.cells.length = 1) = true := by
                rw [List.all_eq_true]
                intro d hdm
                obtain ⟨j, hj, rfl⟩ := List.mem_iff_getElem.1 hdm
                obtain ⟨q1, q2⟩ := unbytes_get hbs
                simp at q1
                obtain ⟨n, h3, _⟩ := q2 j (by omega)
                rw [zG7 _ _ hj] at h3
                have e : els.getD j .inil = els[j] := by simp [List.getD, List.getElem?_eq_getElem hj]
                rw [e] at h3
                have : els[j] = .int .u8 n := by simpa using h3
                rw [this]; rfl
              simp only [newsB, hall, if_true]
              rfl
            rw [hev] at hr
            obtain ⟨els', ad, cc, news, e1, hsrc, h'⟩ := newsB_sound (ti := ⟨1, false, 1, .inil⟩) hS hr (by decide) hnews
            have he' : els' = els.map .d := by
              have h2 : AV.tup els' = .tup (els.map .d) := h'
              simpa using h2
            subst he'
            obtain ⟨y, y1, y2⟩ := str_sound (P := P) hsu heu hdu hsrc cc hbs hbig
            rw [← e1] at y1
            exact zH4 hS hd hex ⟨y, y1, y2⟩ h hn
          · exact h.elim
        · exact h.elim
      · rename_i b es off n hev
        simp only [wpB] at h
        cases hq : σ.lh b with
        | none => simp [hq] at h
        | some q =>
          simp only [hq] at h
          split at h
          · rename_i hcc
            unfold strB at h
            split at h
            · rename_i bs hbs
              split at h
              · rename_i hbig
                have hnews : wpB (calls P gs) tx (newsB ⟨1, false, 1, .inil⟩ (.slc b es off n) fun xs => just σ.nid (.tup xs)) σ.lh (fun r => r.v = .tup ((q.els.drop off).take n)) (fun _ _ => False) := by
                  simp only [newsB, wpB, hq]
                  rw [if_pos hcc]
                  rfl
                rw [hev] at hr
                obtain ⟨els', ad, cc, news, e1, hsrc, h'⟩ := newsB_sound (ti := ⟨1, false, 1, .inil⟩) hS hr (by decide) hnews
                have he' : els' = (q.els.drop off).take n := by
                  have h2 : AV.tup els' = .tup ((q.els.drop off).take n) := h'
                  simpa using h2
                subst he'
                obtain ⟨y, y1, y2⟩ := str_sound (P := P) hsu heu hdu hsrc cc hbs hbig
                rw [← e1] at y1
                exact zH4 hS hd hex ⟨y, y1, y2⟩ h hn
              · exact h.elim
            · exact h.elim
          · exact h.elim
      · exact h.elim
    · exact h.elim
  · obtain ⟨v, hv, h⟩ := zH6 h
    exact zH4 hS hd hex (convA_sound (P := P) (zF7 hS x) hv) h hn

theorem nil_eq {op : BinOp} {t : TypeId} {xv cv : Value} {v : DV} {ox : Operand} {r : Bool} (hE : (Op.equal t xv cv).run P w = .ok r w) (hg : (eqGuard op t ox (.const cv) xv cv).run P w = .ok () w)
    (hb : ∀ op, op = .eql ∨ op = .neq → binOp op t xv cv = (do let b ← Op.equal t xv cv; pure (.bool (if op = .eql then b else !b)))) (h : eqOp op r = some v) :
    ∃ z, (do eqGuard op t ox (.const cv) xv cv; binOp op t xv cv : Sem Value).run P w = .ok z w ∧ DRep w A v z := by
  unfold eqOp at h
  split at h
  · cases h
    refine ⟨.bool r, ?_, .bool _⟩
    simp only [Sem.run_bind, hg, Result.andThen_ok, hb _ (.inl rfl), hE]; rfl
  · cases h
    refine ⟨.bool (!r), ?_, .bool _⟩
    simp only [Sem.run_bind, hg, Result.andThen_ok, hb _ (.inr rfl), hE]; rfl
  · cases h

theorem nilOp_sound {op : BinOp} {t : TypeId} {x : AV} {cv : Value} {v : DV} {xv : Value} {ox : Operand} (hx : ARep w A ρ x xv) (h : nilOp P op t x cv = some v) :
    ∃ z, (do eqGuard op t ox (.const cv) xv cv; binOp op t xv cv : Sem Value).run P w = .ok z w ∧ DRep w A v z := by
  unfold nilOp at h
  split at h <;> first | (cases h; done) | skip
  · rename_i _ _ _ ms hu
    have hx := hx.ofD; cases hx
    have e : ∀ d, (Op.equalIn (d + 1) t .nilIface .nilIface).run P w = .ok true w := fun d => by simp [Op.equalIn, run_underlying hu]
    exact nil_eq (e 9999) (by cases op <;> cases ox <;> rfl) (fun op hop => by rcases hop with rfl | rfl <;> rfl) h
  · rename_i _ _ _ ms tt vv hu
    have hx := hx.ofD; cases hx
    have e : ∀ d y, (Op.equalIn (d + 1) t (.iface tt y) .nilIface).run P w = .ok false w := fun d y => by simp [Op.equalIn, run_underlying hu]
    exact nil_eq (e 9999 _) (by cases op <;> cases ox <;> rfl) (fun op hop => by rcases hop with rfl | rfl <;> rfl) h
  · rename_i _ _ _ ms tt vv hu
    cases hx
    have e : ∀ d y, (Op.equalIn (d + 1) t (.iface tt y) .nilIface).run P w = .ok false w := fun d y => by simp [Op.equalIn, run_underlying hu]
    exact nil_eq (e 9999 _) (by cases op <;> cases ox <;> rfl) (fun op hop => by rcases hop with rfl | rfl <;> rfl) h
  · rename_i _ _ _ e hu
    have hx := hx.ofD; cases hx
    have e : ∀ d, (Op.equalIn (d + 1) t (.pointer none) (.pointer none)).run P w = .ok true w := fun d => by simp [Op.equalIn, run_underlying hu]
    exact nil_eq (e 9999) (by cases op <;> cases ox <;> rfl) (fun op hop => by rcases hop with rfl | rfl <;> rfl) h
  · rename_i _ _ _ e b es i fo hu
    cases hx
    have e : ∀ d y, (Op.equalIn (d + 1) t (.pointer (some y)) (.pointer none)).run P w = .ok false w := fun d y => by simp [Op.equalIn, run_underlying hu]
    exact nil_eq (e 9999 _) (by cases op <;> cases ox <;> rfl) (fun op hop => by rcases hop with rfl | rfl <;> rfl) h
  · rename_i _ _ _ e els i fo hu
    have hx := hx.ofD; cases hx
    have e : ∀ d y, (Op.equalIn (d + 1) t (.pointer (some y)) (.pointer none)).run P w = .ok false w := fun d y => by simp [Op.equalIn, run_underlying hu]
    exact nil_eq (e 9999 _) (by cases op <;> cases ox <;> rfl) (fun op hop => by rcases hop with rfl | rfl <;> rfl) h
  · rename_i _ _ _ p1 p2 p3 hu
    have hx := hx.ofD; cases hx
    have e : ∀ d, (Op.equalIn (d + 1) t .nilFunc .nilFunc).run P w = .ok true w := fun d => by simp [Op.equalIn, run_underlying hu]
    exact nil_eq (e 9999) (by cases op <;> cases ox <;> rfl) (fun op hop => by rcases hop with rfl | rfl <;> rfl) h
  · rename_i _ _ _ p1 p2 p3 f cs hu
    have hx := hx.ofD; cases hx
    have e : ∀ d y, (Op.equalIn (d + 1) t (.func (.func f) #[] y) .nilFunc).run P w = .ok false w := fun d y => by simp [Op.equalIn, run_underlying hu]
    exact nil_eq (e 9999 _) (by cases op <;> cases ox <;> rfl) (fun op hop => by rcases hop with rfl | rfl <;> rfl) h
  · rename_i _ _ _ p1 p2 p3 f cs hu
    cases hx
    have e : ∀ d y, (Op.equalIn (d + 1) t (.func (.func f) #[] y) .nilFunc).run P w = .ok false w := fun d y => by simp [Op.equalIn, run_underlying hu]
    exact nil_eq (e 9999 _) (by cases op <;> cases ox <;> rfl) (fun op hop => by rcases hop with rfl | rfl <;> rfl) h

theorem agg_cells {x : AV} {xv : Value} (hx : ARep w A ρ x xv) (h : aIsAgg x = true) : ∃ cs, xv = .agg cs ∧ cs.size = x.cells.length ∧ ∀ i, i < x.cells.length → ARep w A ρ (x.cells.getD i .undef) (cs.getD i undef) := by
  cases hx with
  | agg cs vs hl hone hh => exact ⟨vs, rfl, hl, hh⟩
  | d v y hd =>
    cases hd with
    | agg cs vs hl hone hh =>
      refine ⟨vs, rfl, by simpa [AV.cells] using hl, fun i hi => ?_⟩
      have hi : i < cs.length := by simpa [AV.cells] using hi
      simp only [AV.cells]
      rw [zG7 _ _ hi]; exact .d _ _ (hh i hi)
    | _ => simp [aIsAgg] at h
  | _ => simp [aIsAgg] at h

theorem eqParts_sound {xs ys : List AV} {X Y : Array Value} (hX : X.size = xs.length) (hY : Y.size = ys.length) (hx : ∀ i, i < xs.length → ARep w A ρ (xs.getD i .undef) (X.getD i undef)) (hy : ∀ i, i < ys.length → ARep w A ρ (ys.getD i .undef) (Y.getD i undef)) (d : Nat) :
    ∀ (fs : List Field) (r : Bool), eqParts P fs xs ys = some r → (Op.eqFields (d + 1) X Y fs).run P w = .ok r w
  | [], r, h => by simp only [eqParts, Option.some.injEq] at h; subst h; rfl
  | f :: fs, r, h => by
    simp only [eqParts] at h
    split at h
    · cases h
    · rename_i hname
      have get : ∀ {zs : List AV} {Z : Array Value} {v : AV}, Z.size = zs.length → (∀ i, i < zs.length → ARep w A ρ (zs.getD i .undef) (Z.getD i undef)) → zs[f.offset]? = some v → ∃ z, Z[f.offset]? = some z ∧ ARep w A ρ v z := fun {zs Z v} h1 h2 h3 => by
        obtain ⟨hi, e⟩ := List.getElem?_eq_some_iff.1 h3
        have := h2 _ hi
        have e2 : zs.getD f.offset .undef = v := by simp [List.getD, h3]
        rw [e2] at this
        have hlt : f.offset < Z.size := by omega
        exact ⟨Z.getD f.offset undef, by simp [Array.getD, hlt], this⟩
      have pr : ∀ {u : TypeDesc} {Z : Array Value} {z : Value}, P.underlying f.type = some u → descAgg u = false → Z[f.offset]? = some z → (part f.type Z f.offset).run P w = .ok z w := fun {u Z z} h1 h2 h3 => by
        simp [part, run_isAgg' h1, h2, h3]
      split at h <;> first | (cases h; done) | skip
      · rename_i _ _ _ q k a k' b hu h1 h2
        obtain ⟨z1, g1, r1⟩ := get hX hx h1
        obtain ⟨z2, g2, r2⟩ := get hY hy h2
        have r1 := r1.ofD; cases r1
        have r2 := r2.ofD; cases r2
        split at h
        · rename_i hk
          subst hk
          have e1 := pr hu rfl g1
          have e2 := pr hu rfl g2
          have e3 := run_equalIn_int (P := P) w d f.type k q a b hu
          simp only [Op.eqFields, Sem.run_ite, if_pos hname, Sem.run_bind, e1, e2, e3, Result.andThen_ok]
          split at h
          · rename_i hab
            simp only [hab, Bool.not_true, Bool.false_eq_true, if_false]
            exact eqParts_sound hX hY hx hy d fs r h
          · rename_i hab
            cases h
            have hab' : (a == b) = false := by simpa using hab
            simp only [hab', Bool.not_false, if_true]; rfl
        · cases h
      · rename_i _ _ _ a b hu h1 h2
        rw [← ByteArray.toList_eq, ← ByteArray.toList_eq] at h
        obtain ⟨z1, g1, r1⟩ := get hX hx h1
        obtain ⟨z2, g2, r2⟩ := get hY hy h2
        have r1 := r1.ofD; cases r1
        have r2 := r2.ofD; cases r2
        have e1 := pr hu rfl g1
        have e2 := pr hu rfl g2
        have e3 := run_equalIn_string (P := P) w d f.type a b hu
        simp only [Op.eqFields, Sem.run_ite, if_pos hname, Sem.run_bind, e1, e2, e3, Result.andThen_ok]
        split at h
        · rename_i hab
          simp only [hab, Bool.not_true, Bool.false_eq_true, if_false]
          exact eqParts_sound hX hY hx hy d fs r h
        · rename_i hab
          cases h
          have hab' : (a.toList == b.toList) = false := by simpa using hab
          simp only [hab', Bool.not_false, if_true]; rfl
      · rename_i _ _ _ a b hu h1 h2
        obtain ⟨z1, g1, r1⟩ := get hX hx h1
        obtain ⟨z2, g2, r2⟩ := get hY hy h2
        have r1 := r1.ofD; cases r1
        have r2 := r2.ofD; cases r2
        have e1 := pr hu rfl g1
        have e2 := pr hu rfl g2
        have e3 := run_equalIn_bool (P := P) w d f.type a b hu
        simp only [Op.eqFields, Sem.run_ite, if_pos hname, Sem.run_bind, e1, e2, e3, Result.andThen_ok]
        split at h
        · rename_i hab
          simp only [hab, Bool.not_true, Bool.false_eq_true, if_false]
          exact eqParts_sound hX hY hx hy d fs r h
        · rename_i hab
          cases h
          have hab' : (a == b) = false := by simpa using hab
          simp only [hab', Bool.not_false, if_true]; rfl

theorem structOp_sound {op : BinOp} {t : TypeId} {x y : AV} {v : DV} {xv yv : Value} {ox oy : Operand} (hx : ARep w A ρ x xv) (hy : ARep w A ρ y yv) (h : structOp P op t x y = some v) :
    ∃ z, (do eqGuard op t ox oy xv yv; binOp op t xv yv : Sem Value).run P w = .ok z w ∧ DRep w A v z := by
  unfold structOp at h
  split at h
  · rename_i fs hu
    split at h
    · rename_i hc
      obtain ⟨h1, h2, h3, h4⟩ := hc
      obtain ⟨X, rfl, x1, x2⟩ := agg_cells hx h1
      obtain ⟨Y, rfl, y1, y2⟩ := agg_cells hy h2
      obtain ⟨r, hr, h⟩ := Option.bind_eq_some_iff.1 h
      have hf : P.fieldsOf t = fs := by simp [Program.fieldsOf, hu]
      have e1 := eqParts_sound (P := P) x1 y1 x2 y2 9998 fs.toList r hr
      have e2 := run_equalIn_struct (P := P) w 9999 t X Y (by rw [hf]; exact hu) h4
      rw [hf] at e2
      unfold eqOp at h
      split at h
      · cases h
        exact ⟨.bool r, by simp only [Sem.run_bind, run_eqGuard_agg w _ t ox oy X Y h3, Result.andThen_ok, run_eql_struct, e2, e1], .bool _⟩
      · cases h
        exact ⟨.bool (!r), by simp only [Sem.run_bind, run_eqGuard_agg w _ t ox oy X Y h3, Result.andThen_ok, run_neq_struct, e2, e1], .bool _⟩
      · cases h
    · cases h
  · cases h

theorem op_binOp (hc : CtxOk gs c) (hS : Sim c A ρ σ a w) {o : Oper} (hd : ∀ d, o.dst = some d → d < c.n) (op : BinOp) (t : TypeId) (x y : Operand) (t' : TypeId) (hop : o.op = (.binOp op t x y t')) : OpGoal P gs c A ρ σ a w o := by
  intro tx K KP next Q h hfr hF hn hp
  simp only [hop, opB] at h
  have hex : execOp a.eval o = (do pure (.value (← (do eqGuard op t x y (a.eval x) (a.eval y); binOp op t (a.eval x) (a.eval y) : Sem Value)))) := by rw [zK0 hop]; rfl
  split at h
  · rename_i v hv
    obtain ⟨z, hz, hzd⟩ := binD_sound (P := P) (ox := x) (oy := y) (zF7 hS x) (zF7 hS y) hv
    exact zH4 hS hd hex ⟨z, hz, .d _ _ hzd⟩ h hn
  · split at h
    · rename_i cv
      obtain ⟨v, hv, h⟩ := zH6 h
      obtain ⟨z, hz, hzd⟩ := nilOp_sound (P := P) (ox := x) (zF7 hS x) hv
      exact zH4 hS hd hex ⟨z, hz, .d _ _ hzd⟩ h hn
    · obtain ⟨v, hv, h⟩ := zH6 h
      obtain ⟨z, hz, hzd⟩ := structOp_sound (P := P) (ox := x) (oy := y) (zF7 hS x) (zF7 hS y) hv
      exact zH4 hS hd hex ⟨z, hz, .d _ _ hzd⟩ h hn

theorem op_min (hc : CtxOk gs c) (hS : Sim c A ρ σ a w) {o : Oper} (hd : ∀ d, o.dst = some d → d < c.n) (args : Array Operand) (ts : Array TypeId) (hop : o.op = .call { callee := .builtin .min, args, argTypes := ts }) : OpGoal P gs c A ρ σ a w o := by
  intro tx K KP next Q h hfr hF hn hp
  simp only [hop, opB] at h
  split at h
  · rename_i hsz
    have e1 := two_args (.tmp 0) hsz
    split at h
    · rename_i k x k' y hx hy
      have r1 := zF7 hS (args.getD 0 (.tmp 0))
      have r2 := zF7 hS (args.getD 1 (.tmp 0))
      rw [hx] at r1; rw [hy] at r2
      have hex : execOp a.eval o = (do pure (.value (← Builtin.min_ ts o.type #[a.eval (args.getD 0 (.tmp 0)), a.eval (args.getD 1 (.tmp 0))]))) := by
        rw [zK0 hop]
        simp only [execOp, resolve, invoke, builtin, pure_bind]
        rw [e1]; simp
      have r1 := r1.ofD
      have r2 := r2.ofD
      generalize a.eval (args.getD 0 (.tmp 0)) = v1 at r1 hex
      generalize a.eval (args.getD 1 (.tmp 0)) = v2 at r2 hex
      cases r1; cases r2
      exact zH4 hS hd hex ⟨_, run_min_int2 w ts o.type k k' x y, .d _ _ (.int _ _)⟩ h hn
    · exact h.elim
  · exact h.elim

theorem op_max (hc : CtxOk gs c) (hS : Sim c A ρ σ a w) {o : Oper} (hd : ∀ d, o.dst = some d → d < c.n) (args : Array Operand) (ts : Array TypeId) (hop : o.op = .call { callee := .builtin .max, args, argTypes := ts }) : OpGoal P gs c A ρ σ a w o := by
  intro tx K KP next Q h hfr hF hn hp
  simp only [hop, opB] at h
  split at h
  · rename_i hsz
    have e1 := two_args (.tmp 0) hsz
    split at h
    · rename_i k x k' y hx hy
      have r1 := zF7 hS (args.getD 0 (.tmp 0))
      have r2 := zF7 hS (args.getD 1 (.tmp 0))
      rw [hx] at r1; rw [hy] at r2
      have hex : execOp a.eval o = (do pure (.value (← Builtin.max_ ts o.type #[a.eval (args.getD 0 (.tmp 0)), a.eval (args.getD 1 (.tmp 0))]))) := by
        rw [zK0 hop]
        simp only [execOp, resolve, invoke, builtin, pure_bind]
        rw [e1]; simp
      have r1 := r1.ofD
      have r2 := r2.ofD
      generalize a.eval (args.getD 0 (.tmp 0)) = v1 at r1 hex
      generalize a.eval (args.getD 1 (.tmp 0)) = v2 at r2 hex
      cases r1; cases r2
      exact zH4 hS hd hex ⟨_, run_max_int2 w ts o.type k k' x y, .d _ _ (.int _ _)⟩ h hn
    · exact h.elim
  · exact h.elim

theorem cap_run {t ty e : TypeId} (hu : P.underlying t = some (.slice e)) (ad : Option Addr) (n cc : Nat) : (Builtin.cap_ #[t] ty #[.slice ad n cc]).run P w = .ok (.int .i64 cc) w := by
  simp [Builtin.cap_, run_underlying hu, goInt]

theorem op_cap (hc : CtxOk gs c) (hS : Sim c A ρ σ a w) {o : Oper} (hd : ∀ d, o.dst = some d → d < c.n) (args : Array Operand) (ts : Array TypeId) (hop : o.op = .call { callee := .builtin .cap, args, argTypes := ts }) : OpGoal P gs c A ρ σ a w o := by
  intro tx K KP next Q h hfr hF hn hp
  simp only [hop, opB] at h
  split at h
  · rename_i hsz
    have e1 := one_arg (.tmp 0) hsz.1
    have e2 := one_arg (0 : TypeId) hsz.2
    have r1 := zF7 hS (args.getD 0 (.tmp 0))
    have hex : execOp a.eval o = (do pure (.value (← Builtin.cap_ #[ts.getD 0 0] o.type #[a.eval (args.getD 0 (.tmp 0))]))) := by
      rw [zK0 hop]
      simp only [execOp, resolve, invoke, builtin, pure_bind]
      rw [e1, e2]
      simp
    split at h
    · rename_i e hu hx
      rw [hx] at r1
      have r1 := r1.ofD
      generalize a.eval (args.getD 0 (.tmp 0)) = v1 at r1 hex
      cases r1
      exact zH4 hS hd hex ⟨_, cap_run hu _ _ _, .d _ _ (.int .i64 0)⟩ h hn
    · rename_i e hu hx
      rw [hx] at r1
      generalize a.eval (args.getD 0 (.tmp 0)) = v1 at r1 hex
      cases r1
      exact zH4 hS hd hex ⟨_, cap_run hu _ _ _, .d _ _ (.int .i64 0)⟩ h hn
    · exact h.elim
  · exact h.elim

theorem op_slice3 (hc : CtxOk gs c) (hS : Sim c A ρ σ a w) {o : Oper} (hd : ∀ d, o.dst = some d → d < c.n) (t : TypeId) (x : Operand) (lo hi : Option Operand) (mx : Operand) (hop : o.op = .slice t x lo hi (some mx)) : OpGoal P gs c A ρ σ a w o := by
  intro tx K KP next Q h hfr hF hn hp
  simp only [hop, opB] at h
  obtain ⟨v, hv, h⟩ := zH6 h
  have hex : execOp a.eval o = (do pure (.value (← Instr.sliceAt t (a.eval x) (lo.map a.eval) (hi.map a.eval) (some (a.eval mx))))) := by
    rw [zK0 hop]; simp only [execOp, Option.map_some]
  unfold slice3A at hv
  split at hv
  · rename_i e k1 k2 hu hlo hhi hmx
    have hlo' : lo = none := by cases lo with
      | none => rfl
      | some _ => simp at hlo
    subst hlo'
    cases hi with
    | none => simp at hhi
    | some hi =>
      simp only [Option.map_some, Option.some.injEq] at hhi hmx
      have r1 := zF7 hS hi
      have r2 := zF7 hS mx
      rw [hhi] at r1; rw [hmx] at r2
      have r1 := r1.ofD
      have r2 := r2.ofD
      simp only [Option.map_none, Option.map_some] at hex
      have rx := zF7 hS x
      generalize a.eval hi = v1 at r1 hex
      generalize a.eval mx = v2 at r2 hex
      cases r1; cases r2
      cases ht : tinfo P e with
      | none => simp [ht] at hv
      | some ti =>
        obtain ⟨ii, u, z, hii, hu', hz, hzd, hsz, _, _, hzl⟩ := zG5 ht
        simp only [ht, Option.bind_some] at hv
        have run : ∀ (ad : Option Addr) (n cc : Nat), (Instr.sliceAt t (.slice ad n cc) none (some (.int k1 0)) (some (.int k2 0))).run P w = .ok (.slice ad 0 0) w := fun ad n cc => by
          simp [Instr.sliceAt, Instr.slice, Instr.sliceBounds, Instr.sliceBound, asIntOf, run_underlying hu, zG8 hii]
        generalize a.eval x = xv at rx hex
        generalize σ.eval x = xa at rx hv
        split at hv
        · cases hv
          have rx := rx.ofD; cases rx
          exact zH4 hS hd hex ⟨_, run _ _ _, .d _ _ .snil⟩ h hn
        · cases hv
          have rx := rx.ofD; cases rx
          exact zH4 hS hd hex ⟨_, run _ _ _, .zc _⟩ h hn
        · cases hv
          cases rx
          exact zH4 hS hd hex ⟨_, run _ _ _, .zc _⟩ h hn
        · cases hv
          cases rx
          exact zH4 hS hd hex ⟨_, run _ _ _, .zc _⟩ h hn
        · cases hv
  · cases hv

theorem putL_in (els xs : List AV) (off j : Nat) (h : off ≤ els.length) (h1 : off ≤ j) (h2 : j < off + xs.length) : (putL els off xs).getD j .undef = xs.getD (j - off) .undef := splice_in els xs off j .undef h h1 h2
theorem putL_out (els xs : List AV) (off j : Nat) (h : off + xs.length ≤ els.length) (h1 : j < off ∨ off + xs.length ≤ j) : (putL els off xs).getD j .undef = els.getD j .undef := splice_out els xs off j .undef h h1
theorem putL_len (els xs : List AV) (off : Nat) (h : off + xs.length ≤ els.length) : (putL els off xs).length = els.length := by
  simp only [putL, List.length_append, List.length_take, List.length_drop]; omega

theorem copy_sound (hS : Sim c A ρ σ a w) {t t' ty e : TypeId} {ti : TI} (hu : P.underlying t = some (.slice e)) (hti : tinfo P e = some ti) (h0 : 0 < ti.sz) {b es off n : Nat} {sv : Value} (hs : ARep w A ρ (.slc b es off n) sv)
    {q : LB} (hq : σ.lh b = some q) (hlive : q.live = true) (he : es = ti.sz) (hfit : off + n ≤ q.els.length) {xels : List AV} {ad : Addr} {news : List Value} (hsrc : Source w A ρ ti.sz xels ad news) (cc : Nat) :
    ∃ w', (Builtin.copy_ #[t, t'] ty #[sv, .slice (some ad) xels.length cc]).run P w = .ok (.int .i64 (min xels.length n : Nat)) w' ∧
      Sim c A ρ { σ with lh := upd σ.lh b (some { q with els := putL q.els off (xels.take n) }) } a w' := by
  obtain ⟨ii, u, z, hii, hu2, hz, hzd, hsz, _, hbyt, hzl⟩ := zG5 hti
  cases hs with
  | slc _ _ _ _ r hr hre hle =>
    obtain ⟨⟨cur, fr, h1, h2, h3, h4, h5⟩, hes, hlen, hcap, hels⟩ := hS.blk b r q hr hq
    have hqe : q.es = ti.sz := by omega
    let m := min xels.length n
    have hml : m ≤ xels.length := Nat.min_le_left _ _
    have hmn : m ≤ n := Nat.min_le_right _ _
    have hnl : news.length = xels.length * ti.sz := hsrc.len
    have hle2 : m * ti.sz ≤ news.length := by rw [hnl]; exact Nat.mul_le_mul_right _ hml
    have hld := run_loadCells_list (P := P) w ad (news.take (m * ti.sz)) (fun j v hj => by
      have hj' : j < m * ti.sz := by
        have := (List.getElem?_eq_some_iff.1 hj).1
        simp at this; omega
      rw [List.getElem?_take, if_pos hj'] at hj
      exact hsrc.mem j v hj)
    have htl : (news.take (m * ti.sz)).length = m * ti.sz := by simp; omega
    rw [htl] at hld
    have hcs : cur.size = r.cap * ti.sz := by rw [h2, hes, hqe]
    have hroom : off * es + 0 + (news.take (m * ti.sz)).length ≤ cur.size := by
      rw [htl, hcs, he, Nat.add_zero, ← Nat.add_mul]
      exact Nat.mul_le_mul_right _ (by omega)
    obtain ⟨w', cur', q1, q2, q3, q4, q5, q6, q7, q8, q9⟩ := run_storeCells_row (P := P) r.g (off * es) q.ty fr (news.take (m * ti.sz)) 0 cur w h1 h4 hroom (fun v hv => hsrc.one v (List.mem_of_mem_take hv))
    refine ⟨w', ?_, ?_⟩
    · have hst : (storeCells ⟨r.g, off * es, none⟩ (news.take (m * ti.sz)).toArray.toList).run P w = .ok () w' := q1
      have hmin : Nat.min xels.length n = m := rfl
      simp only [Builtin.copy_, List.getElem?_toArray, List.getElem?_cons_zero, List.getElem?_cons_succ, Sem.run_bind, run_underlying hu, Result.andThen_ok, Builtin.lenOf, Sem.run_pure, zG8 hii, Builtin.firstCells, hmin, ← hsz, hld, hst]
      rfl
    · refine hS.change q7 q8 q9 q6 hr hq hlive q5 (fun kp => ?_) hlive
      have hxl : (xels.take n).length = m := by simp only [List.length_take, m]; omega
      have hput : (putL q.els off (xels.take n)).length = q.els.length := putL_len _ _ _ (by rw [hxl]; omega)
      have hcells : ∀ j, j < q.els.length → ((putL q.els off (xels.take n)).getD j .undef).cells.length = q.es := fun j hj => by
        by_cases hin : off ≤ j ∧ j < off + m
        · rw [putL_in _ _ _ _ (by omega) hin.1 (by rw [hxl]; exact hin.2), hqe]
          have e2 : (xels.take n).getD (j - off) .undef = xels.getD (j - off) .undef := by
            simp only [List.getD_eq_getElem?_getD]; rw [List.getElem?_take, if_pos (by omega)]
          rw [e2]; exact hsrc.els _ (by omega)
        · rw [putL_out _ _ _ _ (by rw [hxl]; omega) (by rw [hxl]; omega)]; exact hels j hj
      refine ⟨⟨cur', fr, q2, by rw [q3, h2], h3, by rw [q3]; exact h4, fun j k hj hk => ?_⟩, hes, by simpa only [hput] using hlen, hcap, fun j hj => hcells j (by simpa only [hput] using hj)⟩
      have hj : j < q.els.length := by simpa only [hput] using hj
      have hk : k < q.es := hk
      have q4' := q4 (j * q.es + k)
      simp only [Nat.add_zero, htl] at q4'
      by_cases hin : off ≤ j ∧ j < off + m
      · rw [putL_in _ _ _ _ (by omega) hin.1 (by rw [hxl]; exact hin.2)]
        have e2 : (xels.take n).getD (j - off) .undef = xels.getD (j - off) .undef := by
          simp only [List.getD_eq_getElem?_getD]; rw [List.getElem?_take, if_pos (by omega)]
        rw [e2]
        obtain ⟨v, p1, p2⟩ := hsrc.rep (j - off) k (by omega) (by omega)
        have hjj : j * q.es = off * es + (j - off) * ti.sz := by
          rw [hqe, he, ← Nat.add_mul]; congr 1; omega
        have hlt : (j - off) * ti.sz + k < m * ti.sz := mul_lt_of (by omega) (by omega)
        refine ⟨v, ?_, hsrc.one v (List.mem_of_getElem? p1), p2.mono kp (fun _ _ h => h)⟩
        rw [q4', if_pos (by omega), List.getElem?_take, if_pos (by omega), ← p1]
        congr 1; omega
      · rw [putL_out _ _ _ _ (by rw [hxl]; omega) (by rw [hxl]; omega)]
        obtain ⟨v, p1, p2, p3⟩ := h5 j k hj hk
        refine ⟨v, ?_, p2, p3.mono kp (fun _ _ h => h)⟩
        rw [q4', if_neg ?_]
        · exact p1
        · have : j < off ∨ off + m ≤ j := by omega
          rcases this with h | h
          · have : (j + 1) * q.es ≤ off * q.es := Nat.mul_le_mul_right _ h
            rw [Nat.add_mul] at this
            have e3 : off * es = off * q.es := by rw [he, hqe]
            omega
          · have : (off + m) * q.es ≤ j * q.es := Nat.mul_le_mul_right _ h
            rw [Nat.add_mul] at this
            have e3 : off * es = off * q.es := by rw [he, hqe]
            have e4 : m * q.es = m * ti.sz := by rw [hqe]
            omega

theorem op_copy (hc : CtxOk gs c) (hS : Sim c A ρ σ a w) {o : Oper} (hd : ∀ d, o.dst = some d → d < c.n) (args : Array Operand) (ts : Array TypeId) (hop : o.op = .call { callee := .builtin .copy, args, argTypes := ts }) : OpGoal P gs c A ρ σ a w o := by
  intro tx K KP next Q h hfr hF hn hp
  simp only [hop, opB] at h
  split at h
  · rename_i hsz
    have e1 := two_args (.tmp 0) hsz.1
    have e2 := two_args (0 : TypeId) hsz.2
    have r1 := zF7 hS (args.getD 0 (.tmp 0))
    have r2 := zF7 hS (args.getD 1 (.tmp 0))
    have hex : execOp a.eval o = (do pure (.value (← Builtin.copy_ #[ts.getD 0 0, ts.getD 1 0] o.type #[a.eval (args.getD 0 (.tmp 0)), a.eval (args.getD 1 (.tmp 0))]))) := by
      rw [zK0 hop]
      simp only [execOp, resolve, invoke, builtin, pure_bind]
      rw [e1, e2]
      simp
    split at h
    · rename_i e hu
      obtain ⟨ti, ht, h⟩ := zH6 h
      unfold copyB at h
      split at h
      · rename_i b es off n hs
        rw [hs] at r1
        by_cases h0 : 0 < ti.sz
        · obtain ⟨els, ad, cc, news, e3, hsrc, h⟩ := newsB_sound hS r2 h0 h
          simp only [wpB] at h
          cases hq : σ.lh b with
          | none => simp [hq] at h
          | some q =>
            simp only [hq] at h
            split at h
            · rename_i hcc
              obtain ⟨w', q1, q2⟩ := copy_sound (P := P) (t' := ts.getD 1 0) (ty := o.type) hS hu ht h0 r1 hq hcc.1 hcc.2.1 hcc.2.2.2 hsrc cc
              rw [← e3] at q1
              refine wp_yields (A := A) hd hex (r := ⟨.d (.int .i64 (min els.length n : Nat)), [(b, some { q with els := putL q.els off (els.take n) })], σ.nid⟩) ⟨_, w', A, ρ, q1, q2, .d _ _ (.int _ _), Names.refl _ _⟩ (fun x A' ρ' w' k hh => hn _ x A' ρ' w' h k hh)
            · exact h.elim
        · exfalso
          unfold newsB at h
          split at h
          · split at h
            · simp only [wpB] at h
              split at h
              · rename_i q _; rw [if_neg (fun hh => h0 hh.2.2.1)] at h; exact h
              · exact h
            · exact h
          · simp only [wpB] at h
            split at h
            · split at h
              · simp only [wpB] at h
                split at h
                · rw [if_neg (fun hh => h0 hh.2.2.1)] at h; exact h
                · exact h
              · exact h
            · exact h
          · exact h
      · exact h.elim
    · exact h.elim
  · exact h.elim

/-- EVERY OPERATION that the abstract walk goes through, the model goes through. -/
theorem op_sound (hc : CtxOk gs c) (hS : Sim c A ρ σ a w) (o : Oper) (hd : ∀ d, o.dst = some d → d < c.n) : OpGoal P gs c A ρ σ a w o := by
  have no : opB P σ.nid σ.eval o.op = .fail → OpGoal P gs c A ρ σ a w o := fun e tx K KP next Q h => by rw [e] at h; exact h.elim
  cases hop : o.op with
  | move x => exact op_move hc hS hd x hop
  | assign x => exact op_assign hc hS hd x hop
  | pick cc x y => exact op_pick hc hS hd cc x y hop
  | alloc t => exact op_alloc hc hS hd t hop
  | box t x => exact op_box hc hS hd t x hop
  | build t p => exact op_build hc hS hd t p hop
  | buildSlice t l p => exact op_buildSlice hc hS hd t l p hop
  | load t x => exact op_load hc hS hd t x hop
  | store t x y => exact op_store hc hS hd t x y hop
  | nilCheck x => exact op_nilCheck hc hS hd x hop
  | binOp op t x y t' => exact op_binOp hc hS hd op t x y t' hop
  | unOp op t x => exact op_unOp hc hS hd op t x hop
  | convert s t x => exact op_convert hc hS hd s t x hop
  | makeInterface t x => exact op_makeInterface hc hS hd t x hop
  | makeFunc fn f cs =>
    cases fn with
    | func f' => exact op_makeFunc hc hS hd f' f cs hop
    | _ => exact no (by rw [hop]; rfl)
  | makeSlice t l cc => exact op_makeSlice hc hS hd t l cc hop
  | slice t x lo hi mx =>
    cases mx with
    | none => exact op_slice hc hS hd t x lo hi hop
    | some m => exact op_slice3 hc hS hd t x lo hi m hop
  | fieldAddr s x f => exact op_fieldAddr hc hS hd s x f hop
  | field s x f => exact op_field hc hS hd s x f hop
  | indexAddr t x i => exact op_indexAddr hc hS hd t x i hop
  | index t x i => exact op_index hc hS hd t x i hop
  | extract x i => exact op_extract hc hS hd x i hop
  | typeAssert x s t ok => exact op_typeAssert hc hS hd x s t ok hop
  | panic x => exact op_panic hc hS hd x hop
  | call cl =>
    obtain ⟨callee, args, ts⟩ := cl
    cases callee with
    | value fv => exact op_call hc hS hd fv args ts hop
    | invoke r m => exact no (by rw [hop]; rfl)
    | builtin b =>
      cases b with
      | append => exact op_append hc hS hd args ts hop
      | len => exact op_len hc hS hd args ts hop
      | min => exact op_min hc hS hd args ts hop
      | max => exact op_max hc hS hd args ts hop
      | cap => exact op_cap hc hS hd args ts hop
      | copy => exact op_copy hc hS hd args ts hop
      | _ => exact no (by rw [hop]; rfl)
  | _ => exact no (by rw [hop]; rfl)
end
end Go.Proofs.Am
