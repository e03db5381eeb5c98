/- The abstract layer: immutable trees, local blocks, how they stand to values and worlds of the model. -/
import Derived.Below
import Derived.Deep.Draws
import Derived.Laws.OwnMore
import Derived.Laws.Slices
import Derived.Laws.MakeOwn
import Derived.Laws.Panics
import Derived.Laws.Rows
import Derived.Lib.ConvBytes
import Derived.Orders
namespace Go.Proofs.Am
open Go Go.RowKit

/-- Data: what is never written again. -/
inductive DV where
  | int (k : IntKind) (n : Int)
  | bool (b : Bool)
  | str (s : ByteArray)
  | pnil
  | pim (els : List DV) (i fo : Nat)
  | sim (els : List DV)
  | snil
  | fn (f : FuncId) (caps : List DV)
  | fnil
  | iface (t : TypeId) (v : DV)
  | inil
  | agg (cs : List DV)
  | tup (vs : List DV)

instance : Inhabited DV := ⟨.inil⟩

def DV.cells : DV → List DV
  | .agg cs => cs
  | v => [v]

def big : Nat := 4294967296

/-- A value of the model is this data: in world w, all its memory among the blocks that A allows. -/
inductive DRep (w : World) (A : Nat → Prop) : DV → Value → Prop where
  | int (k : IntKind) (n : Int) : DRep w A (.int k n) (.int k n)
  | bool (b : Bool) : DRep w A (.bool b) (.bool b)
  | str (s : ByteArray) (h : s.size ≤ big) : DRep w A (.str s) (.string s)
  | pnil : DRep w A .pnil (.pointer none)
  | pim (els : List DV) (i fo c o es : Nat) (val : Nat → Nat → Value) (hi : i < els.length) (hA : A c)
      (hes : ∀ j, j < els.length → (els.getD j .inil).cells.length = es)
      (hc : ∀ j m, j < els.length → m < es → w.cell? ⟨c, o + j * es + m, none⟩ = some (val j m))
      (hone : ∀ j m, j < els.length → m < es → (val j m).oneCell' = true)
      (hv : ∀ j m, j < els.length → m < es → DRep w A ((els.getD j .inil).cells.getD m .inil) (val j m)) :
      DRep w A (.pim els i fo) (.pointer (some ⟨c, o + i * es + fo, none⟩))
  | sim (els : List DV) (a : Addr) (cap c o es : Nat) (val : Nat → Nat → Value) (hb : els.length ≤ big) (hcap : els.length ≤ cap)
      (ha : 0 < els.length → a = ⟨c, o, none⟩ ∧ A c)
      (hes : ∀ j, j < els.length → (els.getD j .inil).cells.length = es)
      (hc : ∀ j m, j < els.length → m < es → w.cell? ⟨c, o + j * es + m, none⟩ = some (val j m))
      (hone : ∀ j m, j < els.length → m < es → (val j m).oneCell' = true)
      (hv : ∀ j m, j < els.length → m < es → DRep w A ((els.getD j .inil).cells.getD m .inil) (val j m)) :
      DRep w A (.sim els) (.slice (some a) els.length cap)
  | snil : DRep w A .snil (.slice none 0 0)
  | fn (f : FuncId) (caps : List DV) (vals : Array Value) (hl : vals.size = caps.length)
      (h : ∀ i, i < caps.length → DRep w A (caps.getD i .inil) (vals.getD i undef)) : DRep w A (.fn f caps) (.func (.func f) #[] vals)
  | fnil : DRep w A .fnil .nilFunc
  | iface (t : TypeId) (v : DV) (x : Value) (h : DRep w A v x) : DRep w A (.iface t v) (.iface t x)
  | inil : DRep w A .inil .nilIface
  | agg (cs : List DV) (vs : Array Value) (hl : vs.size = cs.length) (hone : ∀ i, i < cs.length → (vs.getD i undef).oneCell' = true)
      (h : ∀ i, i < cs.length → DRep w A (cs.getD i .inil) (vs.getD i undef)) : DRep w A (.agg cs) (.agg vs)
  | tup (cs : List DV) (vs : Array Value) (hl : vs.size = cs.length)
      (h : ∀ i, i < cs.length → DRep w A (cs.getD i .inil) (vs.getD i undef)) : DRep w A (.tup cs) (.tuple vs)

/-- What is allowed reads as it did. -/
def Keeps (w w' : World) (A A' : Nat → Prop) : Prop := ∀ c, A c → A' c ∧ w'.heap[c]? = w.heap[c]?

theorem Keeps.refl (w : World) (A : Nat → Prop) : Keeps w w A A := fun _ h => ⟨h, rfl⟩
theorem Keeps.trans {w w1 w2 : World} {A A1 A2 : Nat → Prop} (h : Keeps w w1 A A1) (k : Keeps w1 w2 A1 A2) : Keeps w w2 A A2 :=
  fun c hc => let ⟨a, b⟩ := h c hc; let ⟨a', b'⟩ := k c a; ⟨a', b'.trans b⟩

theorem Keeps.cell {w w' : World} {A A' : Nat → Prop} (k : Keeps w w' A A') {c i : Nat} (h : A c) : w'.cell? ⟨c, i, none⟩ = w.cell? ⟨c, i, none⟩ :=
  World.cell?_of_block (w := w) (w' := w') (a := ⟨c, i, none⟩) (k c h).2

theorem DRep.mono {w w' : World} {A A' : Nat → Prop} (k : Keeps w w' A A') {d : DV} {v : Value} (h : DRep w A d v) : DRep w' A' d v := by
  induction h with
  | int k n => exact .int k n
  | bool b => exact .bool b
  | str s h => exact .str s h
  | pnil => exact .pnil
  | pim els i fo c o es val hi hA hes hc hone hv ih =>
    exact .pim els i fo c o es val hi (k c hA).1 hes (fun j m hj hm => (k.cell hA).trans (hc j m hj hm)) hone ih
  | sim els a cap c o es val hb hcap ha hes hc hone hv ih =>
    exact .sim els a cap c o es val hb hcap (fun h => ⟨(ha h).1, (k c (ha h).2).1⟩) hes (fun j m hj hm => (k.cell (ha (by omega)).2).trans (hc j m hj hm)) hone ih
  | snil => exact .snil
  | fn f caps vals hl h ih => exact .fn f caps vals hl ih
  | fnil => exact .fnil
  | iface t v x h ih => exact .iface t v x ih
  | inil => exact .inil
  | agg cs vs hl hone h ih => exact .agg cs vs hl hone ih
  | tup cs vs hl h ih => exact .tup cs vs hl ih

/-- Values of a walk: data, or what leads to local blocks. A block's name is a number; es: cells of an element. zc: a slice, not nil, without elements and without room. -/
inductive AV where
  | d (v : DV)
  | loc (b es i fo : Nat)
  | slc (b es off len : Nat)
  | agg (cs : List AV)
  | tup (vs : List AV)
  | fn (f : FuncId) (caps : List AV)
  | iface (t : TypeId) (v : AV)
  | zc
  | undef

instance : Inhabited AV := ⟨.undef⟩

def AV.cells : AV → List AV
  | .agg cs => cs
  | .d (.agg cs) => cs.map .d
  | v => [v]

/-- Where a local block lies: the model's block, how many elements it has room for, cells of an element. -/
structure BR where
  g : Nat
  cap : Nat
  es : Nat

/-- A local block: its elements, cells of one, the element's type; whether it may still be written; whether it was never marked as a string's. -/
structure LB where
  els : List AV
  es : Nat
  ty : TypeId
  live : Bool
  plain : Bool

inductive ARep (w : World) (A : Nat → Prop) (ρ : Nat → Option BR) : AV → Value → Prop where
  | d (v : DV) (x : Value) (h : DRep w A v x) : ARep w A ρ (.d v) x
  | loc (b es i fo : Nat) (r : BR) (h : ρ b = some r) (he : r.es = es) : ARep w A ρ (.loc b es i fo) (.pointer (some ⟨r.g, i * es + fo, none⟩))
  | slc (b es off len : Nat) (r : BR) (h : ρ b = some r) (he : r.es = es) (hl : off + len ≤ r.cap) : ARep w A ρ (.slc b es off len) (.slice (some ⟨r.g, off * es, none⟩) len (r.cap - off))
  | agg (cs : List AV) (vs : Array Value) (hl : vs.size = cs.length) (hone : ∀ i, i < cs.length → (vs.getD i undef).oneCell' = true)
      (h : ∀ i, i < cs.length → ARep w A ρ (cs.getD i .undef) (vs.getD i undef)) : ARep w A ρ (.agg cs) (.agg vs)
  | tup (cs : List AV) (vs : Array Value) (hl : vs.size = cs.length)
      (h : ∀ i, i < cs.length → ARep w A ρ (cs.getD i .undef) (vs.getD i undef)) : ARep w A ρ (.tup cs) (.tuple vs)
  | fn (f : FuncId) (caps : List AV) (vals : Array Value) (hl : vals.size = caps.length)
      (h : ∀ i, i < caps.length → ARep w A ρ (caps.getD i .undef) (vals.getD i undef)) : ARep w A ρ (.fn f caps) (.func (.func f) #[] vals)
  | iface (t : TypeId) (v : AV) (x : Value) (h : ARep w A ρ v x) : ARep w A ρ (.iface t v) (.iface t x)
  | zc (a : Addr) : ARep w A ρ .zc (.slice (some a) 0 0)
  | un (x : Value) : ARep w A ρ .undef x

theorem ARep.mono {w w' : World} {A A' : Nat → Prop} {ρ ρ' : Nat → Option BR} (k : Keeps w w' A A') (hr : ∀ b r, ρ b = some r → ρ' b = some r)
    {d : AV} {v : Value} (h : ARep w A ρ d v) : ARep w' A' ρ' d v := by
  induction h with
  | d v x h => exact .d v x (h.mono k)
  | loc b es i fo r h he => exact .loc b es i fo r (hr _ _ h) he
  | slc b es off len r h he hl => exact .slc b es off len r (hr _ _ h) he hl
  | agg cs vs hl hone h ih => exact .agg cs vs hl hone ih
  | tup cs vs hl h ih => exact .tup cs vs hl ih
  | fn f caps vals hl h ih => exact .fn f caps vals hl ih
  | iface t v x h ih => exact .iface t v x ih
  | zc a => exact .zc a
  | un x => exact .un x

/-- A local block stands in the world's block r. -/
structure BRep (w : World) (A : Nat → Prop) (ρ : Nat → Option BR) (k : LB) (r : BR) : Prop where
  mk' ::
  ex : ∃ (cur : Array Value) (fr : Nat × Nat), w.heap[r.g]? = some (.cells cur k.ty fr) ∧ cur.size = r.cap * r.es ∧ (k.plain = true → fr = (0, 0)) ∧ (fr.1 = fr.2 ∨ cur.size ≤ fr.1) ∧
    ∀ j m, j < k.els.length → m < k.es → ∃ v, cur[j * k.es + m]? = some v ∧ v.oneCell' = true ∧ ARep w A ρ ((k.els.getD j .undef).cells.getD m .undef) v
  es : r.es = k.es
  len : k.els.length ≤ r.cap
  cap : r.cap ≤ maxLen
  els : ∀ j, j < k.els.length → (k.els.getD j .undef).cells.length = k.es

theorem BRep.mono {w w' : World} {A A' : Nat → Prop} {ρ ρ' : Nat → Option BR} (k : Keeps w w' A A') (hr : ∀ b r, ρ b = some r → ρ' b = some r)
    {b : LB} {r : BR} (hg : w'.heap[r.g]? = w.heap[r.g]?) (h : BRep w A ρ b r) : BRep w' A' ρ' b r := by
  obtain ⟨⟨cur, fr, h1, h2, h3, h4, h5⟩, a, b', c, d⟩ := h
  exact ⟨⟨cur, fr, hg.trans h1, h2, h3, h4, fun j m hj hm => let ⟨v, x, y, z⟩ := h5 j m hj hm; ⟨v, x, y, z.mono k hr⟩⟩, a, b', c, d⟩

/-- A state of a walk: slots, local blocks, the next free name, the deferred calls. -/
structure St where
  env : Nat → AV
  lh : Nat → Option LB
  nid : Nat
  dfs : List (FuncId × List AV)

def upd {α : Type} (f : Nat → α) (i : Nat) (v : α) : Nat → α := fun j => if j = i then v else f j
@[simp] theorem upd_same {α : Type} (f : Nat → α) (i : Nat) (v : α) : upd f i v i = v := by simp [upd]
theorem upd_ne {α : Type} (f : Nat → α) (i j : Nat) (v : α) (h : j ≠ i) : upd f i v j = f j := by simp [upd, h]

/-- Values one by one. -/
structure ARepL (w : World) (A : Nat → Prop) (ρ : Nat → Option BR) (args : List AV) (vals : Array Value) : Prop where
  size : vals.size = args.length
  at_ : ∀ i, i < args.length → ARep w A ρ (args.getD i .undef) (vals.getD i undef)

theorem ARepL.mono {w w' : World} {A A' : Nat → Prop} {ρ ρ' : Nat → Option BR} (k : Keeps w w' A A') (hr : ∀ b r, ρ b = some r → ρ' b = some r)
    {args : List AV} {vals : Array Value} (h : ARepL w A ρ args vals) : ARepL w' A' ρ' args vals :=
  ⟨h.size, fun i hi => (h.at_ i hi).mono k hr⟩

/-- Deferred calls, one by one. -/
inductive DfRep (w : World) (A : Nat → Prop) (ρ : Nat → Option BR) : List (FuncId × List AV) → List Deferred → Prop where
  | nil : DfRep w A ρ [] []
  | cons (f : FuncId) (args : List AV) (l : List (FuncId × List AV)) (cap vals : Array Value) (r : List Deferred) (h : ARepL w A ρ args (vals ++ cap)) (t : DfRep w A ρ l r) :
      DfRep w A ρ ((f, args) :: l) ({ target := .fn (.func f) cap, args := vals } :: r)

theorem DfRep.mono {w w' : World} {A A' : Nat → Prop} {ρ ρ' : Nat → Option BR} (k : Keeps w w' A A') (hr : ∀ b r, ρ b = some r → ρ' b = some r)
    {l : List (FuncId × List AV)} {r : List Deferred} (h : DfRep w A ρ l r) : DfRep w' A' ρ' l r := by
  induction h with
  | nil => exact .nil
  | cons f args l cap vals r h t ih => exact .cons f args l cap vals r (h.mono k hr) ih

/-- What a call began with: the world, what it may read, the blocks that it may write, its slots, the names that were there. -/
structure Ctx where
  w0 : World
  A0 : Nat → Prop
  O0 : Nat → Prop
  n : Nat
  m : Nat
  ρ0 : Nat → Option BR

/-- The local blocks and the world. -/
structure HS (c : Ctx) (A : Nat → Prop) (ρ : Nat → Option BR) (lh : Nat → Option LB) (w : World) : Prop where
  blk : ∀ b r k, ρ b = some r → lh b = some k → BRep w A ρ k r
  inj : ∀ b r b' r', ρ b = some r → ρ b' = some r' → (lh b).isSome = true → (lh b').isSome = true → r.g = r'.g → b = b'
  own : ∀ b r k, ρ b = some r → lh b = some k → k.live = true → ¬ A r.g ∧ (c.O0 r.g ∨ c.w0.heap.size ≤ r.g)
  dead : ∀ b r k, ρ b = some r → lh b = some k → k.live = false → A r.g
  lt : ∀ g, A g → g < w.heap.size
  up : ∀ g, c.A0 g → A g
  new : ∀ g, A g → c.A0 g ∨ c.O0 g ∨ c.w0.heap.size ≤ g
  os : w.os = c.w0.os
  tape : w.tape = c.w0.tape
  output : w.output = c.w0.output
  hsize : c.w0.heap.size ≤ w.heap.size
  frame : ∀ g, g < c.w0.heap.size → ¬ c.O0 g → w.heap[g]? = c.w0.heap[g]?

structure Sim (c : Ctx) (A : Nat → Prop) (ρ : Nat → Option BR) (σ : St) (a : Act) (w : World) : Prop extends HS c A ρ σ.lh w where
  size : a.tmps.size = c.n
  defers : DfRep w A ρ σ.dfs a.defers
  env : ∀ t, ARep w A ρ (σ.env t) (a.tmps.getD t undef)

end Go.Proofs.Am
