/- The operations over abstract values. -/
import Derived.Test.YtmjkaekhjmlnbaaGreatDoorAmCore
namespace Go.Proofs.Am
open Go Go.RowKit

/-- What an operation needs of a type: cells, whether a struct or an array, bytes, its zero value. -/
structure TI where
  sz : Nat
  agg : Bool
  bytes : Nat
  zero : DV

def zeroOne : Value → Option DV
  | .int k n => some (.int k n)
  | .bool b => some (.bool b)
  | .string s => if s.size ≤ big then some (.str s) else none
  | .pointer none => some .pnil
  | .slice none 0 0 => some .snil
  | .nilFunc => some .fnil
  | .nilIface => some .inil
  | _ => none

def zeroD : Value → Option DV
  | .agg vs => (vs.toList.mapM zeroOne).map .agg
  | v => zeroOne v

def descAgg : TypeDesc → Bool
  | .struct _ | .array _ _ => true
  | _ => false

def tinfo (P : Program) (t : TypeId) : Option TI :=
  match P.info? t, P.underlying t with
  | some i, some u => (i.zero.bind zeroD).bind fun z => if z.cells.length = i.size then some ⟨i.size, descAgg u, i.bytes, z⟩ else none
  | _, _ => none

/-- A struct's field: its first cell, its type. -/
def fieldO (P : Program) (s : TypeId) (f : Nat) : Option (Nat × TypeId) :=
  match P.underlying s with
  | some (.struct fs) => (fs[f]?).map fun x => (x.offset, x.type)
  | _ => none

def constD (v : Value) : Option DV := zeroD v

def St.eval (σ : St) : Operand → AV
  | .tmp t => σ.env t
  | .const v => match constD v with | some d => .d d | none => .undef
  | .global _ => .undef
  | .func f => .d (.fn f [])

/-- An operation's result: a value, changes of local blocks, the next free name. -/
structure OpR where
  v : AV
  chg : List (Nat × Option LB)
  nid : Nat

/-- A result: a value whose local names are 0, 1, .. of these blocks. -/
structure Ret where
  v : AV
  blks : List LB

mutual
/-- Names moved up. -/
def AV.sh (k : Nat) : AV → AV
  | .d v => .d v
  | .loc b es i fo => .loc (b + k) es i fo
  | .slc b es off len => .slc (b + k) es off len
  | .agg cs => .agg (AV.shL k cs)
  | .tup vs => .tup (AV.shL k vs)
  | .fn f cs => .fn f (AV.shL k cs)
  | .iface t v => .iface t (AV.sh k v)
  | .zc => .zc
  | .undef => .undef
def AV.shL (k : Nat) : List AV → List AV
  | [] => []
  | v :: r => AV.sh k v :: AV.shL k r
end
theorem AV.shL_map (k : Nat) : ∀ (l : List AV), AV.shL k l = l.map (AV.sh k)
  | [] => by simp [AV.shL]
  | v :: r => by simp [AV.shL, AV.shL_map k r]

def LB.sh (k : Nat) (b : LB) : LB := { b with els := b.els.map (AV.sh k) }

/-- The result taken into the caller's state. -/
def Ret.op (r : Ret) (nid : Nat) : OpR := ⟨r.v.sh nid, (r.blks.zipIdx nid).map fun p => (p.2, some (p.1.sh nid)), nid + r.blks.length⟩

def applyChg (lh : Nat → Option LB) (chg : List (Nat × Option LB)) : Nat → Option LB := chg.foldl (fun f p => upd f p.1 p.2) lh

/-- What an operation leaves: its value, the local blocks, the next free name. -/
structure Res where
  v : AV
  lh : Nat → Option LB
  nid : Nat

def OpR.res (r : OpR) (lh : Nat → Option LB) : Res := ⟨r.v, applyChg lh r.chg, r.nid⟩

/-- Which calls hand back what, which give up with what. ok: in a region of any kind, with the names of blocks that are read; okT: in the order of the text alone. -/
structure CallE where
  ok : (Nat → Option LB) → Nat → FuncId → List AV → List Nat → OpR → Prop
  okT : (Nat → Option LB) → Nat → FuncId → List AV → Res → Prop
  pan : (Nat → Option LB) → Nat → FuncId → List AV → DV → Res → Prop
  panD : (Nat → Option LB) → FuncId → List AV → List Nat → DV → Prop

inductive BM where
  | pure (r : OpR)
  | get (b : Nat) (k : LB → BM)
  | call (nid : Nat) (f : FuncId) (args : List AV)
  | pan (nid : Nat) (d : DV)
  | fail

def BM.ofO {α : Type} (o : Option α) (k : α → BM) : BM := match o with | some a => k a | none => .fail

def dIsAgg : DV → Bool
  | .agg _ => true
  | _ => false

/-- A part of an element that is data. -/
def dload (ti : TI) (e : DV) (fo : Nat) : Option DV :=
  if ti.agg then
    if fo = 0 ∧ e.cells.length = ti.sz ∧ dIsAgg e = true then some e
    else if fo + ti.sz ≤ e.cells.length then some (.agg ((e.cells.drop fo).take ti.sz)) else none
  else e.cells[fo]?

def aIsAgg : AV → Bool
  | .agg _ => true
  | .d (.agg _) => true
  | _ => false

def aload (ti : TI) (e : AV) (fo : Nat) : Option AV :=
  if ti.agg then
    if fo = 0 ∧ e.cells.length = ti.sz ∧ aIsAgg e = true then some e
    else if fo + ti.sz ≤ e.cells.length then some (.agg ((e.cells.drop fo).take ti.sz)) else none
  else e.cells[fo]?

/-- An element in which a part is another value. -/
def astore (e : AV) (fo : Nat) (v : AV) : AV :=
  if fo = 0 ∧ v.cells.length = e.cells.length ∧ ¬ (v.cells.length = 1 ∧ aIsAgg v = false ∧ aIsAgg e = true) then v
  else .agg (e.cells.take fo ++ v.cells ++ e.cells.drop (fo + v.cells.length))

def just (nid : Nat) (v : AV) : BM := .pure ⟨v, [], nid⟩

/-- Whole numbers. -/
def intOp (op : BinOp) (k : IntKind) (a b : Int) : Option DV :=
  match op with
  | .add => some (.int k (k.wrap (a + b)))
  | .sub => some (.int k (k.wrap (a - b)))
  | .mul => some (.int k (k.wrap (a * b)))
  | .quo => if b = 0 then none else some (.int k (k.wrap (a.tdiv b)))
  | .rem => if b = 0 then none else some (.int k (a.tmod b))
  | .and => some (.int k (k.wrap ((BitVec.ofInt k.bits a &&& BitVec.ofInt k.bits b).toNat)))
  | .or => some (.int k (k.wrap ((BitVec.ofInt k.bits a ||| BitVec.ofInt k.bits b).toNat)))
  | .xor => some (.int k (k.wrap ((BitVec.ofInt k.bits a ^^^ BitVec.ofInt k.bits b).toNat)))
  | .andNot => some (.int k (k.wrap ((BitVec.ofInt k.bits a &&& ~~~ BitVec.ofInt k.bits b).toNat)))
  | .eql => some (.bool (a == b))
  | .neq => some (.bool (a != b))
  | .lss => some (.bool (decide (a < b)))
  | .leq => some (.bool (decide (a ≤ b)))
  | .gtr => some (.bool (decide (a > b)))
  | .geq => some (.bool (decide (a ≥ b)))
  | _ => none

def strOp (op : BinOp) (a b : ByteArray) : Option DV :=
  match op with
  | .add => if a.size + b.size ≤ big then some (.str (a ++ b)) else none
  | .eql => some (.bool (a.data.toList == b.data.toList))
  | .neq => some (.bool (!(a.data.toList == b.data.toList)))
  | .lss => some (.bool (Op.bytesLess a.data.toList b.data.toList))
  | .leq => some (.bool (Op.bytesLess a.data.toList b.data.toList || a.data.toList == b.data.toList))
  | .gtr => some (.bool (!(Op.bytesLess a.data.toList b.data.toList || a.data.toList == b.data.toList)))
  | .geq => some (.bool (!(Op.bytesLess a.data.toList b.data.toList)))
  | _ => none

/-- Is a slice nil? -/
def isNilSlice : AV → Option Bool
  | .d .snil => some true
  | .d (.sim _) => some false
  | .slc _ _ _ _ => some false
  | .zc => some false
  | _ => none

def eqOp (op : BinOp) (r : Bool) : Option DV :=
  match op with
  | .eql => some (.bool r)
  | .neq => some (.bool (!r))
  | _ => none

def binD (P : Program) (op : BinOp) (t : TypeId) (x y : AV) : Option DV :=
  match x, y with
  | .d (.int k a), .d (.int k' b) =>
    match op with
    | .shl => if b < 0 then none else some (.int k (k.wrap (a * 2 ^ (min b.toNat k.bits))))
    | .shr => if b < 0 then none else some (.int k (a.fdiv (2 ^ (min b.toNat k.bits))))
    | _ => if k = k' then intOp op k a b else none
  | .d (.str a), .d (.str b) => strOp op a b
  | .d (.bool a), .d (.bool b) => match P.underlying t with | some .bool => eqOp op (a == b) | _ => none
  | x, .d .snil => match P.underlying t with | some (.slice _) => (isNilSlice x).bind (eqOp op) | _ => none
  | _, _ => none

def unD (op : UnOp) (x : AV) : Option DV :=
  match op, x with
  | .not, .d (.bool b) => some (.bool (!b))
  | .neg, .d (.int k n) => some (.int k (k.wrap (0 - n)))
  | .xor, .d (.int k n) => some (.int k (k.wrap ((BitVec.ofInt k.bits (if k.signed then -1 else k.max) ^^^ BitVec.ofInt k.bits n).toNat)))
  | _, _ => none

def sliceBoundsA (len cap : Nat) (lo hi : Option AV) : Option (Nat × Nat) :=
  match hi, lo with
  | none, none => if len ≤ cap then some (0, len) else none
  | some (.d (.int _ h)), none => if 0 ≤ h ∧ h ≤ cap then some (0, h.toNat) else none
  | none, some (.d (.int _ l)) => if 0 ≤ l ∧ l ≤ len then some (l.toNat, len) else none
  | some (.d (.int _ h)), some (.d (.int _ l)) => if 0 ≤ l ∧ l ≤ h ∧ h ≤ cap then some (l.toNat, h.toNat) else none
  | _, _ => none

def sliceA (P : Program) (t : TypeId) (x : AV) (lo hi : Option AV) : Option AV :=
  match P.underlying t, x with
  | some .string, .d (.str s) => (sliceBoundsA s.size s.size lo hi).map fun (l, h) => .d (.str (s.extract l h))
  | some (.slice e), .d (.sim els) => (tinfo P e).bind fun ti =>
      if els.all (fun x => x.cells.length = ti.sz) then (sliceBoundsA els.length els.length lo hi).map fun (l, h) => .d (.sim ((els.drop l).take (h - l))) else none
  | some (.slice e), .d .snil => (tinfo P e).bind fun _ => (sliceBoundsA 0 0 lo hi).map fun _ => .d .snil
  | some (.slice e), .slc b es off len => (tinfo P e).bind fun ti =>
      if ti.sz = es then (sliceBoundsA len len lo hi).map fun (l, h) => if l = 0 ∨ l < h then .slc b es (off + l) (h - l) else .d (.sim []) else none
  | _, _ => none

def indexAddrA (P : Program) (t : TypeId) (x i : AV) : Option AV :=
  match P.underlying t, x, i with
  | some (.slice e), .d (.sim els), .d (.int _ i) => (tinfo P e).bind fun ti =>
      if 0 ≤ i ∧ i < els.length ∧ (els.getD i.toNat .inil).cells.length = ti.sz then some (.d (.pim els i.toNat 0)) else none
  | some (.slice e), .slc b es off len, .d (.int _ i) => (tinfo P e).bind fun ti =>
      if 0 ≤ i ∧ i < len ∧ ti.sz = es then some (.loc b es (off + i.toNat) 0) else none
  | some (.array n e), .loc b es k fo, .d (.int _ i) => (tinfo P e).bind fun ti =>
      if 0 ≤ i ∧ i < n then some (.loc b es k (fo + i.toNat * ti.sz)) else none
  | some (.array n e), .d (.pim els k fo), .d (.int _ i) => (tinfo P e).bind fun ti =>
      if 0 ≤ i ∧ i < n then some (.d (.pim els k (fo + i.toNat * ti.sz))) else none
  | _, _, _ => none

def fieldAddrA (P : Program) (s : TypeId) (x : AV) (f : Nat) : Option AV :=
  (fieldO P s f).bind fun (off, ft) => (tinfo P ft).bind fun ti =>
    if ti.sz = 0 then none else
    match x with
    | .loc b es i fo => some (.loc b es i (fo + off))
    | .d (.pim els i fo) => some (.d (.pim els i (fo + off)))
    | _ => none

def fieldA (P : Program) (s : TypeId) (x : AV) (f : Nat) : Option AV :=
  (fieldO P s f).bind fun (off, ft) => (tinfo P ft).bind fun ti => if aIsAgg x then aload ti x off else none

def convA (P : Program) (src dst : TypeId) (x : AV) : Option AV :=
  match P.underlying src, P.underlying dst, x with
  | some _, some (.int k), .d (.int _ n) => some (.d (.int k (k.wrap n)))
  | some _, some .string, .d (.str s) => some (.d (.str s))
  | _, _, _ => none

def lenA (P : Program) (t : TypeId) (x : AV) : Option DV :=
  match P.underlying t, x with
  | some .string, .d (.str s) => some (.int .i64 s.size)
  | some (.slice _), .d (.sim els) => some (.int .i64 els.length)
  | some (.slice _), .d .snil => some (.int .i64 0)
  | some (.slice _), .slc _ _ _ len => some (.int .i64 len)
  | some (.slice _), .zc => some (.int .i64 0)
  | _, _ => none

/-- Where the fields of a struct lie: first cell, cells. -/
def places (P : Program) (t : TypeId) : Option (List (Nat × Nat)) :=
  match P.underlying t with
  | some (.struct fs) => fs.toList.mapM fun f => (P.info? f.type).map fun i => (f.offset, i.size)
  | some (.array n e) => (P.info? e).map fun i => (List.range n).map fun k => (k * i.size, i.size)
  | _ => none

/-- The parts of a struct put into its cells. -/
def fillA (pl : List (Nat × Nat)) (cs : List AV) : List (Nat × AV) → Option (List AV)
  | [] => some cs
  | (f, v) :: rest => match pl[f]? with
    | some (off, sz) => if v.cells.length = sz ∧ off + sz ≤ cs.length then fillA pl (cs.take off ++ v.cells ++ cs.drop (off + v.cells.length)) rest else none
    | none => none

def fillL (es : Nat) (els : List AV) : List (Nat × AV) → Option (List AV)
  | [] => some els
  | (i, v) :: rest => if i < els.length ∧ v.cells.length = es then fillL es (els.set i v) rest else none

/-- Each cell stands for itself. -/
def avOne : AV → Bool
  | .agg _ | .tup _ | .undef | .d (.agg _) | .d (.tup _) => false
  | _ => true

/-- Local blocks that a value leads to become data. -/
def toD : AV → Option DV
  | .d v => some v
  | _ => none

def allD : List AV → Option (List DV)
  | [] => some []
  | .d v :: r => (allD r).map (v :: ·)
  | _ :: _ => none

/-- What is appended. -/
def newsB (ti : TI) (x : AV) (k : List AV → BM) : BM :=
  match x with
  | .d (.sim els) => if els.all (fun x => x.cells.length = ti.sz) = true then k (els.map .d) else .fail
  | .slc b es off n => .get b fun q => if off + n ≤ q.els.length ∧ es = ti.sz then k ((q.els.drop off).take n) else .fail
  | _ => .fail

def appendB (nid : Nat) (ti : TI) (e : TypeId) (s x : AV) : BM :=
  if ti.bytes ≤ 32768 ∧ 0 < ti.sz then
    match x with
    | .d .snil => (match s with
      | .d .snil => just nid (.d .snil)
      | .d (.sim els) => just nid (.d (.sim els))
      | .slc b es off len => just nid (.slc b es off len)
      | .zc => just nid .zc
      | _ => .fail)
    | x => newsB ti x fun xs =>
      match s with
      | .d .snil => if xs.length = 0 then just nid (.d .snil) else if xs.length ≤ big then .pure ⟨.slc nid ti.sz 0 xs.length, [(nid, some ⟨xs, ti.sz, e, true, true⟩)], nid + 1⟩ else .fail
      | .zc => if xs.length = 0 then just nid .zc else if xs.length ≤ big then .pure ⟨.slc nid ti.sz 0 xs.length, [(nid, some ⟨xs, ti.sz, e, true, true⟩)], nid + 1⟩ else .fail
      | .slc b es 0 len => .get b fun q =>
          if q.live = true ∧ q.plain = true ∧ q.ty = e ∧ es = ti.sz ∧ len ≤ q.els.length ∧ len + xs.length ≤ big then
            .pure ⟨.slc nid ti.sz 0 (len + xs.length), [(b, none), (nid, some ⟨q.els.take len ++ xs, ti.sz, e, true, true⟩)], nid + 1⟩ else .fail
      | _ => .fail
  else .fail

/-- Bytes as elements, and back. -/
def bytesA (s : ByteArray) : List AV := s.data.toList.map fun b => .d (.int .u8 b.toNat)

def unbytes : List AV → Option (List UInt8)
  | [] => some []
  | .d (.int .u8 n) :: r => (unbytes r).map (UInt8.ofNat n.toNat :: ·)
  | _ :: _ => none

/-- A string made of bytes. -/
def strB (nid : Nat) (l : List AV) : BM := match unbytes l with
  | some bs => if bs.length ≤ big then just nid (.d (.str ⟨bs.toArray⟩)) else .fail
  | none => .fail

def toStrB (nid : Nat) (x : AV) : BM :=
  match x with
  | .d .snil => just nid (.d (.str ⟨#[]⟩))
  | .d (.sim els) => strB nid (els.map .d)
  | .slc b es off n => .get b fun q => if off + n ≤ q.els.length ∧ es = 1 then strB nid ((q.els.drop off).take n) else .fail
  | _ => .fail

def convB (P : Program) (nid : Nat) (src dst : TypeId) (x : AV) : BM :=
  match P.underlying src, P.underlying dst with
  | some .string, some (.slice e) => match P.underlying e, x with
    | some (.int .u8), .d (.str s) => .pure ⟨.slc nid 1 0 s.size, [(nid, some ⟨bytesA s, 1, e, true, false⟩)], nid + 1⟩
    | _, _ => .fail
  | some (.slice e), some .string => match P.underlying e with
    | some (.int .u8) => toStrB nid x
    | _ => .fail
  | _, _ => BM.ofO (convA P src dst x) fun v => just nid v

/-- Elements of a row that others replace. -/
def putL (els : List AV) (off : Nat) (xs : List AV) : List AV := els.take off ++ xs ++ els.drop (off + xs.length)

def copyB (nid : Nat) (ti : TI) (s x : AV) : BM :=
  match s with
  | .slc b es off n => newsB ti x fun xs => .get b fun q =>
      if q.live = true ∧ es = ti.sz ∧ 0 < ti.sz ∧ off + n ≤ q.els.length then
        .pure ⟨.d (.int .i64 (min xs.length n : Nat)), [(b, some { q with els := putL q.els off (xs.take n) })], nid⟩ else .fail
  | _ => .fail

/-- Is it nil? -/
def isNil : AV → Option Bool
  | .d .inil | .d .pnil | .d .fnil => some true
  | .d (.iface _ _) | .iface _ _ | .loc _ _ _ _ | .d (.pim _ _ _) | .d (.fn _ _) | .fn _ _ => some false
  | _ => none

/-- Comparison with the literal nil. -/
def nilOp (P : Program) (op : BinOp) (t : TypeId) (x : AV) (c : Value) : Option DV :=
  match P.underlying t, c, x with
  | some (.interface _), .nilIface, .d .inil => eqOp op true
  | some (.interface _), .nilIface, .d (.iface _ _) => eqOp op false
  | some (.interface _), .nilIface, .iface _ _ => eqOp op false
  | some (.pointer _), .pointer none, .d .pnil => eqOp op true
  | some (.pointer _), .pointer none, .loc _ _ _ _ => eqOp op false
  | some (.pointer _), .pointer none, .d (.pim _ _ _) => eqOp op false
  | some (.func _ _ _), .nilFunc, .d .fnil => eqOp op true
  | some (.func _ _ _), .nilFunc, .d (.fn _ _) => eqOp op false
  | some (.func _ _ _), .nilFunc, .fn _ _ => eqOp op false
  | _, _, _ => none

/-- Structs of plain parts compared. -/
def eqParts (P : Program) : List Field → List AV → List AV → Option Bool
  | [], _, _ => some true
  | f :: fs, xs, ys => if f.name = "_" then none else
    match P.underlying f.type, xs[f.offset]?, ys[f.offset]? with
    | some (.int _), some (.d (.int k a)), some (.d (.int k' b)) => if k = k' then (if a == b then eqParts P fs xs ys else some false) else none
    | some .string, some (.d (.str a)), some (.d (.str b)) => if a.data.toList == b.data.toList then eqParts P fs xs ys else some false
    | some .bool, some (.d (.bool a)), some (.d (.bool b)) => if a == b then eqParts P fs xs ys else some false
    | _, _, _ => none

def structOp (P : Program) (op : BinOp) (t : TypeId) (x y : AV) : Option DV :=
  match P.underlying t with
  | some (.struct fs) => if aIsAgg x = true ∧ aIsAgg y = true ∧ P.eqGuardType P.depth t = false ∧ P.stoodInHeld t = false then (eqParts P fs.toList x.cells y.cells).bind (eqOp op) else none
  | _ => none

/-- A slice of no elements and no room. -/
def slice3A (P : Program) (t : TypeId) (x : AV) (lo : Option AV) (hi mx : Option AV) : Option AV :=
  match P.underlying t, lo, hi, mx with
  | some (.slice e), none, some (.d (.int _ 0)), some (.d (.int _ 0)) => (tinfo P e).bind fun _ => match x with
    | .d .snil => some (.d .snil)
    | .d (.sim _) => some .zc
    | .slc _ _ _ _ => some .zc
    | .zc => some .zc
    | _ => none
  | _, _, _, _ => none

def opB (P : Program) (nid : Nat) (ev : Operand → AV) (o : Op) : BM :=
  match o with
  | .move x | .assign x => just nid (ev x)
  | .pick c a b => match ev c with | .d (.bool t) => just nid (if t then ev a else ev b) | _ => .fail
  | .alloc t => BM.ofO (tinfo P t) fun ti => .pure ⟨.loc nid ti.sz 0 0, [(nid, some ⟨[.d ti.zero], ti.sz, t, true, true⟩)], nid + 1⟩
  | .box t x => if (ev x).cells.all avOne then .pure ⟨.loc nid (ev x).cells.length 0 0, [(nid, some ⟨[ev x], (ev x).cells.length, t, true, true⟩)], nid + 1⟩ else .fail
  | .build t parts => BM.ofO (tinfo P t) fun ti => BM.ofO (places P t) fun pl =>
      if (parts.toList.all fun (_, x) => (ev x).cells.all avOne) = true ∧ ti.agg = true then BM.ofO (fillA pl (ti.zero.cells.map .d) (parts.toList.map fun (i, x) => (i, ev x))) fun cs => just nid (.agg cs) else .fail
  | .buildSlice t len parts =>
    match P.underlying t with
    | some (.slice e) => BM.ofO (tinfo P e) fun ti => if len * ti.sz ≤ 16777216 ∧ 0 < ti.sz ∧ (parts.toList.all fun (_, x) => (ev x).cells.all avOne) = true then
        BM.ofO (fillL ti.sz (List.replicate len (.d ti.zero)) (parts.toList.map fun (i, x) => (i, ev x))) fun els =>
          .pure ⟨.slc nid ti.sz 0 len, [(nid, some ⟨els, ti.sz, e, true, true⟩)], nid + 1⟩ else .fail
    | _ => .fail
  | .load t a => BM.ofO (tinfo P t) fun ti =>
    match ev a with
    | .d (.pim els i fo) => BM.ofO (dload ti (els.getD i .inil) fo) fun v => just nid (.d v)
    | .loc b _ i fo => .get b fun k => if i < k.els.length then BM.ofO (aload ti (k.els.getD i .undef) fo) fun v => just nid v else .fail
    | _ => .fail
  | .store t a x => BM.ofO (tinfo P t) fun ti =>
    match ev a with
    | .loc b _ i fo => .get b fun k =>
        if k.live = true ∧ i < k.els.length ∧ (ev x).cells.length = ti.sz ∧ (ev x).cells.all avOne = true ∧ fo + ti.sz ≤ k.es then
          .pure ⟨.undef, [(b, some { k with els := k.els.set i (astore (k.els.getD i .undef) fo (ev x)) })], nid⟩ else .fail
    | _ => .fail
  | .nilCheck x => match ev x with
    | .loc b es i fo => just nid (.loc b es i fo)
    | .d (.pim els i fo) => just nid (.d (.pim els i fo))
    | .d (.fn f cs) => just nid (.d (.fn f cs))
    | .fn f cs => just nid (.fn f cs)
    | _ => .fail
  | .binOp op t x y _ => match binD P op t (ev x) (ev y) with
    | some v => just nid (.d v)
    | none => match y with
      | .const c => BM.ofO (nilOp P op t (ev x) c) fun v => just nid (.d v)
      | y => BM.ofO (structOp P op t (ev x) (ev y)) fun v => just nid (.d v)
  | .unOp op _ x => BM.ofO (unD op (ev x)) fun v => just nid (.d v)
  | .convert src dst x => convB P nid src dst (ev x)
  | .makeInterface t x => match P.underlying t with
    | some (.interface _) => .fail
    | some _ => (match ev x with | .d v => just nid (.d (.iface t v)) | v => just nid (.iface t v))
    | none => .fail
  | .makeFunc (.func f) first caps => if first.size = 0 then (match allD (caps.toList.map ev) with | some ds => just nid (.d (.fn f ds)) | none => just nid (.fn f (caps.toList.map ev))) else .fail
  | .makeSlice t l c =>
    match P.underlying t, ev l, ev c with
    | some (.slice e), .d (.int .i64 n), .d (.int .i64 m) => BM.ofO (tinfo P e) fun ti =>
      if 0 ≤ n ∧ n ≤ m ∧ m ≤ big ∧ ti.bytes ≤ 32768 then .pure ⟨.slc nid ti.sz 0 n.toNat, [(nid, some ⟨List.replicate m.toNat (.d ti.zero), ti.sz, e, true, true⟩)], nid + 1⟩ else .fail
    | _, _, _ => .fail
  | .slice t x lo hi none => BM.ofO (sliceA P t (ev x) (lo.map ev) (hi.map ev)) fun v => just nid v
  | .slice t x lo hi (some mx) => BM.ofO (slice3A P t (ev x) (lo.map ev) (hi.map ev) (some (ev mx))) fun v => just nid v
  | .fieldAddr s x f => BM.ofO (fieldAddrA P s (ev x) f) fun v => just nid v
  | .field s x f => BM.ofO (fieldA P s (ev x) f) fun v => just nid v
  | .indexAddr t x i => BM.ofO (indexAddrA P t (ev x) (ev i)) fun v => just nid v
  | .index t x i =>
    match P.underlying t, ev x, ev i with
    | some .string, .d (.str s), .d (.int _ i) => if 0 ≤ i ∧ i < s.size then just nid (.d (.int .u8 (s.data.toList.getD i.toNat 0).toNat)) else .fail
    | _, _, _ => .fail
  | .extract x i => match ev x with
    | .tup vs => BM.ofO (vs[i]?) fun v => just nid v
    | .d (.tup vs) => BM.ofO (vs[i]?) fun v => just nid (.d v)
    | _ => .fail
  | .typeAssert x _ t ok =>
    match P.underlying t, ev x with
    | some (.interface _), _ => .fail
    | some _, .d (.iface u v) => BM.ofO (tinfo P t) fun ti =>
        if u = t then just nid (.d (if ok then .tup [v, .bool true] else v)) else if ok then just nid (.d (.tup [ti.zero, .bool false])) else .fail
    | _, _ => .fail
  | .panic x => match ev x with
    | .d (.iface t v) => .pan nid (.iface t v)
    | .iface t (.agg cs) => (match allD cs with | some ds => .pan nid (.iface t (.agg ds)) | none => .fail)
    | _ => .fail
  | .call { callee := .value fv, args, .. } =>
    match ev fv with
    | .d (.fn f caps) => .call nid f (args.toList.map ev ++ caps.map .d)
    | .fn f caps => .call nid f (args.toList.map ev ++ caps)
    | _ => .fail
  | .call { callee := .builtin .append, args, argTypes } =>
    if args.size = 2 ∧ argTypes.size = 2 then
      match P.underlying (argTypes.getD 0 0), P.underlying (argTypes.getD 1 0) with
      | some (.slice e), some (.slice _) => BM.ofO (tinfo P e) fun ti => appendB nid ti e (ev (args.getD 0 (.tmp 0))) (ev (args.getD 1 (.tmp 0)))
      | _, _ => .fail
    else .fail
  | .call { callee := .builtin .len, args, argTypes } => if args.size = 1 ∧ argTypes.size = 1 then BM.ofO (lenA P (argTypes.getD 0 0) (ev (args.getD 0 (.tmp 0)))) fun v => just nid (.d v) else .fail
  | .call { callee := .builtin .min, args, .. } => if args.size = 2 then
      (match ev (args.getD 0 (.tmp 0)), ev (args.getD 1 (.tmp 0)) with
      | .d (.int k x), .d (.int _ y) => just nid (.d (.int k (if y < x then y else x)))
      | _, _ => .fail) else .fail
  | .call { callee := .builtin .max, args, .. } => if args.size = 2 then
      (match ev (args.getD 0 (.tmp 0)), ev (args.getD 1 (.tmp 0)) with
      | .d (.int k x), .d (.int _ y) => just nid (.d (.int k (if y > x then y else x)))
      | _, _ => .fail) else .fail
  | .call { callee := .builtin .cap, args, argTypes } => if args.size = 1 ∧ argTypes.size = 1 then
      (match P.underlying (argTypes.getD 0 0), ev (args.getD 0 (.tmp 0)) with
      | some (.slice _), .d .snil => just nid (.d (.int .i64 0))
      | some (.slice _), .zc => just nid (.d (.int .i64 0))
      | _, _ => .fail) else .fail
  | .call { callee := .builtin .copy, args, argTypes } =>
    if args.size = 2 ∧ argTypes.size = 2 then
      match P.underlying (argTypes.getD 0 0) with
      | some (.slice e) => BM.ofO (tinfo P e) fun ti => copyB nid ti (ev (args.getD 0 (.tmp 0))) (ev (args.getD 1 (.tmp 0)))
      | _ => .fail
    else .fail
  | _ => .fail

/-- What comes of an operation, in one step each; tx: in the order of the text. -/
def wpB (E : CallE) (tx : Bool) : BM → (Nat → Option LB) → (Res → Prop) → (DV → Res → Prop) → Prop
  | .pure r, lh, K, _ => K (r.res lh)
  | .get b k, lh, K, KP => match lh b with | some x => wpB E tx (k x) lh K KP | none => False
  | .call nid f args, lh, K, KP => (∃ r rs, E.ok lh nid f args rs r ∧ K (r.res lh)) ∨ (tx = true ∧ ∃ r, E.okT lh nid f args r ∧ K r) ∨ (tx = true ∧ ∃ d r, E.pan lh nid f args d r ∧ KP d r) ∨ (∃ d rs, E.panD lh f args rs d ∧ KP d ⟨.undef, lh, nid⟩)
  | .pan nid d, lh, _, KP => KP d ⟨.undef, lh, nid⟩
  | .fail, _, _, _ => False
end Go.Proofs.Am
