/- The walk over data that is left as it stands: what is to be shown is handed back as a tree. -/
import Derived.Test.YtmjkaekhjmlnbaaGreatDoorAmRunOk
set_option linter.unusedVariables false
set_option linter.unusedSimpArgs false
namespace Go.Proofs.Am
open Go Go.RowKit

/-- What a type is, as far as a walk asks. -/
inductive UK where
  | int (k : IntKind) | str | bool | slice (e : Nat) | arr (n e : Nat) | struct | other
deriving DecidableEq

def ukOf : Option TypeDesc → UK
  | some (.int k) => .int k
  | some .string => .str
  | some .bool => .bool
  | some (.slice e) => .slice e
  | some (.array n e) => .arr n e
  | some (.struct _) => .struct
  | _ => .other

structure TRow where
  ti : Option TI
  un : UK
  flds : List (Nat × Nat)
  pl : Option (List (Nat × Nat))

def fldsOf : Option TypeDesc → List (Nat × Nat)
  | some (.struct fs) => fs.toList.map fun x => (x.offset, x.type)
  | some (.array n e) => List.replicate n (0, e)
  | _ => []

def rowOf (P : Program) (t : TypeId) : TRow := ⟨tinfo P t, ukOf (P.underlying t), fldsOf (P.underlying t), places P t⟩

def lookT (l : List (Nat × TRow)) (t : Nat) : Option TRow :=
  match l with
  | [] => none
  | (k, r) :: rest => if k = t then some r else lookT rest t

def TabOk (P : Program) (T : Nat → Option TRow) : Prop := ∀ t r, T t = some r → rowOf P t = r

theorem tabOk_list {P : Program} : ∀ {l : List (Nat × TRow)}, l.map (fun p => rowOf P p.1) = l.map (·.2) → TabOk P (lookT l)
  | [], _, t, r, h => by simp [lookT] at h
  | (k, q) :: rest, hl, t, r, h => by
    simp only [List.map_cons, List.cons.injEq] at hl
    simp only [lookT] at h
    split at h
    · rename_i hk; subst hk; cases h; exact hl.1
    · exact tabOk_list hl.2 t r h

/-- Operations on data, as names. -/
structure SI where
  isBool : DV → Bool
  isBU : DV → Bool
  isB : DV → Bool → Bool
  bool : DV → Bool
  grd : DV → Bool → Bool
  sel : Bool → DV → DV → DV
  selA : Bool → AV → AV
  imp : Bool → Bool → Bool
  and : Bool → Bool → Bool
  bin : BinOp → DV → DV → DV
  binOk : BinOp → DV → DV → Bool
  ibin : IntKind → BinOp → DV → DV → DV
  isI : IntKind → DV → Bool
  sbin : BinOp → DV → DV → DV
  not : DV → DV
  bbin : BinOp → DV → DV → DV
  bbinOk : BinOp → DV → DV → Bool
  un : UnOp → DV → DV
  unOk : UnOp → DV → Bool
  conv : IntKind → DV → DV
  isInt : DV → Bool
  isStr : DV → Bool
  cell : DV → Nat → DV
  isAgg : DV → Nat → Bool
  ones : DV → Nat → Bool
  one : DV → Bool
  get : List DV → Nat → DV
  dl : Nat → Bool → DV → Nat → DV
  dlOk : Nat → Bool → DV → Nat → Bool
  lst : DV → List DV
  nat : DV → Nat
  off : Nat → DV → Nat
  ixOk : DV → DV → Nat → Bool
  len : DV → DV
  isSl : DV → Bool
  isNil : DV → Bool
  slen : DV → DV
  at_ : DV → DV → DV
  atOk : DV → DV → Bool
  sub : DV → Option DV → Option DV → DV
  subOk : DV → Option DV → Option DV → Bool
  sl : Nat → DV → Option DV → Option DV → DV
  slOk : Nat → DV → Option DV → Option DV → Bool
  news : DV → List AV
  newsOk : Nat → DV → Bool
  inR : DV → Nat → Bool
  le : Nat → Nat → Bool
  bytes : DV → List AV
  blen : DV → Nat
  dlen : DV → Nat
  row : Nat → List AV → List AV → List AV
  dget : List AV → Nat → DV
  ext : DV → Nat → DV
  tupOk : DV → Nat → Bool
  isDat : List AV → Nat → Bool
  allBel : Nat → List AV → Bool

def asBool : DV → Bool
  | .bool b => b
  | _ => false
def asInt : DV → Int
  | .int _ n => n
  | _ => 0
def asStr : DV → ByteArray
  | .str s => s
  | _ => ⟨#[]⟩
def lstD : DV → List DV
  | .sim l => l
  | _ => []
def isBoolD : DV → Bool
  | .bool _ => true
  | _ => false
def isIntD : DV → Bool
  | .int _ _ => true
  | _ => false
def isStrD : DV → Bool
  | .str _ => true
  | _ => false
def isSlD : DV → Bool
  | .sim _ | .snil => true
  | _ => false
def isSnil : DV → Bool
  | .snil => true
  | _ => false
def isBUD : DV → Bool
  | .bool _ | .tup [] => true
  | _ => false
def grdD : DV → Bool → Bool
  | .bool b, w => b == w
  | _, _ => false

/-- Whole numbers and strings. -/
def binV (op : BinOp) (x y : DV) : Option DV :=
  match x, y with
  | .int k a, .int k' b =>
    match op with
    | .shl => if b < 0 then none else some (.int k (k.wrap (a * 2 ^ (min b.toNat k.bits))))
    | .shr => if b < 0 then none else some (.int k (a.fdiv (2 ^ (min b.toNat k.bits))))
    | _ => if k = k' then intOp op k a b else none
  | .str a, .str b => strOp op a b
  | _, _ => none

def eqI (a b : Int) : Bool := decide (a = b)
def ltI (a b : Int) : Bool := decide (a < b)
def leI (a b : Int) : Bool := decide (a ≤ b)
def eqB (a b : ByteArray) : Bool := decide (a = b)
def ltB (a b : ByteArray) : Bool := Op.bytesLess a.data.toList b.data.toList

/-- Whole numbers, whatever stands there. -/
def ibinD (k : IntKind) (op : BinOp) (x y : DV) : DV :=
  match op with
  | .add => .int k (k.wrap (asInt x + asInt y))
  | .sub => .int k (k.wrap (asInt x - asInt y))
  | .mul => .int k (k.wrap (asInt x * asInt y))
  | .eql => .bool (eqI (asInt x) (asInt y))
  | .neq => .bool (!eqI (asInt x) (asInt y))
  | .lss => .bool (ltI (asInt x) (asInt y))
  | .leq => .bool (leI (asInt x) (asInt y))
  | .gtr => .bool (ltI (asInt y) (asInt x))
  | .geq => .bool (leI (asInt y) (asInt x))
  | _ => .inil

def isIK (k : IntKind) : DV → Bool
  | .int k' _ => decide (k' = k)
  | _ => false

def sbinD (op : BinOp) (x y : DV) : DV :=
  match op with
  | .eql => .bool (eqB (asStr x) (asStr y))
  | .neq => .bool (!eqB (asStr x) (asStr y))
  | .lss => .bool (ltB (asStr x) (asStr y))
  | .gtr => .bool (!(ltB (asStr x) (asStr y) || eqB (asStr x) (asStr y)))
  | _ => .inil

def plainOp : BinOp → Bool
  | .add | .sub | .mul | .eql | .neq | .lss | .leq | .gtr | .geq => true
  | _ => false
def plainSOp : BinOp → Bool
  | .eql | .neq | .lss | .gtr => true
  | _ => false

def bbinV (op : BinOp) (x y : DV) : Option DV :=
  match x, y with
  | .bool a, .bool b => eqOp op (a == b)
  | _, _ => none

def unV (op : UnOp) (x : DV) : Option DV :=
  match op, x with
  | .not, .bool b => some (.bool (!b))
  | .neg, .int k n => some (.int k (k.wrap (0 - n)))
  | _, _ => none

def convV (k : IntKind) : DV → DV
  | .int _ n => .int k (k.wrap n)
  | _ => .inil

def dload' (sz : Nat) (agg : Bool) (e : DV) (fo : Nat) : Option DV := dload ⟨sz, agg, 0, .inil⟩ e fo

def atV (s i : DV) : Option DV :=
  match s, i with
  | .str s, .int _ i => if 0 ≤ i ∧ i < s.size then some (.int .u8 (s.data.toList.getD i.toNat 0).toNat) else none
  | _, _ => none

def subV (s : DV) (lo hi : Option DV) : Option DV :=
  match s with
  | .str s => (sliceBoundsA s.size s.size (lo.map .d) (hi.map .d)).map fun (l, h) => .str (s.extract l h)
  | _ => none

def slV (sz : Nat) (x : DV) (lo hi : Option DV) : Option DV :=
  match x with
  | .sim els => if els.all (fun x => x.cells.length = sz) then (sliceBoundsA els.length els.length (lo.map .d) (hi.map .d)).map fun (l, h) => .sim ((els.drop l).take (h - l)) else none
  | .snil => (sliceBoundsA 0 0 (lo.map .d) (hi.map .d)).map fun _ => .snil
  | _ => none

/-- The byte at a place. -/
def byt (s : ByteArray) (i : Nat) : Int := ((s.data.toList.getD i 0).toNat : Int)

def loN (lo : Option DV) : Int := match lo with | some x => asInt x | none => 0
def hiN (n : Nat) (hi : Option DV) : Int := match hi with | some x => asInt x | none => n
def intO (o : Option DV) : Bool := match o with | some x => isIntD x | none => true

/-- A part of a struct, or all of it. -/
def dlV (sz : Nat) (agg : Bool) (e : DV) (fo : Nat) : DV :=
  if agg then (if fo = 0 ∧ e.cells.length = sz then e else .agg ((e.cells.drop fo).take sz)) else e.cells.getD fo .inil

def subD (s : DV) (lo hi : Option DV) : DV := .str ((asStr s).extract (loN lo).toNat (hiN (asStr s).size hi).toNat)
def slD (x : DV) (lo hi : Option DV) : DV := if isSnil x then .snil else .sim (((lstD x).drop (loN lo).toNat).take ((hiN (lstD x).length hi).toNat - (loN lo).toNat))

def tupD : DV → List DV
  | .tup l => l
  | _ => []

def dgetA (l : List AV) (i : Nat) : DV := match l.getD i .undef with
  | .d x => x
  | _ => .inil
def isDatA : AV → Bool
  | .d x => avOne (.d x)
  | _ => false

/-- What the names stand for. -/
def std : SI := {
  isBool := isBoolD
  isBU := isBUD
  isB x b := isBoolD x && (asBool x == b)
  bool := asBool
  grd := grdD
  sel b x y := if b then x else y
  selA b v := if b then v else .d (.tup [])
  imp a b := !a || b
  and a b := a && b
  bin op x y := (binV op x y).getD .inil
  binOk op x y := (binV op x y).isSome
  ibin k op x y := ibinD k op x y
  isI k x := isIK k x
  sbin op x y := sbinD op x y
  not x := .bool (!asBool x)
  bbin op x y := (bbinV op x y).getD .inil
  bbinOk op x y := (bbinV op x y).isSome
  un op x := (unV op x).getD .inil
  unOk op x := (unV op x).isSome
  conv k x := convV k x
  isInt := isIntD
  isStr := isStrD
  cell x i := x.cells.getD i .inil
  isAgg x n := dIsAgg x && x.cells.length == n
  ones x n := (x.cells.length == n) && (AV.d x).cells.all avOne
  one x := avOne (.d x)
  get l i := l.getD i .inil
  dl sz agg e fo := dlV sz agg e fo
  dlOk sz agg e fo := if agg then dIsAgg e && decide (fo + sz ≤ e.cells.length) else decide (fo < e.cells.length)
  lst := lstD
  nat x := (asInt x).toNat
  off n x := n + (asInt x).toNat
  ixOk x i sz := isIntD i && decide (0 ≤ asInt i) && decide (asInt i < (lstD x).length) && decide (((lstD x).getD (asInt i).toNat .inil).cells.length = sz)
  len x := .int .i64 (lstD x).length
  isSl := isSlD
  isNil := isSnil
  slen x := .int .i64 (asStr x).size
  at_ s i := .int .u8 (byt (asStr s) (asInt i).toNat)
  atOk s i := isStrD s && isIntD i && decide (0 ≤ asInt i) && decide (asInt i < (asStr s).size)
  sub s lo hi := subD s lo hi
  subOk s lo hi := isStrD s && intO lo && intO hi && decide (0 ≤ loN lo) && decide (loN lo ≤ hiN (asStr s).size hi) && decide (hiN (asStr s).size hi ≤ (asStr s).size)
  sl sz x lo hi := slD x lo hi
  slOk sz x lo hi := isSlD x && (lstD x).all (fun y => decide (y.cells.length = sz)) && intO lo && intO hi && decide (0 ≤ loN lo) && decide (loN lo ≤ hiN (lstD x).length hi) && decide (hiN (lstD x).length hi ≤ (lstD x).length)
  news x := (lstD x).map .d
  newsOk sz x := match x with | .sim els => els.all (fun x => x.cells.length = sz) | _ => false
  inR x n := isIntD x && decide (0 ≤ asInt x) && decide (asInt x < n)
  le a b := decide (a ≤ b)
  bytes x := bytesA (asStr x)
  blen x := (asStr x).size
  dlen x := (lstD x).length
  row n l r := l.take n ++ r
  dget l i := dgetA l i
  ext x i := (tupD x).getD i .inil
  tupOk x i := decide (i < (tupD x).length)
  isDat l i := decide (i < l.length) && isDatA (l.getD i .undef)
  allBel m l := l.all (bel m 8) }

/-- An operation's outcome, with what is to be shown. -/
inductive TM where
  | val (v : AV)
  | pure (r : OpR)
  | get (b : Nat) (k : LB → TM)
  | call (f : FuncId) (args : List AV)
  | pan (d : DV)
  | fail
  | req (b : Bool) (m : TM)
  | ite (b : Bool) (x y : TM)

def TM.le (nid : Nat) : TM → BM → Prop
  | .val v, B => B = just nid v
  | .pure r, B => B = .pure r
  | .get b k, B => ∃ k', B = .get b k' ∧ ∀ x, (k x).le nid (k' x)
  | .call f args, B => B = .call nid f args
  | .pan d, B => B = .pan nid d
  | .fail, _ => True
  | .req b m, B => b = true → m.le nid B
  | .ite b x y, B => (b = true → x.le nid B) ∧ (b = false → y.le nid B)

/-- The cells of a value of so many, a struct's (agg) or one alone; what is to be shown of it. -/
def cellsT (I : SI) (agg : Bool) (sz : Nat) : AV → List AV × Bool
  | .agg cs => (cs, true)
  | .d x => if agg then ((List.range sz).map fun i => .d (I.cell x i), I.isAgg x sz) else ([.d x], I.one x)
  | v => ([v], true)

/-- Is it a struct, its type being one or not? -/
def aggS (agg : Bool) : AV → Bool
  | .agg _ => true
  | .d _ => agg
  | _ => false

/-- All cells stand for themselves. -/
def onesT (I : SI) : List AV → Bool
  | [] => true
  | .d x :: r => I.and (I.one x) (onesT I r)
  | .agg _ :: _ | .tup _ :: _ | .undef :: _ => false
  | _ :: r => onesT I r

def fillT (I : SI) (T : Nat → Option TRow) (pl : List (Nat × Nat)) (fl : List (Nat × Nat)) : List AV → List (Nat × AV) → Option (Bool × List AV)
  | cs, [] => some (true, cs)
  | cs, (f, v) :: rest => match pl[f]?, fl[f]? with
    | some (off, sz), some (_, ft) => match (T ft).bind (·.ti) with
      | some ti => match cellsT I ti.agg ti.sz v with
        | (vs, b) => if vs.length = sz ∧ off + sz ≤ cs.length ∧ ti.sz = sz then
            match fillT I T pl fl (cs.take off ++ vs ++ cs.drop (off + sz)) rest with
            | some (b', cs') => some (I.and (I.and b (onesT I vs)) b', cs')
            | none => none
          else none
      | none => none
    | _, _ => none

def fillLT (I : SI) (agg : Bool) (es : Nat) : List AV → List (Nat × AV) → Option (Bool × List AV)
  | els, [] => some (true, els)
  | els, (i, v) :: rest => match cellsT I agg es v with
    | (vs, b) => if i < els.length ∧ vs.length = es then
        match fillLT I agg es (els.set i v) rest with
        | some (b', els') => some (I.and (I.and b (onesT I vs)) b', els')
        | none => none
      else none

/-- A part of an element of a local block. -/
def aloadT (I : SI) (ti : TI) (n : Nat) (aggE : Bool) (e : AV) (fo : Nat) : TM :=
  match e with
  | .agg cs => if ti.agg then
      (if fo = 0 ∧ cs.length = ti.sz then .val (.agg cs) else if fo + ti.sz ≤ cs.length then .val (.agg ((cs.drop fo).take ti.sz)) else .fail)
      else (match cs[fo]? with | some v => .val v | none => .fail)
  | .d x => if ti.agg then
      (if fo = 0 ∧ n = ti.sz then .req (I.isAgg x n) (.val (.d x))
       else if fo + ti.sz ≤ n then .req (I.isAgg x n) (.val (.agg ((List.range ti.sz).map fun j => .d (I.cell x (fo + j))))) else .fail)
      else if aggE then (if fo < n then .req (I.isAgg x n) (.val (.d (I.cell x fo))) else .fail)
      else if fo = 0 then .req (I.one x) (.val (.d x)) else .fail
  | .undef => .fail
  | v => if ti.agg = false ∧ fo = 0 then .val v else .fail

/-- An element in which a part is another value: cells vs in place of those from fo on. -/
def astoreT (I : SI) (n : Nat) (aggE aggV : Bool) (e : AV) (fo : Nat) (v : AV) (vs : List AV) : Option (Bool × AV) :=
  match cellsT I aggE n e with
  | (es, b) => if es.length = n then
      if fo = 0 ∧ vs.length = n then (if n = 1 ∧ aggS aggV v = false ∧ aggS aggE e = true then some (b, .agg vs) else some (b, v)) else some (b, .agg (es.take fo ++ vs ++ es.drop (fo + vs.length)))
    else none

def rowTi (T : Nat → Option TRow) (t : Nat) : Option TI := (T t).bind (·.ti)
def rowUn (T : Nat → Option TRow) (t : Nat) : UK := match T t with | some r => r.un | none => .other

/-- Numbers that stand in the text. -/
def litOf : Operand → Option Nat
  | .const (.int _ (.ofNat n)) => some n
  | _ => none

def boundsD (ev : Operand → AV) : Option Operand → Option (Option DV)
  | none => some none
  | some x => match ev x with | .d v => some (some v) | _ => none

def newsT (I : SI) (sz : Nat) (x : AV) (k : List AV → Nat → TM) : TM :=
  match x with
  | .d v => .req (I.newsOk sz v) (k (I.news v) (I.dlen v))
  | .slc b es off n => .get b fun q => if off + n ≤ q.els.length ∧ es = sz then k ((q.els.drop off).take n) n else .fail
  | _ => .fail

/-- A new row of so many elements, or none. -/
def freshT (I : SI) (nid : Nat) (ti : TI) (e : TypeId) (z : AV) (xs : List AV) (n : Nat) : TM :=
  .ite (I.le n 0) (.val z) (.req (I.le n big) (.pure ⟨.slc nid ti.sz 0 n, [(nid, some ⟨xs, ti.sz, e, true, true⟩)], nid + 1⟩))

def appT (I : SI) (nid : Nat) (ti : TI) (e : TypeId) (s : AV) (xs : List AV) (n : Nat) : TM :=
  match s with
  | .d v => .req (I.isNil v) (freshT I nid ti e (.d .snil) xs n)
  | .zc => freshT I nid ti e .zc xs n
  | .slc b es 0 len => .get b fun q =>
      if q.live = true ∧ q.plain = true ∧ q.ty = e ∧ es = ti.sz then
        .req (I.and (I.le len q.els.length) (I.le (len + n) big)) (.pure ⟨.slc nid ti.sz 0 (len + n), [(b, none), (nid, some ⟨I.row len q.els xs, ti.sz, e, true, true⟩)], nid + 1⟩) else .fail
  | _ => .fail

/-- What an operation does. -/
def opT (I : SI) (T : Nat → Option TRow) (nid : Nat) (ev : Operand → AV) (o : Op) : TM :=
  match o with
  | .move x | .assign x => .val (ev x)
  | .pick c a b => match ev c with
    | .d y => .req (I.isBool y) (match ev a, ev b with
      | .d u, .d v => .val (.d (I.sel (I.bool y) u v))
      | u, v => .ite (I.bool y) (.val u) (.val v))
    | _ => .fail
  | .alloc t => match rowTi T t with
    | some ti => .pure ⟨.loc nid ti.sz 0 0, [(nid, some ⟨[.d ti.zero], ti.sz, t, true, true⟩)], nid + 1⟩
    | none => .fail
  | .box t x => match rowTi T t with
    | some ti => match cellsT I ti.agg ti.sz (ev x) with
      | (cs, b) => if cs.length = ti.sz then .req (I.and b (onesT I cs)) (.pure ⟨.loc nid ti.sz 0 0, [(nid, some ⟨[ev x], ti.sz, t, true, true⟩)], nid + 1⟩) else .fail
    | none => .fail
  | .build t parts => match T t with
    | some ⟨some ti, _, fl, some pl⟩ => if ti.agg = true then
        (match fillT I T pl fl (ti.zero.cells.map .d) (parts.toList.map fun (i, x) => (i, ev x)) with
        | some (b, cs) => .req b (.val (.agg cs))
        | none => .fail) else .fail
    | _ => .fail
  | .buildSlice t len parts => match rowUn T t with
    | .slice e => match rowTi T e with
      | some ti => if len * ti.sz ≤ 16777216 ∧ 0 < ti.sz then
          (match fillLT I ti.agg ti.sz (List.replicate len (.d ti.zero)) (parts.toList.map fun (i, x) => (i, ev x)) with
          | some (b, els) => .req b (.pure ⟨.slc nid ti.sz 0 len, [(nid, some ⟨els, ti.sz, e, true, true⟩)], nid + 1⟩)
          | none => .fail) else .fail
      | none => .fail
    | _ => .fail
  | .load t a => match rowTi T t with
    | some ti => (match ev a with
      | .d (.pim els i fo) => .req (I.dlOk ti.sz ti.agg (I.get els i) fo) (.val (.d (I.dl ti.sz ti.agg (I.get els i) fo)))
      | .loc b _ i fo => .get b fun k => if k.plain = false then
          (if ti.agg = false ∧ fo = 0 then .req (I.isDat k.els i) (.val (.d (I.dget k.els i))) else .fail)
        else if i < k.els.length then
          (match rowTi T k.ty with | some te => if te.sz = k.es then aloadT I ti k.es te.agg (k.els.getD i .undef) fo else .fail | none => .fail) else .fail
      | _ => .fail)
    | none => .fail
  | .store t a x => match rowTi T t with
    | some ti => (match ev a with
      | .loc b _ i fo => .get b fun k => if k.live = true ∧ i < k.els.length ∧ fo + ti.sz ≤ k.es then
          (match rowTi T k.ty, cellsT I ti.agg ti.sz (ev x) with
          | some te, (vs, c) => if te.sz = k.es ∧ vs.length = ti.sz then
              (match astoreT I k.es te.agg ti.agg (k.els.getD i .undef) fo (ev x) vs with
              | some (c', e') => .req (I.and c (I.and c' (onesT I vs))) (.pure ⟨.undef, [(b, some { k with els := k.els.set i e' })], nid⟩)
              | none => .fail) else .fail
          | none, _ => .fail) else .fail
      | _ => .fail)
    | none => .fail
  | .nilCheck x => match ev x with
    | .loc b es i fo => .val (.loc b es i fo)
    | .d (.pim els i fo) => .val (.d (.pim els i fo))
    | .d (.fn f cs) => .val (.d (.fn f cs))
    | .fn f cs => .val (.fn f cs)
    | _ => .fail
  | .binOp op t x y _ => match ev x, ev y with
    | .d u, .d v => (match rowUn T t with
      | .int k => if plainOp op = true then .req (I.isI k u) (.req (I.isI k v) (.val (.d (I.ibin k op u v)))) else .req (I.binOk op u v) (.val (.d (I.bin op u v)))
      | .str => if plainSOp op = true then .req (I.isStr u) (.req (I.isStr v) (.val (.d (I.sbin op u v)))) else .req (I.binOk op u v) (.val (.d (I.bin op u v)))
      | .bool => .req (I.bbinOk op u v) (.val (.d (I.bbin op u v)))
      | _ => .fail)
    | _, _ => .fail
  | .unOp op _ x => match ev x with
    | .d u => (match op with
      | .not => .req (I.isBool u) (.val (.d (I.not u)))
      | op => .req (I.unOk op u) (.val (.d (I.un op u))))
    | _ => .fail
  | .convert s t x => match rowUn T s, rowUn T t, ev x with
    | .int _, .int k, .d u => .req (I.isInt u) (.val (.d (I.conv k u)))
    | .str, .slice e, .d u => (match rowUn T e with
      | .int .u8 => .req (I.isStr u) (.pure ⟨.slc nid 1 0 (I.blen u), [(nid, some ⟨I.bytes u, 1, e, true, false⟩)], nid + 1⟩)
      | _ => .fail)
    | _, _, _ => .fail
  | .makeFunc (.func f) first caps => if first.size = 0 then (match allD (caps.toList.map ev) with | some ds => .val (.d (.fn f ds)) | none => .val (.fn f (caps.toList.map ev))) else .fail
  | .slice t x lo hi none => match ev x, boundsD ev lo, boundsD ev hi with
    | .d u, some l, some h => (match rowUn T t with
      | .str => .req (I.subOk u l h) (.val (.d (I.sub u l h)))
      | .slice e => (match rowTi T e with | some ti => .req (I.slOk ti.sz u l h) (.val (.d (I.sl ti.sz u l h))) | none => .fail)
      | _ => .fail)
    | .slc b es off len, some none, some none => (match rowUn T t with
      | .slice e => (match rowTi T e with | some ti => if ti.sz = es ∧ off = 0 then .val (.slc b es 0 len) else .fail | none => .fail)
      | _ => .fail)
    | _, _, _ => .fail
  | .fieldAddr s x f => match T s with
    | some r => (match r.un, r.flds[f]? with
      | .struct, some (off, ft) => (match rowTi T ft with
        | some ti => if ti.sz = 0 then .fail else
          (match ev x with
          | .loc b es i fo => .val (.loc b es i (fo + off))
          | .d (.pim els i fo) => .val (.d (.pim els i (fo + off)))
          | _ => .fail)
        | none => .fail)
      | _, _ => .fail)
    | none => .fail
  | .field s x f => match T s with
    | some r => (match r.un, r.flds[f]?, r.ti with
      | .struct, some (off, ft), some ts => (match rowTi T ft, ev x with
        | some ti, .agg cs => aloadT I ti ts.sz true (.agg cs) off
        | some ti, .d u => aloadT I ti ts.sz true (.d u) off
        | _, _ => .fail)
      | _, _, _ => .fail)
    | none => .fail
  | .indexAddr t x i => match rowUn T t with
    | .slice e => (match rowTi T e with
      | some ti => (match ev x, ev i with
        | .d u, .d j => .req (I.ixOk u j ti.sz) (.val (.d (.pim (I.lst u) (I.nat j) 0)))
        | .slc b es off len, .d j => if ti.sz = es then
            (match litOf i with
            | some n => if n < len then .val (.loc b es (off + n) 0) else .fail
            | none => .req (I.inR j len) (.val (.loc b es (I.off off j) 0))) else .fail
        | _, _ => .fail)
      | none => .fail)
    | .arr n e => (match rowTi T e, ev x, litOf i with
      | some ti, .loc b es k fo, some j => if j < n then .val (.loc b es k (fo + j * ti.sz)) else .fail
      | some ti, .d (.pim els k fo), some j => if j < n then .val (.d (.pim els k (fo + j * ti.sz))) else .fail
      | _, _, _ => .fail)
    | _ => .fail
  | .index t x i => match rowUn T t, ev x, ev i with
    | .str, .d u, .d j => .req (I.atOk u j) (.val (.d (I.at_ u j)))
    | _, _, _ => .fail
  | .extract x i => match ev x with
    | .tup vs => (match vs[i]? with | some v => .val v | none => .fail)
    | .d u => .req (I.tupOk u i) (.val (.d (I.ext u i)))
    | _ => .fail
  | .call { callee := .value fv, args, .. } => match ev fv with
    | .d (.fn f caps) => .call f (args.toList.map ev ++ caps.map .d)
    | .fn f caps => .call f (args.toList.map ev ++ caps)
    | _ => .fail
  | .call { callee := .builtin .append, args, argTypes } =>
    if args.size = 2 ∧ argTypes.size = 2 then
      match rowUn T (argTypes.getD 0 0), rowUn T (argTypes.getD 1 0) with
      | .slice e, .slice _ => (match rowTi T e with
        | some ti => if ti.bytes ≤ 32768 ∧ 0 < ti.sz then
            (match ev (args.getD 1 (.tmp 0)) with
            | .d v => .ite (I.isNil v) (match ev (args.getD 0 (.tmp 0)) with
                | .slc b es off len => .val (.slc b es off len)
                | .zc => .val .zc
                | .d u => .req (I.isSl u) (.val (.d u))
                | _ => .fail) (newsT I ti.sz (.d v) (appT I nid ti e (ev (args.getD 0 (.tmp 0)))))
            | x => newsT I ti.sz x (appT I nid ti e (ev (args.getD 0 (.tmp 0))))) else .fail
        | none => .fail)
      | _, _ => .fail
    else .fail
  | .call { callee := .builtin .len, args, argTypes } => if args.size = 1 ∧ argTypes.size = 1 then
      (match rowUn T (argTypes.getD 0 0), ev (args.getD 0 (.tmp 0)) with
      | .str, .d u => .req (I.isStr u) (.val (.d (I.slen u)))
      | .slice _, .d u => .req (I.isSl u) (.val (.d (I.len u)))
      | .slice _, .slc _ _ _ len => .val (.d (.int .i64 len))
      | .slice _, .zc => .val (.d (.int .i64 0))
      | _, _ => .fail) else .fail
  | _ => .fail

end Go.Proofs.Am
