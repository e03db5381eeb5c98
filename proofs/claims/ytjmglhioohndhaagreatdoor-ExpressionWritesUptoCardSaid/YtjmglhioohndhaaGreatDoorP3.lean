/- Code walked over data as it stands. -/
import Derived.Test.YtjmglhioohndhaaGreatDoorP2
import Derived.Test.YtjmglhioohndhaaGreatDoorProg
import Derived.KernelRfl
import Derived.Shelf.Small.Utf8
import Derived.Shelf.Small.Strs
import Derived.Shelf.Strings.Search1
import Derived.Shelf.Strings.Search2
import Derived.Shelf.Strings.Search3

set_option linter.unusedVariables false
set_option linter.unusedSimpArgs false
namespace Go.Proofs.Am
open Go Go.RowKit

/-- Slots, as a tree. -/
inductive EM where
  | nil
  | node (v : AV) (a b c d : EM)

def EM.get : EM → Nat → AV
  | .nil, _ => .undef
  | .node v a b c d, n => match n with
    | 0 => v
    | m + 1 => match m % 4 with
      | 0 => a.get (m / 4)
      | 1 => b.get (m / 4)
      | 2 => c.get (m / 4)
      | _ => d.get (m / 4)

def EM.put : Nat → EM → Nat → AV → EM
  | 0, e, _, _ => e
  | k + 1, .nil, n, x => match n with
    | 0 => .node x .nil .nil .nil .nil
    | m + 1 => match m % 4 with
      | 0 => .node .undef (EM.put k .nil (m / 4) x) .nil .nil .nil
      | 1 => .node .undef .nil (EM.put k .nil (m / 4) x) .nil .nil
      | 2 => .node .undef .nil .nil (EM.put k .nil (m / 4) x) .nil
      | _ => .node .undef .nil .nil .nil (EM.put k .nil (m / 4) x)
  | k + 1, .node v a b c d, n, x => match n with
    | 0 => .node x a b c d
    | m + 1 => match m % 4 with
      | 0 => .node v (EM.put k a (m / 4) x) b c d
      | 1 => .node v a (EM.put k b (m / 4) x) c d
      | 2 => .node v a b (EM.put k c (m / 4) x) d
      | _ => .node v a b c (EM.put k d (m / 4) x)

def capE : Nat → Nat
  | 0 => 0
  | k + 1 => 1 + 4 * capE k

theorem mod4 (m : Nat) : m % 4 = 0 ∨ m % 4 = 1 ∨ m % 4 = 2 ∨ m % 4 = 3 := by omega

theorem EM.get_put (x : AV) : ∀ (k : Nat) (e : EM) (n j : Nat), n < capE k → (EM.put k e n x).get j = if j = n then x else e.get j
  | 0, e, n, j, h => by simp [capE] at h
  | k + 1, e, n, j, h => by
    simp only [capE] at h
    have ih := EM.get_put x k
    cases n with
    | zero => cases e <;> cases j <;> simp [EM.put, EM.get] <;> (split <;> rfl)
    | succ m =>
      have hm : m / 4 < capE k := by omega
      cases j with
      | zero => cases e <;> rcases mod4 m with h4 | h4 | h4 | h4 <;> simp [EM.put, EM.get, h4]
      | succ j =>
        by_cases he : j % 4 = m % 4
        · have hjm : (j + 1 = m + 1) = (j / 4 = m / 4) := by apply propext; omega
          simp only [hjm]
          cases e <;> rcases mod4 m with h4 | h4 | h4 | h4 <;> (rw [h4] at he; simp only [EM.put, EM.get, h4, he, ih _ _ _ hm])
        · rw [if_neg (by omega)]
          cases e <;> rcases mod4 m with h4 | h4 | h4 | h4 <;> rcases mod4 j with h5 | h5 | h5 | h5 <;> first
            | (exact absurd (h5.trans h4.symm) he)
            | simp only [EM.put, EM.get, h4, h5]

def LM.set : LM → Nat → Option LB → LM
  | [], b, y => [(b, y)]
  | (k, x) :: r, b, y => if k = b then (k, y) :: r else (k, x) :: LM.set r b y

theorem LM.get_set (b : Nat) (y : Option LB) : ∀ (l : LM) (j : Nat), (l.set b y).get j = if j = b then y else l.get j
  | [], j => by simp only [LM.set, LM.get]; by_cases h : b = j <;> simp [h, eq_comm]
  | (k, x) :: r, j => by
    simp only [LM.set]
    split
    · rename_i h; subst h
      simp only [LM.get]
      by_cases h : k = j
      · simp [h]
      · simp [h, Ne.symm h]
    · rename_i h
      simp only [LM.get, LM.get_set b y r j]
      by_cases h1 : k = j
      · simp only [h1, if_true]; rw [if_neg (by omega)]
      · simp [h1]

def LM.app : LM → List (Nat × Option LB) → LM
  | l, [] => l
  | l, (b, y) :: r => LM.app (l.set b y) r

theorem LM.get_app : ∀ (c : List (Nat × Option LB)) (l : LM), (l.app c).get = applyChg l.get c
  | [], l => rfl
  | (b, y) :: r, l => by
    have : (l.set b y).get = upd l.get b y := by funext j; rw [LM.get_set]; rfl
    simp only [LM.app]
    rw [LM.get_app r, this]; rfl

/-- A state of the walk, as data. -/
structure SS where
  env : EM
  lh : LM
  nid : Nat
  /-- The slot, and one, of the last test; 0: it has been written since. -/
  kt : Nat
  kb : Bool

def SS.st (s : SS) : St := ⟨s.env.get, s.lh.get, s.nid, []⟩

def clr (dst : Option Tmp) (kt : Nat) : Nat := match dst with | none => kt | some t => if kt = t + 1 then 0 else kt

def evE (E : EM) : Operand → AV
  | .tmp t => E.get t
  | .const v => match constD v with | some d => .d d | none => .undef
  | .global _ => .undef
  | .func f => .d (.fn f [])

theorem SS.eval_st (s : SS) : s.st.eval = evE s.env := by
  funext o; cases o <;> rfl

/-- What calls on data hand back, as names. -/
structure SF where
  ok : FuncId → List DV → Bool
  res : FuncId → List DV → DV
  sc : FuncId → List DV → Bool
  row : List AV → Nat → Nat → DV
  rowOk : List AV → Nat → Nat → Bool
  pn : FuncId → List DV → Bool
  pd : FuncId → List DV → DV
  fo : FuncId → List DV → Bool
  fra : FuncId → List DV → List AV
  frn : FuncId → List DV → Nat
  fes : FuncId → Nat
  fty : FuncId → Nat

/-- A call's outcome with local blocks. -/
structure RS where
  v : AV
  lh : LM
  nid : Nat

/-- Calls with local blocks. -/
abbrev SH := FuncId → Option (LM → Nat → List AV → Option (Bool × RS))

/-- Where a walk ends: at the function's end, or back at the head of a loop. -/
inductive Leaf where
  | ret (vs : List AV) (lh : LM) (nid : Nat)
  | back (id : Nat) (vs : List AV) (blks : LM)

/-- What is left of the code around. -/
inductive Fm where
  | seq (b : Code)
  | block (id : Nat)
  | scope
  | back (id : Nat) (ts bs : List Nat) (nid : Nat)

inductive Tree where
  | fin (l : Leaf)
  | ite (b : Bool) (x y : Tree)
  | req (b : Bool) (x : Tree)
  | loop (c : Code) (ts : List Nat) (vs : List AV) (blks : LM) (nid : Nat) (na : Nat) (stk : List Fm)
  | cut (c : Code) (σ : SS) (stk : List Fm)
  | pan (d : DV)
  | bad

def EM.of : List Nat → List AV → EM → EM
  | t :: ts, v :: vs, E => EM.of ts vs (EM.put 7 E t v)
  | _, _, E => E

def dRet (d : DV) : Ret := ⟨.d d, []⟩

def putS (E : EM) (dst : Option Tmp) (v : AV) (k : EM → Tree) : Tree :=
  match dst with
  | none => k E
  | some t => if t < 5461 then k (EM.put 7 E t v) else .bad

/-- Which calls have their blocks lent, their results having no memory: a row of the table says so. -/
def lendM (T : Nat → Option TRow) (f : FuncId) : Nat := if (T (2000000 + f)).isSome = true then (if (T (7000000 + f)).isSome = true then 2 else 1) else 0

/-- Arguments that are lent, as data: a row of data is named by the part of the block that it is. -/
def frzK1 (F : SF) (lh : LM) : List AV → (List DV → Tree) → Tree
  | [], k => k []
  | .d v :: r, k => frzK1 F lh r fun ds => k (v :: ds)
  | .slc b _ off n :: r, k => match lh.get b with
    | some q => .req (F.rowOk q.els off n) (frzK1 F lh r fun ds => k (F.row q.els off n :: ds))
    | none => .bad
  | _, _ => .bad

/-- The same, structs of such ones among them. -/
def frzK (F : SF) (lh : LM) : List AV → (List DV → Tree) → Tree
  | [], k => k []
  | .d v :: r, k => frzK F lh r fun ds => k (v :: ds)
  | .slc b _ off n :: r, k => match lh.get b with
    | some q => .req (F.rowOk q.els off n) (frzK F lh r fun ds => k (F.row q.els off n :: ds))
    | none => .bad
  | .agg cs :: r, k => frzK1 F lh cs fun es => frzK F lh r fun ds => k (.agg es :: ds)
  | _, _ => .bad

/-- Arguments that are given away, as data: rows of data alone, with the blocks that they are. -/
def frzG1 (F : SF) (lh : LM) : List AV → (List DV → List Nat → Tree) → Tree
  | [], k => k [] []
  | .d v :: r, k => frzG1 F lh r fun ds bs => k (v :: ds) bs
  | .slc b _ off n :: r, k => match lh.get b with
    | some q => .req (F.rowOk q.els off n) (.req (F.rowOk q.els 0 q.els.length) (frzG1 F lh r fun ds bs => k (F.row q.els off n :: ds) (b :: bs)))
    | none => .bad
  | _, _ => .bad
def frzG (F : SF) (lh : LM) : List AV → (List DV → List Nat → Tree) → Tree
  | [], k => k [] []
  | .d v :: r, k => frzG F lh r fun ds bs => k (v :: ds) bs
  | .slc b _ off n :: r, k => match lh.get b with
    | some q => .req (F.rowOk q.els off n) (.req (F.rowOk q.els 0 q.els.length) (frzG F lh r fun ds bs => k (F.row q.els off n :: ds) (b :: bs)))
    | none => .bad
  | .agg cs :: r, k => frzG1 F lh cs fun es bs => frzG F lh r fun ds bs' => k (.agg es :: ds) (bs ++ bs')
  | _, _ => .bad

/-- Which calls may give up: a row of the table says so. -/
def panM (T : Nat → Option TRow) (f : FuncId) : Bool := (T (3000000 + f)).isSome

/-- Which calls hand back a row of their own, and of what type its elements are: rows of the table say so. -/
def ftyM (T : Nat → Option TRow) (f : FuncId) : Nat := [0, 1, 2, 3, 4, 5, 6, 7, 8, 9].foldl (fun s i => if (T (5000000 + 16 * f + i)).isSome = true then s + 2 ^ i else s) 0
def frsM (T : Nat → Option TRow) (f : FuncId) : Option (Nat × Nat) := if (T (4000000 + f)).isSome = true then (match rowTi T (ftyM T f) with | some ti => some (ti.sz, ftyM T f) | none => none) else none

/-- A call that may give up. -/
def panD (F : SF) (M : FuncId → Bool) (f : FuncId) (ds : List DV) (X : DV → Tree) (k : Tree) : Tree := if M f = true then .ite (F.pn f ds) (X (F.pd f ds)) k else k

def callT (F : SF) (H : SH) (L : FuncId → Nat) (M : FuncId → Bool) (R : FuncId → Option (Nat × Nat)) (lh : LM) (nid : Nat) (f : FuncId) (args : List AV) (k : RS → Tree) : Tree :=
  match H f with
  | some g => match g lh nid args with
    | some (b, r) => .req b (k r)
    | none => .bad
  | none => match R f with
    | some (es, ty) => (match allD args with
      | some ds => .ite (F.fo f ds) (.req (Nat.beq (F.fes f) es) (.req (Nat.beq (F.fty f) ty) (k ⟨.slc nid es 0 (F.frn f ds), lh.set nid (some ⟨F.fra f ds, es, ty, true, true⟩), nid + 1⟩))) (.req (F.ok f ds) (k ⟨.d (F.res f ds), lh, nid⟩))
      | none => .bad)
    | none => if L f = 1 then frzK F lh args fun ds => panD F M f ds .pan (.req (F.ok f ds) (.req (F.sc f ds) (k ⟨.d (F.res f ds), lh, nid⟩)))
    else if L f = 2 then frzG F lh args fun ds bs => panD F M f ds .pan (.req (F.ok f ds) (k ⟨.d (F.res f ds), lh.app (deaden lh.get bs), nid⟩))
    else match args.mapM (frz lh.get 8) with
    | some ds => panD F M f ds .pan (.req (F.ok f ds) (k (if args.all isD then ⟨.d (F.res f ds), lh, nid⟩ else ⟨.d (F.res f ds), lh.app (deaden lh.get (args.flatMap (reach lh.get 8))), nid⟩)))
    | none => .bad

def tmT (F : SF) (H : SH) (L : FuncId → Nat) (M : FuncId → Bool) (R : FuncId → Option (Nat × Nat)) : TM → LM → Nat → (RS → Tree) → Tree
  | .val v, lh, nid, k => k ⟨v, lh, nid⟩
  | .pure r, lh, _, k => k ⟨r.v, lh.app r.chg, r.nid⟩
  | .get b f, lh, nid, k => match lh.get b with | some x => tmT F H L M R (f x) lh nid k | none => .bad
  | .call f args, lh, nid, k => callT F H L M R lh nid f args k
  | .req b m, lh, nid, k => .req b (tmT F H L M R m lh nid k)
  | .ite b x y, lh, nid, k => .ite b (tmT F H L M R x lh nid k) (tmT F H L M R y lh nid k)
  | .pan d, _, _, _ => .pan d
  | .fail, _, _, _ => .bad

/-- An operation that makes data alone and changes nothing. -/
def simpleT (I : SI) (F : SF) (H : SH) (M : FuncId → Bool) : TM → LM → Option (Bool × AV)
  | .val v, _ => some (true, v)
  | .get b f, lh => match lh.get b with | some x => simpleT I F H M (f x) lh | none => none
  | .call f args, _ => match H f with
    | some _ => none
    | none => if M f = true then none else match allD args with | some ds => some (F.ok f ds, .d (F.res f ds)) | none => none
  | .req b m, lh => match simpleT I F H M m lh with | some (c, x) => some (I.and b c, x) | none => none
  | _, _ => none

/-- What was made under a guard, as it is under that guard: slot by slot. -/
def gE (p : Nat × Bool × AV × Bool) : AV := .tup [.loc p.1 (cond p.2.1 1 0) 0 0, p.2.2.1]

def findG : List AV → Nat → Bool → Option AV
  | [], _, _ => none
  | .tup [.loc j' w' _ _, x] :: r, j, w => if j' = j then (if w' = cond w 1 0 then some x else findG r j w) else findG r j w
  | _ :: r, j, w => findG r j w

def lookG (G : EM) (j : Nat) (w : Bool) (t : Nat) : Option AV :=
  match G.get t with
  | .tup es => findG es j w
  | _ => none

def evG (G : EM) (j : Nat) (w : Bool) (E : EM) (o : Operand) : AV :=
  match o with
  | .tmp t => match lookG G j w t with
    | some x => x
    | none => E.get t
  | o => evE E o

/-- The slots that a region has written so far, up to hi, and what is known under guards: slots are written in their order, or all is forgotten. -/
structure GS where
  G : EM
  hi : Nat

def GS.wr (g : GS) (dst : Option Tmp) : GS :=
  match dst with
  | none => g
  | some t => if g.hi < t then ⟨g.G, t⟩ else ⟨.nil, g.hi⟩

def GS.add (g : GS) (dst : Option Tmp) (d : Nat) (L : List (Nat × Bool × AV × Bool)) : GS :=
  match dst with
  | none => g
  | some t => if g.hi < t then (if d ≤ g.hi then (if t < 5461 then ⟨EM.put 7 g.G t (.tup (L.map gE)), t⟩ else ⟨.nil, t⟩) else ⟨.nil, t⟩) else ⟨.nil, g.hi⟩

/-- What was made under a guard, as it is elsewhere. -/
def selV (I : SI) (g : Bool) (x : AV) : AV := match x with | .d z => .d (I.sel g z (.tup [])) | v => I.selA g v

/-- What was made under a guard, as it is under the guards around: slot, value, what is to be shown. -/
def levT (I : SI) (ops : Array Oper) (G : EM) : Nat → Nat → Bool → AV → Bool → List (Nat × Bool × AV × Bool)
  | 0, j, w, x, b => [(j, w, x, b)]
  | n + 1, j, w, x, b => (j, w, x, b) :: match (ops[j]?).bind (·.guard) with
    | none => []
    | some (j', w') => match (ops[j]?).bind (·.dst) with
      | some d => (match lookG G j' w' d with
        | some (.d xj) => levT I ops G n j' w' (selV I (I.grd xj w) x) (I.imp (I.grd xj w) b)
        | _ => [])
      | none => []

def lastT : List (Nat × Bool × AV × Bool) → (Nat × Bool × AV × Bool) → (Nat × Bool × AV × Bool)
  | [], d => d
  | p :: r, _ => lastT r p

/-- What is known of guards on this way. -/
def knG : List (Nat × Bool × Bool) → Nat → Bool → Option Bool
  | [], _, _ => none
  | (d', w', r) :: t, d, w => if d' = d then (if w' = w then some r else knG t d w) else knG t d w
def knW (dst : Option Tmp) (kn : List (Nat × Bool × Bool)) : List (Nat × Bool × Bool) := match dst with
  | none => kn
  | some t => kn.filter fun x => !decide (x.1 = t)


def regTT (I : SI) (F : SF) (H : SH) (T : Nat → Option TRow) (ops : Array Oper) : List Oper → SS → GS → List (Nat × Bool × Bool) → (SS → Tree) → Tree
  | [], σ, _, _, k => k σ
  | o :: rest, σ, ge, kn, k => match dfrOf (evE σ.env) o.op with
    | some _ => .bad
    | none => match o.guard with
      | none => tmT F H (lendM T) (panM T) (frsM T) (opT I T σ.nid (evE σ.env) o.op) σ.lh σ.nid fun r => putS σ.env o.dst r.v fun E => regTT I F H T ops rest ⟨E, r.lh, r.nid, clr o.dst σ.kt, σ.kb⟩ (ge.wr o.dst) (knW o.dst kn) k
      | some (j, want) => match (ops[j]?).bind (·.dst) with
        | some d => (match σ.env.get d with
          | .d y => .req (I.isBU y) (match knG kn d want with
            | some true => tmT F H (lendM T) (panM T) (frsM T) (opT I T σ.nid (evG ge.G j want σ.env) o.op) σ.lh σ.nid fun r => putS σ.env o.dst r.v fun E => regTT I F H T ops rest ⟨E, r.lh, r.nid, clr o.dst σ.kt, σ.kb⟩ (ge.wr o.dst) (knW o.dst kn) k
            | some false => putS σ.env o.dst (.d (.tup [])) fun E => regTT I F H T ops rest ⟨E, σ.lh, σ.nid, clr o.dst σ.kt, σ.kb⟩ (ge.wr o.dst) (knW o.dst kn) k
            | none => (match simpleT I F H (panM T) (opT I T σ.nid (evG ge.G j want σ.env) o.op) σ.lh with
            | some (b, x) => (match lastT (levT I ops ge.G 8 j want x b) (j, want, x, b) with
              | (jt, wt, xt, bt) => match (ops[jt]?).bind (·.dst) with
                | some dt => (match σ.env.get dt with
                  | .d yt => .req (I.imp (I.grd yt wt) bt) (putS σ.env o.dst (selV I (I.grd yt wt) xt) fun E => regTT I F H T ops rest ⟨E, σ.lh, σ.nid, clr o.dst σ.kt, σ.kb⟩
                      (ge.add o.dst d (levT I ops ge.G 8 j want x b)) (knW o.dst kn) k)
                  | _ => .bad)
                | none => .bad)
            | none => .ite (I.grd y want) (tmT F H (lendM T) (panM T) (frsM T) (opT I T σ.nid (evG ge.G j want σ.env) o.op) σ.lh σ.nid fun r => putS σ.env o.dst r.v fun E => regTT I F H T ops rest ⟨E, r.lh, r.nid, clr o.dst σ.kt, σ.kb⟩ (ge.wr o.dst) (knW o.dst ((d, want, true) :: kn)) k)
                (putS σ.env o.dst (.d (.tup [])) fun E => regTT I F H T ops rest ⟨E, σ.lh, σ.nid, clr o.dst σ.kt, σ.kb⟩ (ge.wr o.dst) (knW o.dst ((d, want, false) :: kn)) k)))
          | _ => .bad)
        | none => .bad

def callD (F : SF) (H : SH) (L : FuncId → Nat) (M : FuncId → Bool) (R : FuncId → Option (Nat × Nat)) (X : DV → Tree) (lh : LM) (nid : Nat) (f : FuncId) (args : List AV) (k : OpR → List Nat → Tree) : Tree :=
  match H f with
  | some _ => .bad
  | none => match R f with
    | some (es, ty) => (match allD args with
      | some ds => .ite (F.fo f ds) (.req (Nat.beq (F.fes f) es) (.req (Nat.beq (F.fty f) ty) (k ⟨.slc nid es 0 (F.frn f ds), [(nid, some ⟨F.fra f ds, es, ty, true, true⟩)], nid + 1⟩ []))) (.req (F.ok f ds) (k ⟨.d (F.res f ds), [], nid⟩ []))
      | none => .bad)
    | none => if L f = 1 then frzK F lh args fun ds => panD F M f ds X (.req (F.ok f ds) (.req (F.sc f ds) (k ⟨.d (F.res f ds), [], nid⟩ (args.flatMap (reach lh.get 8)))))
    else match args.mapM (frz lh.get 8) with
    | some ds => panD F M f ds X (.req (F.ok f ds) (k (if args.all isD then ⟨.d (F.res f ds), [], nid⟩ else ⟨.d (F.res f ds), deaden lh.get (args.flatMap (reach lh.get 8)), nid⟩) (args.flatMap (reach lh.get 8))))
    | none => .bad

def tmD (F : SF) (H : SH) (L : FuncId → Nat) (M : FuncId → Bool) (R : FuncId → Option (Nat × Nat)) (X : DV → Tree) : TM → LM → Nat → (OpR → List Nat → Tree) → Tree
  | .val v, _, nid, k => k ⟨v, [], nid⟩ []
  | .pure r, _, _, k => k r []
  | .get b f, lh, nid, k => match lh.get b with | some x => tmD F H L M R X (f x) lh nid (fun r rs => k r (b :: rs)) | none => .bad
  | .call f args, lh, nid, k => callD F H L M R X lh nid f args k
  | .req b m, lh, nid, k => .req b (tmD F H L M R X m lh nid k)
  | .ite b x y, lh, nid, k => .ite b (tmD F H L M R X x lh nid k) (tmD F H L M R X y lh nid k)
  | .pan _, _, _, _ => .bad
  | .fail, _, _, _ => .bad

/-- Slots whose values are known, one more written. -/
def unkD (dst : Option Tmp) (kn : List Nat) : List Nat := match dst with | none => kn | some t => kn.filter fun x => !(Nat.beq x t)
def kntD (dst : Option Tmp) (kn : List Nat) : List Nat := match dst with | none => kn | some t => t :: kn

/-- An operation that is done, one that is passed over. -/
def exD (I : SI) (F : SF) (H : SH) (T : Nat → Option TRow) (n0 i : Nat) (X : DV → Tree) (o : Oper) (go : SS → List Nat → (SS → List TE → Tree) → Tree) (k : SS → List TE → Tree) (σ : SS) (kn : List Nat) : Tree :=
  tmD F H (lendM T) (panM T) (frsM T) X (opT I T (n0 + i) (evE σ.env) o.op) σ.lh (n0 + i) fun r rs => if r.nid ≤ n0 + i + 1 then
    putS σ.env o.dst r.v fun E => go ⟨E, σ.lh.app r.chg, σ.nid, clr o.dst σ.kt, σ.kb⟩ (unkD o.dst kn) fun σ' tr => k σ' (⟨rs, r.chg.map (·.1)⟩ :: tr) else .bad
def skD (o : Oper) (go : SS → List Nat → (SS → List TE → Tree) → Tree) (k : SS → List TE → Tree) (σ : SS) (kn : List Nat) : Tree :=
  putS σ.env o.dst (.d (.tup [])) fun E => go ⟨E, σ.lh, σ.nid, clr o.dst σ.kt, σ.kb⟩ (kntD o.dst kn) fun σ' tr => k σ' (te0 :: tr)

/-- A guard is asked; kn: slots of guards whose values stand in the state as they are. -/
def gD (I : SI) (ops : Array Oper) (o : Oper) (σ : SS) (kn : List Nat) (ex sk : SS → List Nat → Tree) : Tree :=
  match o.guard with
  | none => ex σ kn
  | some (j, want) => match (ops[j]?).bind (·.dst) with
    | some d => if kn.contains d = true then (match σ.env.get d with
        | .d (.bool b) => if b = want then ex σ kn else sk σ kn
        | .d (.tup []) => sk σ kn
        | _ => .bad)
      else (match σ.env.get d with
        | .d y => if d < 5461 then .req (I.isBool y) (.ite (I.bool y)
            (if want = true then ex ⟨EM.put 7 σ.env d (.d (.bool true)), σ.lh, σ.nid, σ.kt, σ.kb⟩ (d :: kn) else sk ⟨EM.put 7 σ.env d (.d (.bool true)), σ.lh, σ.nid, σ.kt, σ.kb⟩ (d :: kn))
            (if want = false then ex ⟨EM.put 7 σ.env d (.d (.bool false)), σ.lh, σ.nid, σ.kt, σ.kb⟩ (d :: kn) else sk ⟨EM.put 7 σ.env d (.d (.bool false)), σ.lh, σ.nid, σ.kt, σ.kb⟩ (d :: kn))) else .bad
        | _ => .bad)
    | none => .bad

def regDT (I : SI) (F : SF) (H : SH) (T : Nat → Option TRow) (ops : Array Oper) (n0 : Nat) (X : Nat → DV → Tree) : List Oper → Nat → SS → List Nat → (SS → List TE → Tree) → Tree
  | [], _, σ, _, k => k σ []
  | o :: rest, i, σ, kn, k => gD I ops o σ kn (exD I F H T n0 i (X i) o (regDT I F H T ops n0 X rest (i + 1)) k) (skD o (regDT I F H T ops n0 X rest (i + 1)) k)

/-- The call that gives up. -/
def pCall (I : SI) (F : SF) (L : FuncId → Nat) (d : DV) : TM → LM → (List Nat → Tree) → Tree
  | .call f args, lh, k => if L f = 1 then frzK F lh args fun ds => .req (F.pn f ds) (.req (I.same d (F.pd f ds)) (k (args.flatMap (reach lh.get 8))))
    else match args.mapM (frz lh.get 8) with
      | some ds => .req (F.pn f ds) (.req (I.same d (F.pd f ds)) (k (args.flatMap (reach lh.get 8))))
      | none => .bad
  | .req b m, lh, k => .req b (pCall I F L d m lh k)
  | _, _, _ => .bad

/-- A region of which operation p gives up with d; D: what depends on it. -/
def regDPT (I : SI) (F : SF) (H : SH) (T : Nat → Option TRow) (ops : Array Oper) (n0 p : Nat) (d : DV) (D : List Nat) : List Oper → Nat → SS → List Nat → (SS → List TE → Tree) → Tree
  | [], _, σ, _, k => k σ []
  | o :: rest, i, σ, kn, k => if D.contains i = true then regDPT I F H T ops n0 p d D rest (i + 1) σ kn fun σ' tr => k σ' (te0 :: tr)
    else if i = p then (match o.guard with
      | none => pCall I F (lendM T) d (opT I T (n0 + i) (evE σ.env) o.op) σ.lh fun rs => putS σ.env o.dst .undef fun E =>
          regDPT I F H T ops n0 p d D rest (i + 1) ⟨E, σ.lh, σ.nid, clr o.dst σ.kt, σ.kb⟩ (unkD o.dst kn) fun σ' tr => k σ' (⟨rs, []⟩ :: tr)
      | some _ => .bad)
    else gD I ops o σ kn (exD I F H T n0 i (fun _ => .bad) o (regDPT I F H T ops n0 p d D rest (i + 1)) k) (skD o (regDPT I F H T ops n0 p d D rest (i + 1)) k)

def seqT (k : Exit → SS → Tree) (b : SS → Tree) (e : Exit) (σ : SS) : Tree := match e with | .normal => b σ | e => k e σ
def blockT (id : Nat) (k : Exit → SS → Tree) (e : Exit) (σ : SS) : Tree := match e with | .exit id' => if id' = id then k .normal σ else k (.exit id') σ | e => k e σ
def scopeT (k : Exit → SS → Tree) (e : Exit) (σ : SS) : Tree := match e with | .goto _ => .bad | e => k e σ

/-- The first region's number in a loop names the loop. -/
def rid : Code → Nat
  | .region id _ _ => id
  | .seq a _ => rid a
  | .block _ c | .loop c | .scope c => rid c
  | _ => 0

/-- In the list of what is kept of blocks, a number 10000 + t stands for the block that slot t leads to, whatever its name. -/
def accS : List Nat → List Nat
  | [] => []
  | b :: r => if 500000 ≤ b then accS r else if 10000 ≤ b then (b - 10000) :: accS r else accS r
/-- A number 500000 + b stands for a block whose structs hold names that are given anew. -/
def renS : List Nat → List Nat
  | [] => []
  | b :: r => if 1000000 ≤ b then renS r else if 500000 ≤ b then (b - 500000) :: renS r else renS r
def blkS : List Nat → List Nat
  | [] => []
  | b :: r => if 10000 ≤ b then blkS r else b :: blkS r

def idxA : List Nat → Nat → Nat → Option Nat
  | [], _, _ => none
  | a :: r, t, j => if a = t then some j else idxA r t (j + 1)

/-- The block that a value leads to. -/
def blkA : AV → Option Nat
  | .slc b _ _ _ => some b
  | .loc b _ _ _ => some b
  | _ => none

/-- The same value, its block's name being another. -/
def setA (q : Nat) : AV → AV
  | .slc _ es off len => .slc q es off len
  | .loc _ es i fo => .loc q es i fo
  | v => v

/-- A slot at the head of a loop. -/
def headA (m : Nat) (az : List Nat) (t : Nat) (v : AV) : AV := match idxA az t 0 with | some j => setA (m + j) v | none => v

def slotOk (m : Nat) (v : AV) : Bool := match blkA v with | some _ => true | none => bel m 8 v

/-- The blocks that the slots lead to, by their new names. -/
def headB (E : EM) (lh : LM) (m : Nat) : List Nat → Nat → LM
  | [], _ => []
  | t :: r, j => (m + j, (blkA (E.get t)).bind lh.get) :: headB E lh m r (j + 1)

def distB (E : EM) (bs : List Nat) : List Nat → List Nat → Bool
  | [], _ => true
  | t :: r, seen => match blkA (E.get t) with
    | some b => !(bs.contains b) && !(seen.contains b) && distB E bs r (b :: seen)
    | none => distB E bs r seen

/-- The new name of a block, if a slot leads to it. -/
def posA (E : EM) : List Nat → Nat → Nat → Option Nat
  | [], _, _ => none
  | t :: r, x, j => match blkA (E.get t) with
    | some b => if b = x then some j else posA E r x (j + 1)
    | none => posA E r x (j + 1)
def newN (E : EM) (m : Nat) (az : List Nat) (x : Nat) : Nat := match posA E az x 0 with | some j => m + j | none => x
def ren1 (E : EM) (m : Nat) (az : List Nat) : AV → AV
  | .slc b es off len => .slc (newN E m az b) es off len
  | .loc b es i fo => .loc (newN E m az b) es i fo
  | v => v
def renE (E : EM) (m : Nat) (az : List Nat) : AV → AV
  | .agg cs => .agg (cs.map (ren1 E m az))
  | v => v
def okA1 (E : EM) (m : Nat) (az : List Nat) : AV → Bool
  | .d _ | .zc => true
  | .slc b _ _ _ | .loc b _ _ _ => decide (b < m) || (posA E az b 0).isSome
  | _ => false
def okAE (E : EM) (m : Nat) (az : List Nat) : AV → Bool
  | .agg cs => cs.all (okA1 E m az)
  | .d _ => true
  | _ => false
def renB (E : EM) (m : Nat) (az : List Nat) (o : Option LB) : Option LB := match o with | some k => some { k with els := k.els.map (renE E m az) } | none => none
def okRB (σ : SS) (m : Nat) (az : List Nat) (rs : List Nat) : Bool := rs.all fun b => match σ.lh.get b with | some k => k.els.all (okAE σ.env m az) | none => true

/-- May these slots and blocks be kept, names from m on being given again? -/
def okS (ts az bs : List Nat) (m : Nat) (σ : SS) : Bool :=
  (ts.all fun t => decide (t < 5461) && (if (idxA az t 0).isSome then slotOk m (σ.env.get t) else bel m 8 (σ.env.get t))) && (az.isEmpty || bs.all fun b => decide (b < m)) && distB σ.env bs az []

def okB1 (I : SI) (m : Nat) (o : Option LB) (r : Bool) : Bool := match o with | some k => I.and (I.allBel m k.els) r | none => r

def okB (I : SI) (nid : Nat) (σ : SS) : List Nat → Bool
  | [] => true
  | b :: r => okB1 I nid (σ.lh.get b) (okB I nid σ r)

def okBA (I : SI) (nid : Nat) (σ : SS) : List Nat → Bool
  | [] => true
  | t :: r => okB1 I nid ((blkA (σ.env.get t)).bind σ.lh.get) (okBA I nid σ r)

def keepT (I : SI) (ts bs : List Nat) (m : Nat) (σ : SS) (t : Tree) : Tree :=
  if (okS ts (accS bs) (blkS bs ++ renS bs) m σ && (okRB σ m (accS bs) (renS bs) && (blkS bs).all fun b => !(renS bs).contains b)) = true then .req (I.and (okB I m σ (blkS bs)) (okBA I m σ (accS bs))) t else .bad

def headVs (ts bs : List Nat) (m : Nat) (E : EM) : List AV := ts.map fun t => headA m (accS bs) t (E.get t)
def headBs (bs : List Nat) (m : Nat) (σ : SS) : LM := (blkS bs).map (fun b => (b, σ.lh.get b)) ++ ((renS bs).map (fun b => (b, renB σ.env m (accS bs) (σ.lh.get b))) ++ headB σ.env σ.lh m (accS bs) 0)

/-- A number 1000000 + t stands for the block that slot t leads to, too: its elements are made data at the head. -/
def fzS : List Nat → Option Nat
  | [] => none
  | b :: r => if 1000000 ≤ b then some (b - 1000000) else fzS r
/-- The blocks that are kept, by their names ahead of the head. -/
def keptN (bs : List Nat) (E : EM) : List Nat := blkS bs ++ (renS bs ++ (accS bs).filterMap fun t => blkA (E.get t))
def onlyL (kept : List Nat) : LM → LM
  | [] => []
  | (b, x) :: r => if kept.contains b = true then (b, x) :: onlyL kept r else onlyL kept r
/-- The elements of a row made data at the head of a loop. -/
def headT (I : SI) (bs : List Nat) (σ : SS) (k : SS → Tree) : Tree :=
  match fzS bs with
  | none => k σ
  | some u => match blkA (σ.env.get u) with
    | none => k σ
    | some b => match σ.lh.get b with
      | some q => if (keptN bs σ.env).contains b = true then .req (I.frzOk σ.lh (keptN bs σ.env) q.els) (k ⟨σ.env, LM.set (onlyL (keptN bs σ.env) σ.lh) b (some { q with els := I.frzE σ.lh q.els }), σ.nid, σ.kt, σ.kb⟩) else .bad
      | none => .bad

/-- Back at the head of a loop. -/
def kBack (I : SI) (D : Nat) (ts bs : List Nat) (m : Nat) (s : SS) : Tree := headT I bs s fun s => keepT I ts bs m s (.fin (.back D (headVs ts bs m s.env) (headBs bs m s)))

/-- Do the operations whose order is open leave each other's blocks alone? -/
def indOk (ops : Array Oper) (tr : List TE) : Bool := if tr.all (fun t => t.writes.isEmpty) = true then true else (loose ops).all fun p => indepB (tr.getD p.1 te0) (tr.getD p.2 te0)

/-- A drawn region that gives up at p. -/
def panReg (I : SI) (F : SF) (H : SH) (T : Nat → Option TRow) (ops : Array Oper) (σ : SS) (p : Nat) (d : DV) : Tree :=
  if skipOk ops p (skipsOf ops p) = true then regDPT I F H T ops σ.nid p d (skipsOf ops p) ops.toList 0 σ [] fun _ tr => if indOk ops tr = true then .pan d else .bad else .bad

/-- lv: which slots and which local blocks are kept at which loop. -/
def inL (n : Nat) : List Nat → Bool
  | [] => false
  | m :: r => if n = m then true else inL n r

/-- (lv 999999).1: regions at which the walk is cut. -/
def execT (I : SI) (F : SF) (H : SH) (T : Nat → Option TRow) (lv : Nat → List Nat × List Nat) : Code → SS → List Fm → (Exit → SS → Tree) → Tree
  | .skip, σ, _, k => k .normal σ
  | .label _, σ, _, k => k .normal σ
  | .region id ops d, σ, stk, k => if inL id (lv 999999).1 = true then .cut (.region id ops d) σ stk else match d with
    | false => regTT I F H T ops ops.toList σ ⟨.nil, 0⟩ [] (k .normal)
    | true => regDT I F H T ops σ.nid (panReg I F H T ops σ) ops.toList 0 σ [] fun σ' tr =>
      if indOk ops tr = true then k .normal ⟨σ'.env, σ'.lh, σ.nid + ops.size, σ'.kt, σ'.kb⟩ else .bad
  | .seq a b, σ, stk, k => execT I F H T lv a σ (.seq b :: stk) (seqT k fun σ' => execT I F H T lv b σ' stk k)
  | .cond c a b, σ, stk, k => match evE σ.env c with
    | .d y => (match c with
      | .tmp t => if σ.kt = t + 1 then .req (I.isB y σ.kb) (match σ.kb with | true => execT I F H T lv a σ stk k | false => execT I F H T lv b σ stk k)
          else if t < 5461 then .req (I.isBool y) (.ite (I.bool y) (execT I F H T lv a ⟨EM.put 7 σ.env t (.d (.bool true)), σ.lh, σ.nid, t + 1, true⟩ stk k) (execT I F H T lv b ⟨EM.put 7 σ.env t (.d (.bool false)), σ.lh, σ.nid, t + 1, false⟩ stk k))
          else .bad
      | _ => .req (I.isBool y) (.ite (I.bool y) (execT I F H T lv a σ stk k) (execT I F H T lv b σ stk k)))
    | _ => .bad
  | .block id c, σ, stk, k => execT I F H T lv c σ (.block id :: stk) (blockT id k)
  | .loop c, σ, stk, _ => headT I (lv (rid c)).2 σ fun σ => keepT I (lv (rid c)).1 (lv (rid c)).2 σ.nid σ (.loop c (lv (rid c)).1 (headVs (lv (rid c)).1 (lv (rid c)).2 σ.nid σ.env) (headBs (lv (rid c)).2 σ.nid σ) σ.nid (accS (lv (rid c)).2).length stk)
  | .scope c, σ, stk, k => execT I F H T lv c σ (.scope :: stk) (scopeT k)
  | .exit id, σ, _, k => k (.exit id) σ
  | .ret, σ, _, k => k .ret σ
  | _, _, _, _ => .bad

/-- What is left, taken up. -/
def resT (I : SI) (F : SF) (H : SH) (T : Nat → Option TRow) (lv : Nat → List Nat × List Nat) (kend : Exit → SS → Tree) : List Fm → Exit → SS → Tree
  | [] => kend
  | .seq b :: r => seqT (resT I F H T lv kend r) fun σ' => execT I F H T lv b σ' r (resT I F H T lv kend r)
  | .block id :: r => blockT id (resT I F H T lv kend r)
  | .scope :: r => scopeT (resT I F H T lv kend r)
  | .back D ts bs nid :: r => seqT (resT I F H T lv kend r) (kBack I D ts bs nid)

/-- What is left, as a walk. -/
def WPstk (E : CallE) (P : Program) (Qe : Exit → St → Prop) (Bk : Nat → List AV → LM → Prop) (QP : DV → St → Prop) : List Fm → Exit → St → Prop
  | [] => Qe
  | .seq b :: r => seqQ (WPstk E P Qe Bk QP r) fun σ => WP E P b (WPstk E P Qe Bk QP r) QP σ
  | .block id :: r => blockQ id (WPstk E P Qe Bk QP r)
  | .scope :: r => noGotoQ (WPstk E P Qe Bk QP r)
  | .back D ts bs nid :: r => seqQ (WPstk E P Qe Bk QP r) fun σ => ∃ vs blks, Bk D vs blks ∧ Gh nid σ (SS.st ⟨EM.of ts vs .nil, blks, nid + (accS bs).length, 0, true⟩)

/-- What a tree is to show. -/
structure Aim where
  Qe : Exit → St → Prop
  Q : List AV → LM → Nat → Prop
  Bk : Nat → List AV → LM → Prop
  QP : DV → St → Prop

/-- What a tree says. -/
def Sat (P : Program) (gs : List Nat) (A : Aim) : Tree → Prop
  | .fin (.ret vs lh nid) => A.Q vs lh nid
  | .fin (.back D vs blks) => A.Bk D vs blks
  | .ite b x y => (b = true → Sat P gs A x) ∧ (b = false → Sat P gs A y)
  | .req b x => b = true ∧ Sat P gs A x
  | .loop c ts vs blks nid na stk => ∃ n, iterN nid (fun Q' σ' => WP (calls P gs) P c Q' A.QP σ') (WPstk (calls P gs) P A.Qe A.Bk A.QP stk) n (SS.st ⟨EM.of ts vs .nil, blks, nid + na, 0, true⟩)
  | .cut c σ stk => WP (calls P gs) P c (WPstk (calls P gs) P A.Qe A.Bk A.QP stk) A.QP σ.st
  | .pan d => ∀ σ : St, σ.dfs = [] → A.QP d σ
  | .bad => False

structure SFok (P : Program) (gs : List Nat) (F : SF) (H : SH) : Prop where
  sc : ∀ f ds, F.sc f ds = true → scalarD (F.res f ds) = true
  row : ∀ (els : List AV) (off n m : Nat) (lh : Nat → Option LB), F.rowOk els off n = true → off + n ≤ els.length ∧ n ≤ big ∧ (((els.drop off).take n).mapM (frz lh m)).map .sim = some (F.row els off n)
  pure : ∀ f ds, F.ok f ds = true → PureCall P gs f ds (dRet (F.res f ds))
  fresh : ∀ f ds, F.fo f ds = true → ∃ l : List DV, F.fra f ds = l.map .d ∧ F.frn f ds = l.length ∧ PureCall P gs f ds ⟨.slc 0 (F.fes f) 0 l.length, [⟨l.map .d, F.fes f, F.fty f, true, true⟩]⟩
  pan : ∀ f ds, F.pn f ds = true → PanicCall P gs f ds (F.pd f ds) ∧ scalarD (F.pd f ds) = true
  call : ∀ f g lh nid args r, H f = some g → g lh nid args = some (true, r) → HCall P gs f args lh.get nid ⟨r.v, r.lh.get, r.nid⟩ ∨
    ∃ ds d, args.mapM (frz lh.get 8) = some ds ∧ PureCall P gs f ds (dRet d) ∧ scalarD d = true ∧ r = ⟨.d d, lh, nid⟩

end Go.Proofs.Am

set_option linter.unusedVariables false
set_option linter.unusedSimpArgs false
namespace Go.Proofs.Am
open Go Go.RowKit

section
variable {P : Program} {gs : List Nat} {T : Nat → Option TRow} {F : SF} {H : SH} {A : Aim}

theorem allD_map : ∀ {l : List AV} {ds : List DV}, allD l = some ds → l = ds.map .d
  | [], ds, h => by simp [allD] at h; subst h; rfl
  | .d v :: r, ds, h => by
    simp only [allD, Option.map_eq_some_iff] at h
    obtain ⟨d', h1, rfl⟩ := h
    rw [allD_map h1]; rfl
  | .loc .. :: _, _, h | .slc .. :: _, _, h | .agg _ :: _, _, h | .tup _ :: _, _, h | .fn .. :: _, _, h | .iface .. :: _, _, h | .zc :: _, _, h | .undef :: _, _, h => by simp [allD] at h

theorem frz_map_d (lh : Nat → Option LB) (n : Nat) : ∀ (ds : List DV), (ds.map AV.d).mapM (frz lh n) = some ds
  | [] => rfl
  | d :: r => by simp [List.mapM_cons, frz_d, frz_map_d lh n r]

theorem isD_map : ∀ (ds : List DV), (ds.map AV.d).all isD = true
  | [] => rfl
  | d :: r => by simp [isD]

theorem op_dRet (d : DV) (nid : Nat) : (dRet d).op nid = ⟨.d d, [], nid⟩ := by simp [dRet, Ret.op, AV.sh]

theorem call_ok (hF : SFok P gs F H) {lh : Nat → Option LB} {nid : Nat} {f : FuncId} {args : List AV} {ds : List DV} (hz : args.mapM (frz lh 8) = some ds) (hok : F.ok f ds = true) :
    (calls P gs).ok lh nid f args (args.flatMap (reach lh 8)) (if args.all isD then ⟨.d (F.res f ds), [], nid⟩ else ⟨.d (F.res f ds), deaden lh (args.flatMap (reach lh 8)), nid⟩) := by
  refine ⟨ds, dRet (F.res f ds), hz, hF.pure f ds hok, rfl, ?_⟩
  cases h : args.all isD with
  | true => left; rw [op_dRet]; exact ⟨.inl rfl, rfl⟩
  | false => right; rw [op_dRet]; simp

theorem lend_ok (hF : SFok P gs F H) {lh : Nat → Option LB} {nid : Nat} {f : FuncId} {args : List AV} {ds : List DV} (hz : args.mapM (frz lh 8) = some ds) (hok : F.ok f ds = true) (hsc : F.sc f ds = true) :
    (calls P gs).ok lh nid f args (args.flatMap (reach lh 8)) ⟨.d (F.res f ds), [], nid⟩ :=
  ⟨ds, dRet (F.res f ds), hz, hF.pure f ds hok, rfl, .inl ⟨.inr ⟨_, rfl, hF.sc f ds hsc⟩, (op_dRet _ _).symm⟩⟩

theorem wpB_mono {E : CallE} {tx : Bool} {K K' : Res → Prop} {KP KP' : DV → Res → Prop} (hk : ∀ r, K r → K' r) (hp : ∀ d r, KP d r → KP' d r) : ∀ (m : BM) (lh : Nat → Option LB), wpB E tx m lh K KP → wpB E tx m lh K' KP'
  | .pure a, _, h => hk _ h
  | .get b k, lh, h => by
    simp only [wpB] at h ⊢
    cases hb : lh b with
    | none => simp [hb] at h
    | some x => simp only [hb] at h ⊢; exact wpB_mono hk hp (k x) lh h
  | .call nid g args, lh, h => by
    rcases h with ⟨r, rs, h1, h2⟩ | ⟨h0, r, h1, h2⟩ | ⟨h0, d, r, h1, h2⟩ | ⟨d, rs, h1, h2⟩
    · exact .inl ⟨r, rs, h1, hk _ h2⟩
    · exact .inr (.inl ⟨h0, r, h1, hk _ h2⟩)
    · exact .inr (.inr (.inl ⟨h0, d, r, h1, hp _ _ h2⟩))
    · exact .inr (.inr (.inr ⟨d, rs, h1, hp _ _ h2⟩))
  | .pan _ _, _, h => hp _ _ h
  | .fail, _, h => h

/-- A tree behind an operation. -/
def RS.res (r : RS) : Res := ⟨r.v, r.lh.get, r.nid⟩

theorem frzK1_ok (hF : SFok P gs F H) {lh : LM} {m : Nat} : ∀ (args : List AV) (k : List DV → Tree), Sat P gs A (frzK1 F lh args k) → ∃ ds, args.mapM (frz lh.get (m + 1)) = some ds ∧ Sat P gs A (k ds)
  | [], k, h => ⟨[], rfl, h⟩
  | .d v :: r, k, h => by
    obtain ⟨ds, h1, h2⟩ := frzK1_ok (m := m) hF r _ h
    exact ⟨v :: ds, by simp [List.mapM_cons, h1, frz_d], h2⟩
  | .slc b es off n :: r, k, h => by
    simp only [frzK1] at h
    split at h
    · rename_i q hq
      obtain ⟨hb, h⟩ := h
      obtain ⟨ds, h1, h2⟩ := frzK1_ok (m := m) hF r _ h
      obtain ⟨r1, r2, r3⟩ := hF.row q.els off n m lh.get hb
      refine ⟨_ :: ds, ?_, h2⟩
      have : frz lh.get (m + 1) (.slc b es off n) = some (F.row q.els off n) := by
        rw [frz]
        simp only [hq]
        rw [if_pos ⟨r1, r2⟩]
        exact r3
      simp only [List.mapM_cons, this, h1]
      rfl
    · exact h.elim
  | .loc .. :: _, _, h | .agg _ :: _, _, h | .tup _ :: _, _, h | .fn .. :: _, _, h | .iface .. :: _, _, h | .zc :: _, _, h | .undef :: _, _, h => h.elim

theorem frzK_ok (hF : SFok P gs F H) {lh : LM} : ∀ (args : List AV) (k : List DV → Tree), Sat P gs A (frzK F lh args k) → ∃ ds, args.mapM (frz lh.get 8) = some ds ∧ Sat P gs A (k ds)
  | [], k, h => ⟨[], rfl, h⟩
  | .d v :: r, k, h => by
    obtain ⟨ds, h1, h2⟩ := frzK_ok hF r _ h
    exact ⟨v :: ds, by simp [List.mapM_cons, h1, frz_d], h2⟩
  | .slc b es off n :: r, k, h => by
    simp only [frzK] at h
    split at h
    · rename_i q hq
      obtain ⟨hb, h⟩ := h
      obtain ⟨ds, h1, h2⟩ := frzK_ok hF r _ h
      obtain ⟨r1, r2, r3⟩ := hF.row q.els off n 7 lh.get hb
      refine ⟨_ :: ds, ?_, h2⟩
      have : frz lh.get 8 (.slc b es off n) = some (F.row q.els off n) := by
        rw [frz]
        simp only [hq]
        rw [if_pos ⟨r1, r2⟩]
        exact r3
      simp only [List.mapM_cons, this, h1]
      rfl
    · exact h.elim
  | .agg cs :: r, k, h => by
    simp only [frzK] at h
    obtain ⟨es, h1, h2⟩ := frzK1_ok (m := 6) hF cs _ h
    obtain ⟨ds, h3, h4⟩ := frzK_ok hF r _ h2
    refine ⟨_ :: ds, ?_, h4⟩
    have : frz lh.get 8 (.agg cs) = some (.agg es) := by
      rw [frz, h1]; rfl
    simp only [List.mapM_cons, this, h3]
    rfl
  | .loc .. :: _, _, h | .tup _ :: _, _, h | .fn .. :: _, _, h | .iface .. :: _, _, h | .zc :: _, _, h | .undef :: _, _, h => h.elim

theorem mapM_none_reach {n : Nat} (ih : ∀ (v : AV) (d : DV), frz (fun _ => none) n v = some d → ∀ lh, reach lh n v = []) : ∀ (cs : List AV) (ds : List DV), cs.mapM (frz (fun _ => none) n) = some ds → ∀ lh, cs.flatMap (reach lh n) = []
  | [], _, _, _ => rfl
  | c :: cs, ds, h, lh => by
    rw [List.mapM_cons] at h
    cases h1 : frz (fun _ => none) n c with
    | none => rw [h1] at h; cases h
    | some d =>
      rw [h1] at h
      cases h2 : cs.mapM (frz (fun _ => none) n) with
      | none => rw [h2] at h; cases h
      | some es => rw [List.flatMap_cons, ih c d h1 lh, mapM_none_reach ih cs es h2 lh]; rfl
theorem frz_none_reach : ∀ (n : Nat) (v : AV) (d : DV), frz (fun _ => none) n v = some d → ∀ lh, reach lh n v = [] := by
  intro n
  induction n with
  | zero => intro v d h lh; cases v <;> rfl
  | succ n ih =>
    intro v d h lh
    cases v with
    | d x => simp only [reach]
    | zc => simp only [reach]
    | undef => simp only [reach]
    | slc b es off len => simp only [frz] at h; cases h
    | loc b es i fo => simp only [frz] at h; cases h
    | agg cs =>
      simp only [frz] at h
      simp only [reach]
      cases h1 : cs.mapM (frz (fun _ => none) n) with
      | none => rw [h1] at h; cases h
      | some ds => exact mapM_none_reach ih cs ds h1 lh
    | tup cs =>
      simp only [frz] at h
      simp only [reach]
      cases h1 : cs.mapM (frz (fun _ => none) n) with
      | none => rw [h1] at h; cases h
      | some ds => exact mapM_none_reach ih cs ds h1 lh
    | fn f cs =>
      simp only [frz] at h
      simp only [reach]
      cases h1 : cs.mapM (frz (fun _ => none) n) with
      | none => rw [h1] at h; cases h
      | some ds => exact mapM_none_reach ih cs ds h1 lh
    | iface t v =>
      simp only [frz] at h
      simp only [reach]
      cases h1 : frz (fun _ => none) n v with
      | none => rw [h1] at h; cases h
      | some d => exact ih v d h1 lh
theorem row_reach (hF : SFok P gs F H) {els : List AV} {n m : Nat} (h : F.rowOk els 0 n = true) (hn : n = els.length) (lh : Nat → Option LB) : els.flatMap (reach lh m) = [] := by
  obtain ⟨r1, r2, r3⟩ := hF.row els 0 n m (fun _ => none) h
  rw [List.drop_zero, List.take_of_length_le (by omega)] at r3
  cases h1 : els.mapM (frz (fun _ => none) m) with
  | none => rw [h1] at r3; cases r3
  | some ds => exact mapM_none_reach (frz_none_reach m) els ds h1 lh
theorem frzG1_ok (hF : SFok P gs F H) {lh : LM} {m : Nat} : ∀ (args : List AV) (k : List DV → List Nat → Tree), Sat P gs A (frzG1 F lh args k) → ∃ ds bs, args.mapM (frz lh.get (m + 1)) = some ds ∧ args.flatMap (reach lh.get (m + 1)) = bs ∧ Sat P gs A (k ds bs)
  | [], k, h => ⟨[], [], rfl, rfl, h⟩
  | .d v :: r, k, h => by
    obtain ⟨ds, bs, h1, h2, h3⟩ := frzG1_ok (m := m) hF r _ h
    exact ⟨v :: ds, bs, by simp [List.mapM_cons, h1, frz_d], by rw [List.flatMap_cons, h2]; simp [reach], h3⟩
  | .slc b es off n :: r, k, h => by
    simp only [frzG1] at h
    split at h
    · rename_i q hq
      obtain ⟨hb, hb2, h⟩ := h
      obtain ⟨ds, bs, h1, h2, h3⟩ := frzG1_ok (m := m) hF r _ h
      obtain ⟨r1, r2, r3⟩ := hF.row q.els off n m lh.get hb
      refine ⟨_ :: ds, b :: bs, ?_, ?_, h3⟩
      · have : frz lh.get (m + 1) (.slc b es off n) = some (F.row q.els off n) := by
          rw [frz]
          simp only [hq]
          rw [if_pos ⟨r1, r2⟩]
          exact r3
        simp only [List.mapM_cons, this, h1]
        rfl
      · rw [List.flatMap_cons, h2]
        simp only [reach, hq, row_reach hF hb2 rfl lh.get]
        rfl
    · exact h.elim
  | .loc .. :: _, _, h | .agg _ :: _, _, h | .tup _ :: _, _, h | .fn .. :: _, _, h | .iface .. :: _, _, h | .zc :: _, _, h | .undef :: _, _, h => h.elim
theorem frzG_ok (hF : SFok P gs F H) {lh : LM} : ∀ (args : List AV) (k : List DV → List Nat → Tree), Sat P gs A (frzG F lh args k) → ∃ ds bs, args.mapM (frz lh.get 8) = some ds ∧ args.flatMap (reach lh.get 8) = bs ∧ Sat P gs A (k ds bs)
  | [], k, h => ⟨[], [], rfl, rfl, h⟩
  | .d v :: r, k, h => by
    obtain ⟨ds, bs, h1, h2, h3⟩ := frzG_ok hF r _ h
    exact ⟨v :: ds, bs, by simp [List.mapM_cons, h1, frz_d], by rw [List.flatMap_cons, h2]; simp [reach], h3⟩
  | .slc b es off n :: r, k, h => by
    simp only [frzG] at h
    split at h
    · rename_i q hq
      obtain ⟨hb, hb2, h⟩ := h
      obtain ⟨ds, bs, h1, h2, h3⟩ := frzG_ok hF r _ h
      obtain ⟨r1, r2, r3⟩ := hF.row q.els off n 7 lh.get hb
      refine ⟨_ :: ds, b :: bs, ?_, ?_, h3⟩
      · have : frz lh.get 8 (.slc b es off n) = some (F.row q.els off n) := by
          rw [frz]
          simp only [hq]
          rw [if_pos ⟨r1, r2⟩]
          exact r3
        simp only [List.mapM_cons, this, h1]
        rfl
      · rw [List.flatMap_cons, h2]
        simp only [reach, hq, row_reach hF hb2 rfl lh.get]
        rfl
    · exact h.elim
  | .agg cs :: r, k, h => by
    simp only [frzG] at h
    obtain ⟨es, bs, h1, h2, h3⟩ := frzG1_ok (m := 6) hF cs _ h
    obtain ⟨ds, bs', h4, h5, h6⟩ := frzG_ok hF r _ h3
    refine ⟨_ :: ds, bs ++ bs', ?_, ?_, h6⟩
    · have : frz lh.get 8 (.agg cs) = some (.agg es) := by
        rw [frz, h1]; rfl
      simp only [List.mapM_cons, this, h4]
      rfl
    · rw [List.flatMap_cons, h5]
      simp only [reach, h2]
  | .loc .. :: _, _, h | .tup _ :: _, _, h | .fn .. :: _, _, h | .iface .. :: _, _, h | .zc :: _, _, h | .undef :: _, _, h => h.elim

theorem panD_ok {M : FuncId → Bool} {f : FuncId} {ds : List DV} {X : DV → Tree} {k : Tree} (h : Sat P gs A (panD F M f ds X k)) : Sat P gs A k ∨ (F.pn f ds = true ∧ Sat P gs A (X (F.pd f ds))) := by
  unfold panD at h
  split at h
  · cases hb : F.pn f ds with
    | true => rw [hb] at h; exact .inr ⟨rfl, h.1 rfl⟩
    | false => rw [hb] at h; exact .inl (h.2 rfl)
  · exact .inl h

theorem tmT_ok (hF : SFok P gs F H) {L : FuncId → Nat} {M : FuncId → Bool} {R : FuncId → Option (Nat × Nat)} {nid : Nat} {KP : DV → Res → Prop} (hKP : ∀ d r, Sat P gs A (.pan d) → KP d r) : ∀ (m : TM) (B : BM) (lh : LM) (k : RS → Tree), m.le nid B → Sat P gs A (tmT F H L M R m lh nid k) → wpB (calls P gs) true B lh.get (fun r => ∃ s : RS, s.res = r ∧ Sat P gs A (k s)) KP
  | .val v, B, lh, k, h, hs => by cases h; exact ⟨_, rfl, hs⟩
  | .pure r, B, lh, k, h, hs => by cases h; exact ⟨_, by simp only [RS.res, LM.get_app]; rfl, hs⟩
  | .get b f, B, lh, k, h, hs => by
    obtain ⟨k', rfl, h⟩ := h
    simp only [tmT] at hs
    simp only [wpB]
    cases hb : lh.get b with
    | none => simp [hb, Sat] at hs
    | some x => simp only [hb] at hs; exact tmT_ok hF hKP (f x) _ lh k (h x) hs
  | .call f args, B, lh, k, h, hs => by
    cases h
    simp only [tmT, callT] at hs
    simp only [wpB]
    cases hH : H f with
    | some g =>
      rw [hH] at hs
      simp only at hs
      split at hs
      · rename_i b r hg
        obtain ⟨rfl, hs⟩ := hs
        rcases hF.call f g lh nid args r hH hg with hc | ⟨ds, d, hz, hp, hsc, rfl⟩
        · exact .inr (.inl ⟨trivial, r.res, hc, r, rfl, hs⟩)
        · refine .inl ⟨⟨.d d, [], nid⟩, _, ⟨ds, dRet d, hz, hp, rfl, .inl ⟨.inr ⟨d, rfl, hsc⟩, ?_⟩⟩, _, rfl, hs⟩
          rw [op_dRet]
      · exact hs.elim
    | none =>
      rw [hH] at hs
      simp only at hs
      have pan : ∀ ds, args.mapM (frz lh.get 8) = some ds → F.pn f ds = true → Sat P gs A (.pan (F.pd f ds)) → ∃ d rs, (calls P gs).panD lh.get f args rs d ∧ KP d ⟨.undef, lh.get, nid⟩ := fun ds hz hp hs => by
        obtain ⟨h1, h2⟩ := hF.pan f ds hp
        exact ⟨_, _, ⟨ds, hz, h1, h2, rfl⟩, hKP _ _ hs⟩
      split at hs
      · rename_i es ty _
        split at hs
        · rename_i ds hd
          have hm := allD_map hd
          subst hm
          cases hfo : F.fo f ds with
          | false =>
            obtain ⟨hok, hs⟩ := hs.2 hfo
            have := call_ok (nid := nid) hF (frz_map_d lh.get 8 ds) hok
            rw [isD_map, if_pos rfl] at this
            exact .inl ⟨_, _, this, _, rfl, hs⟩
          | true =>
            obtain ⟨he, ht, hs⟩ := hs.1 hfo
            obtain ⟨l, h1, h2, h3⟩ := hF.fresh f ds hfo
            rw [Nat.eq_of_beq_eq_true he, Nat.eq_of_beq_eq_true ht] at h3
            rw [h1, h2] at hs
            refine .inl ⟨_, _, ⟨ds, _, frz_map_d lh.get 8 ds, h3, rfl, .inl ⟨.inl (isD_map ds), rfl⟩⟩, _, ?_, hs⟩
            simp only [RS.res, OpR.res, Ret.op, AV.sh, LB.sh, List.zipIdx_cons, List.zipIdx_nil, List.map_cons, List.map_nil, List.length_cons, List.length_nil, Nat.zero_add, Nat.add_zero]
            have e1 : (l.map AV.d).map (AV.sh nid) = l.map AV.d := by
              rw [List.map_map]; exact List.map_congr_left fun x _ => rfl
            have e2 : (lh.set nid (some ⟨l.map AV.d, es, ty, true, true⟩)).get = applyChg lh.get [(nid, some ⟨(l.map AV.d).map (AV.sh nid), es, ty, true, true⟩)] := by
              funext j; rw [LM.get_set, e1]; rfl
            rw [e2]
        · exact hs.elim
      split at hs
      · obtain ⟨ds, hz, hs⟩ := frzK_ok hF _ _ hs
        rcases panD_ok hs with hs | ⟨hp, hs⟩
        · obtain ⟨hok, hsc, hs⟩ := hs
          exact .inl ⟨_, _, lend_ok hF hz hok hsc, _, rfl, hs⟩
        · exact .inr (.inr (.inr (pan ds hz hp hs)))
      split at hs
      · obtain ⟨ds, bs, hz, hbs, hs⟩ := frzG_ok hF _ _ hs
        rcases panD_ok hs with hs | ⟨hp, hs⟩
        · obtain ⟨hok, hs⟩ := hs
          have hc : (calls P gs).ok lh.get nid f args (args.flatMap (reach lh.get 8)) ⟨.d (F.res f ds), deaden lh.get (args.flatMap (reach lh.get 8)), nid⟩ := by
            refine ⟨ds, dRet (F.res f ds), hz, hF.pure f ds hok, rfl, .inr ?_⟩
            rw [op_dRet]
            simp only [List.append_nil]
          refine .inl ⟨_, _, hc, ⟨.d (F.res f ds), lh.app (deaden lh.get bs), nid⟩, ?_, hs⟩
          rw [← hbs]
          simp only [RS.res, LM.get_app]; rfl
        · exact .inr (.inr (.inr (pan ds hz hp hs)))
      split at hs
      · rename_i ds hz
        rcases panD_ok hs with hs | ⟨hp, hs⟩
        · obtain ⟨hok, hs⟩ := hs
          refine .inl ⟨_, _, call_ok hF hz hok, ?_⟩
          split at hs
          · rename_i hd; rw [if_pos hd]; exact ⟨_, rfl, hs⟩
          · rename_i hd; rw [if_neg hd]; exact ⟨_, by simp only [RS.res, LM.get_app]; rfl, hs⟩
        · exact .inr (.inr (.inr (pan ds hz hp hs)))
      · exact hs.elim
  | .req b m, B, lh, k, h, hs => by obtain ⟨hb, hs⟩ := hs; exact tmT_ok hF hKP m B lh k (h hb) hs
  | .ite b x y, B, lh, k, h, hs => by
    cases b with
    | true => exact tmT_ok hF hKP x B lh k (h.1 rfl) (hs.1 rfl)
    | false => exact tmT_ok hF hKP y B lh k (h.2 rfl) (hs.2 rfl)
  | .pan d, B, lh, k, h, hs => by cases h; exact hKP _ _ hs
  | .fail, _, _, _, _, hs => hs.elim

theorem simpleT_ok (hF : SFok P gs F H) {M : FuncId → Bool} {nid : Nat} {KP : DV → Res → Prop} {K : Res → Prop} : ∀ (m : TM) (B : BM) (lh : LM) (b : Bool) (x : AV), m.le nid B → simpleT std F H M m lh = some (b, x) → b = true → K ⟨x, lh.get, nid⟩ → wpB (calls P gs) true B lh.get K KP
  | .val v, B, lh, b, x, h, hs, hb, hK => by
    cases h
    simp only [simpleT, Option.some.injEq, Prod.mk.injEq] at hs; rw [hs.2]; exact hK
  | .get b' f, B, lh, b, x, h, hs, hb, hK => by
    obtain ⟨k', rfl, h⟩ := h
    simp only [simpleT] at hs
    simp only [wpB]
    cases hl : lh.get b' with
    | none => simp [hl] at hs
    | some y => simp only [hl] at hs; exact simpleT_ok hF (f y) _ lh b x (h y) hs hb hK
  | .call f args, B, lh, b, x, h, hs, hb, hK => by
    cases h
    simp only [simpleT] at hs
    split at hs
    · cases hs
    · split at hs
      · cases hs
      split at hs
      · rename_i ds hd
        simp only [Option.some.injEq, Prod.mk.injEq] at hs
        obtain ⟨h1, rfl⟩ := hs
        have hm := allD_map hd
        subst hm
        have := call_ok (nid := nid) hF (frz_map_d lh.get 8 ds) (h1.trans hb)
        rw [isD_map, if_pos rfl] at this
        exact .inl ⟨_, _, this, hK⟩
      · cases hs
  | .req c m, B, lh, b, x, h, hs, hb, hK => by
    simp only [simpleT] at hs
    split at hs
    · rename_i c' x' hm
      simp only [Option.some.injEq, Prod.mk.injEq] at hs
      obtain ⟨h1, rfl⟩ := hs
      rw [hb, std_and, Bool.and_eq_true] at h1
      exact simpleT_ok hF m B lh c' x' (h h1.1) hm h1.2 hK
    · cases hs
  | .pure _, _, _, _, _, _, hs, _, _ => by simp [simpleT] at hs
  | .ite _ _ _, _, _, _, _, _, hs, _, _ => by simp [simpleT] at hs
  | .pan _, _, _, _, _, _, hs, _, _ => by simp [simpleT] at hs
  | .fail, _, _, _, _, _, hs, _, _ => by simp [simpleT] at hs

theorem evE_int (E : EM) (k : IntKind) (n : Int) : evE E (.const (.int k n)) = .d (.int k n) := rfl
/-- What a guard says. -/
theorem grd_ok {ops : Array Oper} {env : Nat → AV} {o : Oper} {j d : Nat} {want : Bool} {y : DV} (ho : o.guard = some (j, want)) (hd : (ops[j]?).bind (·.dst) = some d) (hy : env d = .d y) (hb : isBUD y = true) :
    guardA ops env o = some (std.grd y want) := by
  unfold guardA
  rw [ho]
  simp only [hd, hy]
  cases y with
  | bool b => rfl
  | tup l => cases l <;> first | rfl | simp [isBUD] at hb
  | _ => simp [isBUD] at hb

theorem putS_ok {E : EM} {dst : Option Tmp} {v : AV} {k : EM → Tree} (h : Sat P gs A (putS E dst v k)) : ∃ E', Sat P gs A (k E') ∧ E'.get = putE E.get dst v ∧ ∀ t, dst ≠ some t → E'.get t = E.get t := by
  cases dst with
  | none => exact ⟨E, h, rfl, fun _ _ => rfl⟩
  | some d =>
    simp only [putS] at h
    split at h
    · rename_i hd
      have := EM.get_put v 7 E d
      refine ⟨_, h, ?_, fun t ht => ?_⟩
      · funext j; rw [this j (by simpa [capE] using hd)]; rfl
      · rw [this t (by simpa [capE] using hd), if_neg]
        rintro rfl; exact ht rfl
    · exact h.elim

/-- What is known under guards. -/
def GEok (ops : Array Oper) (E : EM) (g : GS) : Prop := ∀ t j w x, lookG g.G j w t = some x → t ≤ g.hi ∧ ∃ d y, (ops[j]?).bind (·.dst) = some d ∧ d ≤ g.hi ∧ E.get d = .d y ∧ E.get t = if std.grd y w then x else .d (.tup [])

theorem findG_ok : ∀ {L : List (Nat × Bool × AV × Bool)} {j : Nat} {w : Bool} {x : AV}, findG (L.map gE) j w = some x → ∃ b, (j, w, x, b) ∈ L
  | [], j, w, x, h => by simp [findG] at h
  | (j', w', x', b') :: r, j, w, x, h => by
    simp only [List.map_cons, gE, findG] at h
    split at h
    · rename_i h1
      split at h
      · rename_i h2
        cases h; subst h1
        have : w' = w := by cases w <;> cases w' <;> simp_all
        subst this
        exact ⟨b', by simp⟩
      · obtain ⟨b, hb⟩ := findG_ok (L := r) h; exact ⟨b, by simp [hb]⟩
    · obtain ⟨b, hb⟩ := findG_ok (L := r) h; exact ⟨b, by simp [hb]⟩

theorem evG_ok {ops : Array Oper} {E : EM} {g : GS} (hg : GEok ops E g) {j d : Nat} {w : Bool} {y : DV} (hd : (ops[j]?).bind (·.dst) = some d) (hy : E.get d = .d y) (hw : std.grd y w = true) : evG g.G j w E = evE E := by
  funext o
  cases o with
  | tmp t =>
    simp only [evG]
    split
    · rename_i x hx
      obtain ⟨_, d', y', h2, _, h3, h4⟩ := hg t j w x hx
      rw [hd] at h2
      cases h2
      rw [hy] at h3
      cases h3
      rw [hw, if_pos rfl] at h4
      exact h4.symm
    · rfl
  | _ => rfl

theorem GEok_nil {ops : Array Oper} {E : EM} {hi : Nat} : GEok ops E ⟨.nil, hi⟩ := fun t j w x h => by simp [lookG, EM.get] at h

theorem wr_ok {ops : Array Oper} {E E' : EM} {g : GS} (hg : GEok ops E g) {dst : Option Tmp} (hE : ∀ t, dst ≠ some t → E'.get t = E.get t) : GEok ops E' (g.wr dst) := by
  cases dst with
  | none =>
    intro t j w x h
    obtain ⟨h0, d, y, h1, h1', h2, h3⟩ := hg t j w x h
    exact ⟨h0, d, y, h1, h1', by rw [hE _ (by simp)]; exact h2, by rw [hE _ (by simp)]; exact h3⟩
  | some u =>
    simp only [GS.wr]
    split
    · rename_i hu
      intro t j w x h
      obtain ⟨h0, d, y, h1, h1', h2, h3⟩ := hg t j w x h
      refine ⟨Nat.le_trans h0 (Nat.le_of_lt hu), d, y, h1, Nat.le_trans h1' (Nat.le_of_lt hu), ?_, ?_⟩
      · rw [hE d (fun hc => absurd (Option.some.inj hc) (Nat.ne_of_gt (Nat.lt_of_le_of_lt h1' hu)))]; exact h2
      · rw [hE t (fun hc => absurd (Option.some.inj hc) (Nat.ne_of_gt (Nat.lt_of_le_of_lt h0 hu)))]; exact h3
    · exact GEok_nil

theorem imp_std (a b : Bool) : std.imp a b = (!a || b) := rfl
theorem selV_std (g : Bool) (x : AV) : selV std g x = if g then x else .d (.tup []) := by cases x <;> cases g <;> rfl

theorem levT_ok {ops : Array Oper} {E : EM} {g : GS} (hg : GEok ops E g) : ∀ (n j : Nat) (w : Bool) (x : AV) (b : Bool) (d : Nat) (y : DV), (ops[j]?).bind (·.dst) = some d → E.get d = .d y →
    ∀ p ∈ levT std ops g.G n j w x b, ∃ d2 y2, (ops[p.1]?).bind (·.dst) = some d2 ∧ (d ≤ g.hi → d2 ≤ g.hi) ∧ E.get d2 = .d y2 ∧ (if std.grd y2 p.2.1 then p.2.2.1 else .d (.tup [])) = (if std.grd y w then x else AV.d (.tup [])) ∧ std.imp (std.grd y2 p.2.1) p.2.2.2 = std.imp (std.grd y w) b
  | 0, j, w, x, b, d, y, hd, hy, p, hp => by
    simp only [levT, List.mem_singleton] at hp
    subst hp
    exact ⟨d, y, hd, id, hy, rfl, rfl⟩
  | n + 1, j, w, x, b, d, y, hd, hy, p, hp => by
    simp only [levT] at hp
    rcases List.mem_cons.1 hp with rfl | hp
    · exact ⟨d, y, hd, id, hy, rfl, rfl⟩
    · split at hp
      · cases hp
      · rename_i j' w' hg'
        rw [hd] at hp
        simp only at hp
        split at hp
        · rename_i xj hl
          obtain ⟨_, d', y', h1, h2, h3, h4⟩ := hg d j' w' _ hl
          obtain ⟨d2, y2, q1, q2, q3, q4, q5⟩ := levT_ok hg n j' w' _ _ d' y' h1 h3 p hp
          refine ⟨d2, y2, q1, fun _ => q2 h2, q3, q4.trans ?_, q5.trans ?_⟩
          · rw [selV_std]
            rw [hy] at h4
            cases hc : std.grd y' w' with
            | true => rw [hc, if_pos rfl] at h4; cases h4; rw [if_pos rfl]
            | false =>
              rw [hc] at h4
              have h4 : AV.d y = .d (.tup []) := h4
              cases h4
              rfl
          · rw [hy] at h4
            cases hc : std.grd y' w' with
            | true => rw [hc, if_pos rfl] at h4; cases h4; simp [imp_std]
            | false =>
              rw [hc] at h4
              have h4 : AV.d y = .d (.tup []) := h4
              cases h4
              rfl
        · cases hp

theorem lastT_mem : ∀ (L : List (Nat × Bool × AV × Bool)) (p : Nat × Bool × AV × Bool), L ≠ [] → lastT L p ∈ L
  | [], _, h => absurd rfl h
  | [q], _, _ => by simp [lastT]
  | q :: r :: l, p, _ => by
    have := lastT_mem (r :: l) q (by simp)
    simp only [lastT] at this ⊢
    exact List.mem_cons_of_mem _ this

theorem levT_ne (I : SI) (ops : Array Oper) (G : EM) (n j : Nat) (w : Bool) (x : AV) (b : Bool) : levT I ops G n j w x b ≠ [] := by
  cases n <;> simp [levT]

theorem add_ok {ops : Array Oper} {E E' : EM} {g : GS} (hg : GEok ops E g) {dst : Option Tmp} (hE : ∀ t, dst ≠ some t → E'.get t = E.get t) {d j : Nat} {w : Bool} {x : AV} {b : Bool} {y : DV} (hd : (ops[j]?).bind (·.dst) = some d) (hy : E.get d = .d y)
    (hE2 : E'.get = putE E.get dst (if std.grd y w then x else .d (.tup []))) {n : Nat} : GEok ops E' (g.add dst d (levT std ops g.G n j w x b)) := by
  cases dst with
  | none => exact wr_ok (dst := none) hg hE
  | some u =>
    simp only [GS.add]
    split
    · rename_i hu
      split
      · rename_i hdh
        split
        · rename_i h5
          intro t j' w' x' h
          simp only at h ⊢
          unfold lookG at h
          rw [EM.get_put _ 7 g.G u t (by simpa [capE] using h5)] at h
          by_cases htu : t = u
          · subst htu
            rw [if_pos rfl] at h
            obtain ⟨b', hb'⟩ := findG_ok h
            obtain ⟨d2, y2, q1, q2, q3, q4, q5⟩ := levT_ok hg n j w x b d y hd hy _ hb'
            refine ⟨Nat.le_refl _, d2, y2, q1, Nat.le_trans (q2 hdh) (Nat.le_of_lt hu), ?_, ?_⟩
            · rw [hE d2 (fun hc => absurd (Option.some.inj hc) (Nat.ne_of_gt (Nat.lt_of_le_of_lt (q2 hdh) hu)))]; exact q3
            · rw [hE2]; simp only [putE, upd_same]; exact q4.symm
          · rw [if_neg htu] at h
            obtain ⟨h0, d', y', h1, h1', h2, h3⟩ := hg t j' w' x' h
            refine ⟨Nat.le_trans h0 (Nat.le_of_lt hu), d', y', h1, Nat.le_trans h1' (Nat.le_of_lt hu), ?_, ?_⟩
            · rw [hE d' (fun hc => absurd (Option.some.inj hc) (Nat.ne_of_gt (Nat.lt_of_le_of_lt h1' hu)))]; exact h2
            · rw [hE t (fun hc => absurd (Option.some.inj hc) (Nat.ne_of_gt (Nat.lt_of_le_of_lt h0 hu)))]; exact h3
        · exact GEok_nil
      · exact GEok_nil
    · exact GEok_nil

theorem putE_st (σ : SS) (E' : EM) (dst : Option Tmp) (v : AV) (lh : LM) (nid : Nat) (h : E'.get = putE σ.env.get dst v) {kt : Nat} {kb : Bool} : (⟨putE σ.st.env dst v, lh.get, nid, []⟩ : St) = SS.st ⟨E', lh, nid, kt, kb⟩ := by
  simp only [SS.st, h]

theorem app_st (σ : SS) (dst : Option Tmp) (s : RS) (E' : EM) (h : E'.get = putE σ.env.get dst s.v) {kt : Nat} {kb : Bool} : σ.st.app dst s.res = SS.st ⟨E', s.lh, s.nid, kt, kb⟩ := by
  simp only [St.app, SS.st, RS.res, h]

/-- What is known of guards holds. -/
def KnOk (E : EM) (kn : List (Nat × Bool × Bool)) : Prop := ∀ d w r, (d, w, r) ∈ kn → ∃ y, E.get d = .d y ∧ std.grd y w = r

theorem knG_mem : ∀ {kn : List (Nat × Bool × Bool)} {d : Nat} {w r : Bool}, knG kn d w = some r → (d, w, r) ∈ kn
  | [], _, _, _, h => by simp [knG] at h
  | (d', w', r') :: t, d, w, r, h => by
    simp only [knG] at h
    split at h
    · rename_i hd
      split at h
      · rename_i hw; cases h; subst hd; subst hw; exact List.mem_cons_self ..
      · exact List.mem_cons_of_mem _ (knG_mem h)
    · exact List.mem_cons_of_mem _ (knG_mem h)

theorem knW_ok {E E' : EM} {kn : List (Nat × Bool × Bool)} {dst : Option Tmp} (h : KnOk E kn) (hE : ∀ t, dst ≠ some t → E'.get t = E.get t) : KnOk E' (knW dst kn) := by
  intro d w r hm
  cases dst with
  | none =>
    obtain ⟨y, h1, h2⟩ := h d w r hm
    exact ⟨y, by rw [hE d (fun h => by cases h)]; exact h1, h2⟩
  | some t =>
    simp only [knW, List.mem_filter, Bool.not_eq_true', decide_eq_false_iff_not] at hm
    obtain ⟨y, h1, h2⟩ := h d w r hm.1
    exact ⟨y, by rw [hE d (fun h => hm.2 (Option.some.inj h).symm)]; exact h1, h2⟩

theorem KnOk_cons {E : EM} {kn : List (Nat × Bool × Bool)} {d : Nat} {w r : Bool} {y : DV} (h : KnOk E kn) (h1 : E.get d = .d y) (h2 : std.grd y w = r) : KnOk E ((d, w, r) :: kn) := by
  intro d' w' r' hm
  rcases List.mem_cons.1 hm with hm | hm
  · cases hm; exact ⟨y, h1, h2⟩
  · exact h d' w' r' hm

theorem regTT_ok (hF : SFok P gs F H) (hT : TabOk P T) {ops : Array Oper} {KP : DV → St → Prop} (hKP : ∀ d σ, σ.dfs = [] → Sat P gs A (.pan d) → KP d σ) : ∀ (l : List Oper) (σ : SS) (ge : GS) (kn : List (Nat × Bool × Bool)) (k : SS → Tree), GEok ops σ.env ge → KnOk σ.env kn → Sat P gs A (regTT std F H T ops l σ ge kn k) → wpT (calls P gs) P ops l σ.st (fun σ' => ∃ s : SS, s.st = σ' ∧ Sat P gs A (k s)) KP
  | [], σ, ge, kn, k, hge, hkn, h => ⟨σ, rfl, h⟩
  | o :: rest, σ, ge, kn, k, hge, hkn, h => by
    simp only [regTT] at h
    simp only [wpT]
    rw [SS.eval_st]
    have main : ∀ (k' : EM → LM → Nat → Tree), (∀ E' lh' nid', (∀ t, o.dst ≠ some t → E'.get t = σ.env.get t) → Sat P gs A (k' E' lh' nid') → wpT (calls P gs) P ops rest (SS.st ⟨E', lh', nid', clr o.dst σ.kt, σ.kb⟩) (fun σ' => ∃ s : SS, s.st = σ' ∧ Sat P gs A (k s)) KP) →
        Sat P gs A (tmT F H (lendM T) (panM T) (frsM T) (opT std T σ.nid (evE σ.env) o.op) σ.lh σ.nid fun r => putS σ.env o.dst r.v fun E => k' E r.lh r.nid) →
        wpB (calls P gs) true (opB P σ.st.nid (evE σ.env) o.op) σ.st.lh (fun r => wpT (calls P gs) P ops rest (σ.st.app o.dst r) (fun σ' => ∃ s : SS, s.st = σ' ∧ Sat P gs A (k s)) KP) (fun d r => KP d { σ.st with lh := r.lh, nid := r.nid }) := fun k' hk' h => by
      have hop := opT_ok hT σ.nid (evE σ.env) (evE_int σ.env) o.op
      refine wpB_mono (fun r hr => ?_) (fun _ _ h => h) _ _ (tmT_ok hF (KP := fun d r => KP d { σ.st with lh := r.lh, nid := r.nid }) (fun d r hs => hKP d _ rfl hs) _ _ _ _ hop h)
      obtain ⟨s, rfl, hs⟩ := hr
      obtain ⟨E', h1, h2, h3⟩ := putS_ok hs
      rw [app_st σ o.dst s E' h2]
      exact hk' E' s.lh s.nid h3 h1
    have put0 : ∀ (v : AV) (k' : EM → Tree), (∀ E', (∀ t, o.dst ≠ some t → E'.get t = σ.env.get t) → E'.get = putE σ.env.get o.dst v → Sat P gs A (k' E') → wpT (calls P gs) P ops rest (SS.st ⟨E', σ.lh, σ.nid, clr o.dst σ.kt, σ.kb⟩) (fun σ' => ∃ s : SS, s.st = σ' ∧ Sat P gs A (k s)) KP) →
        Sat P gs A (putS σ.env o.dst v k') → wpT (calls P gs) P ops rest { σ.st with env := putE σ.st.env o.dst v } (fun σ' => ∃ s : SS, s.st = σ' ∧ Sat P gs A (k s)) KP := fun v k' hk' h => by
      obtain ⟨E', h1, h2, h3⟩ := putS_ok h
      have : ({ σ.st with env := putE σ.st.env o.dst v } : St) = SS.st ⟨E', σ.lh, σ.nid, clr o.dst σ.kt, σ.kb⟩ := putE_st σ E' o.dst v σ.lh σ.nid h2
      rw [this]
      exact hk' E' h3 h2 h1
    cases hd : dfrOf (evE σ.env) o.op with
    | some d => rw [hd] at h; exact h.elim
    | none =>
      rw [hd] at h
      simp only at h
      cases hg : o.guard with
      | none =>
        rw [hg] at h
        simp only at h
        have : guardA ops σ.st.env o = some true := by unfold guardA; rw [hg]
        rw [this]
        simp only
        exact main (fun E lh nid => regTT std F H T ops rest ⟨E, lh, nid, clr o.dst σ.kt, σ.kb⟩ (ge.wr o.dst) (knW o.dst kn) k) (fun E' lh' nid' hE hs => regTT_ok hF hT hKP rest _ _ _ k (wr_ok hge hE) (knW_ok hkn hE) hs) h
      | some q =>
        obtain ⟨j, want⟩ := q
        rw [hg] at h
        simp only at h
        split at h
        · rename_i d hjd
          split at h
          · rename_i y hy
            obtain ⟨hb, h⟩ := h
            have hga : guardA ops σ.st.env o = some (std.grd y want) := grd_ok hg hjd hy hb
            rw [hga]
            split at h
            · rename_i hkt
              obtain ⟨y', q1, hw⟩ := hkn _ _ _ (knG_mem hkt)
              rw [hy] at q1
              cases q1
              rw [hw]
              simp only
              rw [evG_ok hge hjd hy hw] at h
              exact main (fun E lh nid => regTT std F H T ops rest ⟨E, lh, nid, clr o.dst σ.kt, σ.kb⟩ (ge.wr o.dst) (knW o.dst kn) k) (fun E' lh' nid' hE hs => regTT_ok hF hT hKP rest _ _ _ k (wr_ok hge hE) (knW_ok hkn hE) hs) h
            · rename_i hkt
              obtain ⟨y', q1, hw⟩ := hkn _ _ _ (knG_mem hkt)
              rw [hy] at q1
              cases q1
              rw [hw]
              simp only
              exact put0 (.d (.tup [])) _ (fun E' hE hE2 hs => regTT_ok hF hT hKP rest _ _ _ k (wr_ok hge hE) (knW_ok hkn hE) hs) h
            split at h
            · rename_i b x hs
              generalize hL : lastT (levT std ops ge.G 8 j want x b) (j, want, x, b) = top at h
              obtain ⟨jt, wt, xt, bt⟩ := top
              simp only at h
              split at h
              · rename_i dt hdt
                split at h
                · rename_i yt hyt
                  obtain ⟨hi, h⟩ := h
                  have hmem := lastT_mem _ (j, want, x, b) (levT_ne std ops ge.G 8 j want x b)
                  rw [hL] at hmem
                  obtain ⟨d2, y2, q1, q2, q3, q4, q5⟩ := levT_ok hge 8 j want x b d y hjd hy _ hmem
                  simp only at q1 q4 q5
                  rw [hdt] at q1
                  cases q1
                  rw [hyt] at q3
                  cases q3
                  rw [q5] at hi
                  rw [selV_std, q4] at h
                  cases hw : std.grd y want with
                  | true =>
                    simp only
                    rw [hw] at hi h
                    have hb' : b = true := by simpa [std] using hi
                    rw [evG_ok hge hjd hy hw] at hs
                    have hop := opT_ok hT σ.nid (evE σ.env) (evE_int σ.env) o.op
                    refine simpleT_ok hF _ _ _ b x hop hs hb' ?_
                    exact put0 x _ (fun E' hE hE2 hs => regTT_ok hF hT hKP rest _ _ _ k (add_ok hge hE hjd hy (by rw [hw]; exact hE2)) (knW_ok hkn hE) hs) h
                  | false =>
                    simp only
                    rw [hw] at h
                    exact put0 (.d (.tup [])) _ (fun E' hE hE2 hs => regTT_ok hF hT hKP rest _ _ _ k (add_ok hge hE hjd hy (by rw [hw]; exact hE2)) (knW_ok hkn hE) hs) h
                · exact h.elim
              · exact h.elim
            · cases hw : std.grd y want with
              | true =>
                simp only
                rw [hw] at h
                have h1 := h.1 rfl
                rw [evG_ok hge hjd hy hw] at h1
                exact main (fun E lh nid => regTT std F H T ops rest ⟨E, lh, nid, clr o.dst σ.kt, σ.kb⟩ (ge.wr o.dst) (knW o.dst ((d, want, true) :: kn)) k) (fun E' lh' nid' hE hs => regTT_ok hF hT hKP rest _ _ _ k (wr_ok hge hE) (knW_ok (KnOk_cons hkn hy hw) hE) hs) h1
              | false =>
                simp only
                rw [hw] at h
                exact put0 (.d (.tup [])) _ (fun E' hE hE2 hs => regTT_ok hF hT hKP rest _ _ _ k (wr_ok hge hE) (knW_ok (KnOk_cons hkn hy hw) hE) hs) (h.2 rfl)
          · exact h.elim
        · exact h.elim

theorem wpBT_mono {E : CallE} {K K' : OpR → List Nat → Prop} (hk : ∀ r rs, K r rs → K' r rs) : ∀ (m : BM) (lh : Nat → Option LB), wpBT E m lh K → wpBT E m lh K'
  | .pure a, _, h => hk _ _ h
  | .get b k, lh, h => by
    simp only [wpBT] at h ⊢
    cases hb : lh b with
    | none => simp [hb] at h
    | some x => simp only [hb] at h ⊢; exact wpBT_mono (fun r rs => hk r (b :: rs)) (k x) lh h
  | .call nid g args, lh, h => by obtain ⟨r, rs, h1, h2⟩ := h; exact ⟨r, rs, h1, hk _ _ h2⟩
  | .pan _ _, _, h => h
  | .fail, _, h => h

theorem tmD_ok (hF : SFok P gs F H) {L : FuncId → Nat} {M : FuncId → Bool} {R : FuncId → Option (Nat × Nat)} {X : DV → Tree} (hX : ∀ d, ¬ Sat P gs A (X d)) {nid : Nat} : ∀ (m : TM) (B : BM) (lh : LM) (k : OpR → List Nat → Tree), m.le nid B → Sat P gs A (tmD F H L M R X m lh nid k) → wpBT (calls P gs) B lh.get (fun r rs => Sat P gs A (k r rs))
  | .val v, B, lh, k, h, hs => by cases h; exact hs
  | .pure r, B, lh, k, h, hs => by cases h; exact hs
  | .get b f, B, lh, k, h, hs => by
    obtain ⟨k', rfl, h⟩ := h
    simp only [tmD] at hs
    simp only [wpBT]
    cases hb : lh.get b with
    | none => simp [hb, Sat] at hs
    | some x => simp only [hb] at hs; exact tmD_ok hF hX (f x) _ lh _ (h x) hs
  | .call f args, B, lh, k, h, hs => by
    cases h
    simp only [tmD, callD] at hs
    simp only [wpBT]
    split at hs
    · exact hs.elim
    split at hs
    · rename_i es ty hR
      split at hs
      · rename_i ds hd
        have hm := allD_map hd
        subst hm
        have hr : (ds.map AV.d).flatMap (reach lh.get 8) = [] := reach_isD _ _ _ (isD_map ds)
        cases hfo : F.fo f ds with
        | false =>
          obtain ⟨hok, hs⟩ := hs.2 hfo
          have := call_ok (nid := nid) hF (frz_map_d lh.get 8 ds) hok
          rw [isD_map, if_pos rfl, hr] at this
          exact ⟨_, _, this, hs⟩
        | true =>
          obtain ⟨he, ht, hs⟩ := hs.1 hfo
          obtain ⟨l, h1, h2, h3⟩ := hF.fresh f ds hfo
          rw [Nat.eq_of_beq_eq_true he, Nat.eq_of_beq_eq_true ht] at h3
          rw [h1, h2] at hs
          refine ⟨_, _, ⟨ds, _, frz_map_d lh.get 8 ds, h3, hr.symm, .inl ⟨.inl (isD_map ds), rfl⟩⟩, ?_⟩
          simp only [RS.res, OpR.res, Ret.op, AV.sh, LB.sh, List.zipIdx_cons, List.zipIdx_nil, List.map_cons, List.map_nil, List.length_cons, List.length_nil, Nat.zero_add, Nat.add_zero]
          have e1 : (l.map AV.d).map (AV.sh nid) = l.map AV.d := by
            rw [List.map_map]; exact List.map_congr_left fun x _ => rfl
          rw [e1]
          exact hs
      · exact hs.elim
    · split at hs
      · obtain ⟨ds, hz, hs⟩ := frzK_ok hF _ _ hs
        rcases panD_ok hs with hs | ⟨_, hs⟩
        · obtain ⟨hok, hsc, hs⟩ := hs
          exact ⟨_, _, lend_ok hF hz hok hsc, hs⟩
        · exact absurd hs (hX _)
      split at hs
      · rename_i ds hz
        rcases panD_ok hs with hs | ⟨_, hs⟩
        · obtain ⟨hok, hs⟩ := hs
          exact ⟨_, _, call_ok hF hz hok, hs⟩
        · exact absurd hs (hX _)
      · exact hs.elim
  | .req b m, B, lh, k, h, hs => by obtain ⟨hb, hs⟩ := hs; exact tmD_ok hF hX m B lh k (h hb) hs
  | .ite b x y, B, lh, k, h, hs => by
    cases b with
    | true => exact tmD_ok hF hX x B lh k (h.1 rfl) (hs.1 rfl)
    | false => exact tmD_ok hF hX y B lh k (h.2 rfl) (hs.2 rfl)
  | .pan _, _, _, _, _, hs => hs.elim
  | .fail, _, _, _, _, hs => hs.elim

theorem put_bool {σ : SS} {d : Nat} {v : Bool} (hd : d < 5461) (h : σ.env.get d = .d (.bool v)) : SS.st ⟨EM.put 7 σ.env d (.d (.bool v)), σ.lh, σ.nid, σ.kt, σ.kb⟩ = σ.st := by
  have : (EM.put 7 σ.env d (.d (.bool v))).get = σ.env.get := by
    funext j
    rw [EM.get_put _ 7 σ.env d j (by simpa [capE] using hd)]
    split
    · rename_i hj; subst hj; exact h.symm
    · rfl
  simp only [SS.st, this]

theorem gD_ok {ops : Array Oper} {o : Oper} {σ : SS} {kn : List Nat} {ex sk : SS → List Nat → Tree} {R : Bool → Prop}
    (hex : ∀ (τ : SS) kn', τ.st = σ.st → evE τ.env = evE σ.env → Sat P gs A (ex τ kn') → R true) (hsk : ∀ (τ : SS) kn', τ.st = σ.st → evE τ.env = evE σ.env → Sat P gs A (sk τ kn') → R false)
    (h : Sat P gs A (gD std ops o σ kn ex sk)) : ∃ g, guardA ops σ.st.env o = some g ∧ R g := by
  unfold gD at h
  cases hg : o.guard with
  | none =>
    rw [hg] at h
    exact ⟨true, by unfold guardA; rw [hg], hex σ kn rfl rfl h⟩
  | some q =>
    obtain ⟨j, want⟩ := q
    rw [hg] at h
    simp only at h
    split at h
    · rename_i d hjd
      have hgb : ∀ b, σ.env.get d = .d (.bool b) → guardA ops σ.st.env o = some (b == want) := fun b hb => by
        have : σ.st.env d = .d (.bool b) := hb
        unfold guardA; rw [hg]; simp only [hjd, this]
      split at h
      · split at h
        · rename_i b hb
          refine ⟨_, hgb b hb, ?_⟩
          split at h
          · rename_i hw
            have : (b == want) = true := by simp [hw]
            rw [this]; exact hex σ kn rfl rfl h
          · rename_i hw
            have : (b == want) = false := by simp [hw]
            rw [this]; exact hsk σ kn rfl rfl h
        · rename_i hb
          have : guardA ops σ.st.env o = some false := by
            have : σ.st.env d = .d (.tup []) := hb
            unfold guardA; rw [hg]; simp only [hjd, this]
          exact ⟨_, this, hsk σ kn rfl rfl h⟩
        · exact h.elim
      · split at h
        · rename_i y hy
          split at h
          · rename_i hd
            obtain ⟨hb, h1, h2⟩ := h
            cases y <;> first | (simp [std, isBoolD] at hb; done) | skip
            rename_i v
            refine ⟨_, hgb v hy, ?_⟩
            have hst := put_bool hd hy
            have henv : ∀ (v' : Bool), v = v' → evE (EM.put 7 σ.env d (.d (.bool v'))) = evE σ.env := fun v' he => by
              subst he
              have := congrArg St.env hst
              have e2 : (EM.put 7 σ.env d (.d (.bool v))).get = σ.env.get := this
              funext x; cases x <;> simp only [evE, e2]
            cases v with
            | true =>
              have h := h1 rfl
              split at h
              · rename_i hw
                subst hw
                exact hex _ _ hst (henv true rfl) h
              · rename_i hw
                have : (true == want) = false := by cases want <;> simp_all
                rw [this]
                exact hsk _ _ hst (henv true rfl) h
            | false =>
              have h := h2 rfl
              split at h
              · rename_i hw
                subst hw
                exact hex _ _ hst (henv false rfl) h
              · rename_i hw
                have : (false == want) = false := by cases want <;> simp_all
                rw [this]
                exact hsk _ _ hst (henv false rfl) h
          · exact h.elim
        · exact h.elim
    · exact h.elim

theorem exD_ok (hF : SFok P gs F H) (hT : TabOk P T) {n0 i : Nat} {X : DV → Tree} (hX : ∀ d, ¬ Sat P gs A (X d)) {o : Oper} {go : SS → List Nat → (SS → List TE → Tree) → Tree} {k : SS → List TE → Tree} {τ : SS} {kn : List Nat} {R : OpR → List Nat → Prop}
    (hgo : ∀ (E : EM) (r : OpR) (rs : List Nat) kn', ({ env := putE τ.st.env o.dst r.v, lh := applyChg τ.st.lh r.chg, nid := τ.st.nid, dfs := τ.st.dfs } : St) = SS.st ⟨E, τ.lh.app r.chg, τ.nid, clr o.dst τ.kt, τ.kb⟩ → Sat P gs A (go ⟨E, τ.lh.app r.chg, τ.nid, clr o.dst τ.kt, τ.kb⟩ kn' fun σ' tr => k σ' (⟨rs, r.chg.map (·.1)⟩ :: tr)) → R r rs)
    (h : Sat P gs A (exD std F H T n0 i X o go k τ kn)) : wpBT (calls P gs) (opB P (n0 + i) (evE τ.env) o.op) τ.st.lh fun r rs => r.nid ≤ n0 + i + 1 ∧ R r rs := by
  have hop := opT_ok hT (n0 + i) (evE τ.env) (evE_int τ.env) o.op
  refine wpBT_mono (fun r rs hr => ?_) _ _ (tmD_ok hF hX _ _ _ _ hop h)
  split at hr
  · rename_i hn
    refine ⟨hn, ?_⟩
    obtain ⟨E', h1, h2, h3⟩ := putS_ok hr
    have : ({ env := putE τ.st.env o.dst r.v, lh := applyChg τ.st.lh r.chg, nid := τ.st.nid, dfs := τ.st.dfs } : St) = SS.st ⟨E', τ.lh.app r.chg, τ.nid, clr o.dst τ.kt, τ.kb⟩ := by
      rw [← putE_st τ E' o.dst r.v (τ.lh.app r.chg) τ.nid h2, LM.get_app]; rfl
    exact hgo E' r rs _ this h1
  · exact hr.elim

theorem skD_ok {o : Oper} {go : SS → List Nat → (SS → List TE → Tree) → Tree} {k : SS → List TE → Tree} {τ : SS} {kn : List Nat} {R : Prop}
    (hgo : ∀ (E : EM) kn', ({ τ.st with env := putE τ.st.env o.dst (.d (.tup [])) } : St) = SS.st ⟨E, τ.lh, τ.nid, clr o.dst τ.kt, τ.kb⟩ → Sat P gs A (go ⟨E, τ.lh, τ.nid, clr o.dst τ.kt, τ.kb⟩ kn' fun σ' tr => k σ' (te0 :: tr)) → R)
    (h : Sat P gs A (skD o go k τ kn)) : R := by
  obtain ⟨E', h1, h2, h3⟩ := putS_ok h
  exact hgo E' _ (putE_st τ E' o.dst _ τ.lh τ.nid h2) h1

theorem regDT_ok (hF : SFok P gs F H) (hT : TabOk P T) {ops : Array Oper} {n0 : Nat} {X : Nat → DV → Tree} (hX : ∀ p d, ¬ Sat P gs A (X p d)) : ∀ (l : List Oper) (i : Nat) (σ : SS) (kn : List Nat) (k : SS → List TE → Tree), Sat P gs A (regDT std F H T ops n0 X l i σ kn k) → wpD (calls P gs) P ops n0 l i σ.st (fun σ' tr => ∃ s : SS, s.st = σ' ∧ Sat P gs A (k s tr))
  | [], i, σ, kn, k, h => ⟨σ, rfl, h⟩
  | o :: rest, i, σ, kn, k, h => by
    simp only [wpD]
    rw [SS.eval_st]
    obtain ⟨g, hg, hR⟩ := gD_ok (R := fun g => match g with
      | true => wpBT (calls P gs) (opB P (n0 + i) (evE σ.env) o.op) σ.st.lh fun r rs => r.nid ≤ n0 + i + 1 ∧
          wpD (calls P gs) P ops n0 rest (i + 1) { env := putE σ.st.env o.dst r.v, lh := applyChg σ.st.lh r.chg, nid := σ.st.nid, dfs := σ.st.dfs } fun σ' tr => ∃ s : SS, s.st = σ' ∧ Sat P gs A (k s (⟨rs, r.chg.map (·.1)⟩ :: tr))
      | false => wpD (calls P gs) P ops n0 rest (i + 1) { σ.st with env := putE σ.st.env o.dst (.d (.tup [])) } fun σ' tr => ∃ s : SS, s.st = σ' ∧ Sat P gs A (k s (te0 :: tr)))
      (fun τ kn' hst hev hs => by
        have := exD_ok hF hT (hX i) (R := fun r rs => wpD (calls P gs) P ops n0 rest (i + 1) { env := putE τ.st.env o.dst r.v, lh := applyChg τ.st.lh r.chg, nid := τ.st.nid, dfs := τ.st.dfs } fun σ' tr => ∃ s : SS, s.st = σ' ∧ Sat P gs A (k s (⟨rs, r.chg.map (·.1)⟩ :: tr)))
          (fun E r rs kn'' he hs => by rw [he]; exact regDT_ok hF hT hX rest (i + 1) _ _ _ hs) hs
        rw [hst, hev] at this
        exact this)
      (fun τ kn' hst hev hs => by
        have := skD_ok (R := wpD (calls P gs) P ops n0 rest (i + 1) { τ.st with env := putE τ.st.env o.dst (.d (.tup [])) } fun σ' tr => ∃ s : SS, s.st = σ' ∧ Sat P gs A (k s (te0 :: tr)))
          (fun E kn'' he hs => by rw [he]; exact regDT_ok hF hT hX rest (i + 1) _ _ _ hs) hs
        rw [hst] at this
        exact this) h
    rw [hg]
    cases g with
    | true => exact hR
    | false => exact hR

theorem pCall_ok (hF : SFok P gs F H) {L : FuncId → Nat} {d : DV} {nid : Nat} : ∀ (m : TM) (B : BM) (lh : LM) (k : List Nat → Tree), m.le nid B → Sat P gs A (pCall std F L d m lh k) → ∃ f args rs, B = .call nid f args ∧ (calls P gs).panD lh.get f args rs d ∧ Sat P gs A (k rs)
  | .call f args, B, lh, k, h, hs => by
    cases h
    simp only [pCall] at hs
    have fin : ∀ ds, args.mapM (frz lh.get 8) = some ds → Sat P gs A (.req (F.pn f ds) (.req (std.same d (F.pd f ds)) (k (args.flatMap (reach lh.get 8))))) → ∃ f' args' rs, BM.call nid f args = .call nid f' args' ∧ (calls P gs).panD lh.get f' args' rs d ∧ Sat P gs A (k rs) := fun ds hz hs => by
      obtain ⟨hp, he, hs⟩ := hs
      obtain ⟨h1, h2⟩ := hF.pan f ds hp
      have he : d = F.pd f ds := by
        simp only [std] at he
        exact @of_decide_eq_true _ (Classical.propDecidable _) he
      exact ⟨f, args, _, rfl, ⟨ds, hz, he ▸ h1, he ▸ h2, rfl⟩, hs⟩
    split at hs
    · obtain ⟨ds, hz, hs⟩ := frzK_ok hF _ _ hs
      exact fin ds hz hs
    split at hs
    · rename_i ds hz; exact fin ds hz hs
    · exact hs.elim
  | .req b m, B, lh, k, h, hs => by obtain ⟨hb, hs⟩ := hs; exact pCall_ok hF m B lh k (h hb) hs
  | .val _, _, _, _, _, hs | .pure _, _, _, _, _, hs | .get _ _, _, _, _, _, hs | .ite _ _ _, _, _, _, _, hs | .pan _, _, _, _, _, hs | .fail, _, _, _, _, hs => hs.elim

theorem regDPT_ok (hF : SFok P gs F H) (hT : TabOk P T) {ops : Array Oper} {n0 p : Nat} {d : DV} {D : List Nat} : ∀ (l : List Oper) (i : Nat) (σ : SS) (kn : List Nat) (k : SS → List TE → Tree), Sat P gs A (regDPT std F H T ops n0 p d D l i σ kn k) → wpDP (calls P gs) P ops n0 p d D l i σ.st (fun tr => ∃ s : SS, Sat P gs A (k s tr))
  | [], i, σ, kn, k, h => ⟨σ, h⟩
  | o :: rest, i, σ, kn, k, h => by
    simp only [wpDP]
    simp only [regDPT] at h
    rw [SS.eval_st]
    split at h
    · rename_i hD; rw [if_pos hD]; exact regDPT_ok hF hT rest (i + 1) _ _ _ h
    rename_i hD
    rw [if_neg hD]
    split at h
    · rename_i hip
      rw [if_pos hip]
      split at h
      · rename_i hg
        have hop := opT_ok hT (n0 + i) (evE σ.env) (evE_int σ.env) o.op
        obtain ⟨f, args, rs, h1, h2, h3⟩ := pCall_ok hF _ _ _ _ hop h
        obtain ⟨E', h4, h5, _⟩ := putS_ok h3
        refine ⟨by unfold guardA; rw [hg], f, args, rs, h1, h2, ?_⟩
        have : ({ σ.st with env := putE σ.st.env o.dst .undef } : St) = SS.st ⟨E', σ.lh, σ.nid, clr o.dst σ.kt, σ.kb⟩ := putE_st σ E' o.dst _ σ.lh σ.nid h5
        rw [this]
        exact regDPT_ok hF hT rest (i + 1) _ _ _ h4
      · exact h.elim
    · rename_i hip
      rw [if_neg hip]
      obtain ⟨g, hg, hR⟩ := gD_ok (R := fun g => match g with
        | true => wpBT (calls P gs) (opB P (n0 + i) (evE σ.env) o.op) σ.st.lh fun r rs => r.nid ≤ n0 + i + 1 ∧
            wpDP (calls P gs) P ops n0 p d D rest (i + 1) { env := putE σ.st.env o.dst r.v, lh := applyChg σ.st.lh r.chg, nid := σ.st.nid, dfs := σ.st.dfs } fun tr => ∃ s : SS, Sat P gs A (k s (⟨rs, r.chg.map (·.1)⟩ :: tr))
        | false => wpDP (calls P gs) P ops n0 p d D rest (i + 1) { σ.st with env := putE σ.st.env o.dst (.d (.tup [])) } fun tr => ∃ s : SS, Sat P gs A (k s (te0 :: tr)))
        (fun τ kn' hst hev hs => by
          have := exD_ok hF hT (X := fun _ => .bad) (fun _ h => h) (R := fun r rs => wpDP (calls P gs) P ops n0 p d D rest (i + 1) { env := putE τ.st.env o.dst r.v, lh := applyChg τ.st.lh r.chg, nid := τ.st.nid, dfs := τ.st.dfs } fun tr => ∃ s : SS, Sat P gs A (k s (⟨rs, r.chg.map (·.1)⟩ :: tr)))
            (fun E r rs kn'' he hs => by rw [he]; exact regDPT_ok hF hT rest (i + 1) _ _ _ hs) hs
          rw [hst, hev] at this
          exact this)
        (fun τ kn' hst hev hs => by
          have := skD_ok (R := wpDP (calls P gs) P ops n0 p d D rest (i + 1) { τ.st with env := putE τ.st.env o.dst (.d (.tup [])) } fun tr => ∃ s : SS, Sat P gs A (k s (te0 :: tr)))
            (fun E kn'' he hs => by rw [he]; exact regDPT_ok hF hT rest (i + 1) _ _ _ hs) hs
          rw [hst] at this
          exact this) h
      rw [hg]
      cases g with
      | true => exact hR
      | false => exact hR

theorem wpDP_mono {E : CallE} {ops : Array Oper} {n0 p : Nat} {d : DV} {D : List Nat} : ∀ (l : List Oper) (i : Nat) (σ : St) (K K' : List TE → Prop), (∀ tr, K tr → K' tr) → wpDP E P ops n0 p d D l i σ K → wpDP E P ops n0 p d D l i σ K'
  | [], i, σ, K, K', hk, h => hk _ h
  | o :: rest, i, σ, K, K', hk, h => by
    simp only [wpDP] at h ⊢
    split at h
    · rename_i hD; rw [if_pos hD]; exact wpDP_mono rest _ _ _ _ (fun tr => hk _) h
    rename_i hD
    rw [if_neg hD]
    split at h
    · rename_i hip
      rw [if_pos hip]
      obtain ⟨h1, f, args, rs, h2, h3, h4⟩ := h
      exact ⟨h1, f, args, rs, h2, h3, wpDP_mono rest _ _ _ _ (fun tr => hk _) h4⟩
    · rename_i hip
      rw [if_neg hip]
      split at h
      · rename_i hg; (try rw [hg]); exact wpBT_mono (fun r rs hr => ⟨hr.1, wpDP_mono rest _ _ _ _ (fun tr => hk _) hr.2⟩) _ _ h
      · rename_i hg; (try rw [hg]); exact wpDP_mono rest _ _ _ _ (fun tr => hk _) h
      · exact h.elim

theorem wpT_mono {E : CallE} {ops : Array Oper} {K K' : St → Prop} {KP : DV → St → Prop} (hk : ∀ σ, K σ → K' σ) : ∀ (l : List Oper) (σ : St), wpT E P ops l σ K KP → wpT E P ops l σ K' KP
  | [], σ, h => hk σ h
  | o :: rest, σ, h => by
    simp only [wpT] at h ⊢
    cases hg : guardA ops σ.env o with
    | none => rw [hg] at h; exact h
    | some b =>
      rw [hg] at h
      cases b with
      | false => simp only at h ⊢; exact wpT_mono hk rest _ h
      | true =>
        simp only at h ⊢
        cases hd : dfrOf σ.eval o.op with
        | some d => rw [hd] at h; simp only at h ⊢; exact wpT_mono hk rest _ h
        | none => rw [hd] at h; simp only at h ⊢; exact wpB_mono (fun r hr => wpT_mono hk rest _ hr) (fun _ _ h => h) _ _ h

theorem wpD_mono {E : CallE} {ops : Array Oper} {n0 : Nat} : ∀ (l : List Oper) (i : Nat) (σ : St) (K K' : St → List TE → Prop), (∀ σ tr, K σ tr → K' σ tr) → wpD E P ops n0 l i σ K → wpD E P ops n0 l i σ K'
  | [], i, σ, K, K', hk, h => hk _ _ h
  | o :: rest, i, σ, K, K', hk, h => by
    simp only [wpD] at h ⊢
    cases hg : guardA ops σ.env o with
    | none => rw [hg] at h; exact h
    | some b =>
      rw [hg] at h
      cases b with
      | false => simp only at h ⊢; exact wpD_mono rest _ _ _ _ (fun σ tr => hk σ _) h
      | true => simp only at h ⊢; exact wpBT_mono (fun r rs hr => ⟨hr.1, wpD_mono rest _ _ _ _ (fun σ tr => hk σ _) hr.2⟩) _ _ h

theorem iterN_mono {m : Nat} {body : (Exit → St → Prop) → St → Prop} {Q Q' : Exit → St → Prop} (hb : ∀ (R R' : Exit → St → Prop), (∀ e σ, R e σ → R' e σ) → ∀ σ, body R σ → body R' σ) (hq : ∀ e σ, Q e σ → Q' e σ) : ∀ n σ, iterN m body Q n σ → iterN m body Q' n σ
  | 0, _, h => h
  | n + 1, σ, ⟨σ₀, h1, h2⟩ => ⟨σ₀, h1, hb _ _ (fun e σ h => by
      cases e with
      | normal => exact iterN_mono hb hq n σ h
      | _ => exact hq _ _ h) _ h2⟩

theorem WP_mono {E : CallE} {QP : DV → St → Prop} : ∀ (code : Code) (Q Q' : Exit → St → Prop) (σ : St), (∀ e σ, Q e σ → Q' e σ) → WP E P code Q QP σ → WP E P code Q' QP σ := by
  intro code
  induction code with
  | skip => intro Q Q' σ hq h; exact hq _ _ h
  | label l => intro Q Q' σ hq h; exact hq _ _ h
  | exit id => intro Q Q' σ hq h; exact hq _ _ h
  | ret => intro Q Q' σ hq h; exact hq _ _ h
  | region id ops d =>
    intro Q Q' σ hq h
    cases d with
    | false => exact wpT_mono (fun σ => hq _ σ) _ _ h
    | true =>
      rcases h with h | h
      · exact .inl (wpD_mono _ _ _ _ _ (fun σ tr h => ⟨h.1, hq _ _ h.2⟩) h)
      · exact .inr h
  | seq a b iha ihb =>
    intro Q Q' σ hq h
    refine iha _ _ σ (fun e σ h => ?_) h
    cases e with
    | normal => exact ihb _ _ σ hq h
    | _ => exact hq _ _ h
  | cond c a b iha ihb =>
    intro Q Q' σ hq h
    simp only [WP] at h ⊢
    split at h
    · rename_i hc; exact iha _ _ σ hq h
    · rename_i hc; exact ihb _ _ σ hq h
    · exact h
  | block id c ih =>
    intro Q Q' σ hq h
    refine ih _ _ σ (fun e σ h => ?_) h
    cases e with
    | exit id' =>
      simp only [blockQ] at h ⊢
      split at h
      · rename_i hi; rw [if_pos hi]; exact hq _ _ h
      · rename_i hi; rw [if_neg hi]; exact hq _ _ h
    | _ => exact hq _ _ h
  | loop c ih =>
    intro Q Q' σ hq h
    obtain ⟨n, h⟩ := h
    exact ⟨n, iterN_mono (fun R R' hr σ h => ih R R' σ hr h) hq n σ h⟩
  | scope c ih =>
    intro Q Q' σ hq h
    refine ih _ _ σ (fun e σ h => ?_) h
    cases e with
    | goto l => exact h
    | _ => exact hq _ _ h
  | _ => intro Q Q' σ hq h; exact h

theorem Forg.trans {m : Nat} {σ τ υ : St} (h : Forg m σ τ) (k : Forg m τ υ) : Forg m σ υ := {
  nid := k.nid
  dfs := k.dfs.trans h.dfs
  args := h.args
  ex := by
    obtain ⟨π₁, a1, a2, a3, a4⟩ := h.ex
    obtain ⟨π₂, b1, b2, b3, b4⟩ := k.ex
    have some2 : ∀ b, (υ.lh b).isSome = true → (τ.lh (π₂ b)).isSome = true := fun b hb => by
      rcases b4 b with h1 | ⟨k', h1, h2, _⟩
      · rw [h1] at hb; cases hb
      · rw [h2]; rfl
    refine ⟨fun b => π₁ (π₂ b), fun b hb => (congrArg π₁ (b1 b hb)).trans (a1 b hb), fun b b' hb hb' he => b2 b b' hb hb' (a2 _ _ (some2 b hb) (some2 b' hb') he), fun t => ?_, fun b => ?_⟩
    · rcases b3 t with h1 | ⟨h1, h2⟩
      · exact .inl h1
      · rcases a3 t with h3 | ⟨h3, h4⟩
        · left; rw [h3] at h1; exact ren_undef h1.symm
        · right; exact ⟨by rw [h3, h1, ren_ren], h2⟩
    · rcases b4 b with h1 | ⟨k', h1, h2, h3⟩
      · exact .inl h1
      · right
        rcases a4 (π₂ b) with h4 | ⟨k'', h4, h5, h6⟩
        · rw [h2] at h4; cases h4
        · rw [h2] at h4
          cases h4
          refine ⟨k', h1, ?_, h3⟩
          rw [h5]
          simp only [List.map_map]
          have : (ren π₁ 8 ∘ ren π₂ 8) = ren (fun b => π₁ (π₂ b)) 8 := funext fun v => ren_ren π₁ π₂ 8 v
          rw [this] }

theorem iterN_forg {m : Nat} {body : (Exit → St → Prop) → St → Prop} {R : Exit → St → Prop} {n : Nat} {σ τ : St} (hf : Gh m σ τ) (h : iterN m body R n τ) : iterN m body R n σ := by
  cases n with
  | zero => exact h
  | succ n =>
    obtain ⟨σ₀, h1, h2⟩ := h
    exact ⟨σ₀, hf.trans h1, h2⟩

/-- Only these slots are known. -/
theorem keep_get (σ : SS) : ∀ (ts : List Nat) (E : EM) (t : Nat), (∀ t ∈ ts, t < 5461) → (ts.foldl (fun E t => EM.put 7 E t (σ.env.get t)) E).get t = if t ∈ ts then σ.env.get t else E.get t
  | [], E, t, _ => by simp
  | u :: ts, E, t, h => by
    rw [List.foldl_cons, keep_get σ ts _ t (fun t ht => h t (List.mem_cons_of_mem _ ht)), EM.get_put _ 7 E u t (by simpa [capE] using h u (by simp))]
    by_cases h1 : t ∈ ts
    · simp [h1]
    · by_cases h2 : t = u
      · subst h2; simp
      · simp [h1, h2]

theorem LM.get_map (f : Nat → Option LB) : ∀ (bs : List Nat) (b : Nat), LM.get (bs.map fun b => (b, f b)) b = if b ∈ bs then f b else none
  | [], b => rfl
  | c :: bs, b => by
    simp only [List.map_cons, LM.get, LM.get_map f bs b]
    by_cases h : c = b
    · subst h; simp
    · simp [h, Ne.symm h]

theorem okB1_ok {m : Nat} {o : Option LB} {r : Bool} (h : okB1 std m o r = true) : r = true ∧ ∀ k, o = some k → ∀ e ∈ k.els, bel m 8 e = true := by
  unfold okB1 at h
  split at h
  · simp only [std_and, Bool.and_eq_true] at h
    exact ⟨h.2, fun k hk e he => by cases hk; exact List.all_eq_true.1 h.1 e he⟩
  · exact ⟨h, fun k hk => by cases hk⟩

theorem okB_ok {nid : Nat} {σ : SS} : ∀ {bs : List Nat}, okB std nid σ bs = true → ∀ b ∈ bs, ∀ k, σ.lh.get b = some k → ∀ e ∈ k.els, bel nid 8 e = true
  | [], _, b, hb, _, _, _, _ => by cases hb
  | c :: r, h, b, hb, k, hk, e, he => by
    obtain ⟨h1, h2⟩ := okB1_ok (r := okB std nid σ r) h
    rcases List.mem_cons.1 hb with rfl | hb
    · exact h2 k hk e he
    · exact okB_ok h1 b hb k hk e he

theorem okBA_ok {nid : Nat} {σ : SS} : ∀ {az : List Nat}, okBA std nid σ az = true → ∀ t ∈ az, ∀ k, (blkA (σ.env.get t)).bind σ.lh.get = some k → ∀ e ∈ k.els, bel nid 8 e = true
  | [], _, b, hb, _, _, _, _ => by cases hb
  | c :: r, h, b, hb, k, hk, e, he => by
    obtain ⟨h1, h2⟩ := okB1_ok (r := okBA std nid σ r) h
    rcases List.mem_cons.1 hb with rfl | hb
    · exact h2 k hk e he
    · exact okBA_ok h1 b hb k hk e he

theorem idxA_some : ∀ {az : List Nat} {t j i : Nat}, idxA az t j = some i → ∃ n, i = j + n ∧ az[n]? = some t
  | [], t, j, i, h => by cases h
  | a :: r, t, j, i, h => by
    simp only [idxA] at h
    split at h
    · rename_i ha; cases h; subst ha; exact ⟨0, rfl, rfl⟩
    · obtain ⟨n, h1, h2⟩ := idxA_some h; exact ⟨n + 1, by omega, h2⟩

/-- The old name of a block that is named anew. -/
def oldN (E : EM) (m : Nat) (az : List Nat) (x : Nat) : Nat := if x < m then x else match (az[x - m]?).bind fun t => blkA (E.get t) with | some b => b | none => x

theorem headB_get (E : EM) (lh : LM) (m : Nat) : ∀ (az : List Nat) (j b : Nat), (headB E lh m az j).get b = if m + j ≤ b then (az[b - (m + j)]?).bind (fun t => (blkA (E.get t)).bind lh.get) else none
  | [], j, b => by simp [headB, LM.get]
  | t :: r, j, b => by
    simp only [headB, LM.get]
    by_cases h : m + j = b
    · subst h; simp
    · rw [if_neg h, headB_get E lh m r (j + 1) b]
      by_cases h2 : m + j ≤ b
      · rw [if_pos (by omega), if_pos h2]
        have : b - (m + j) = (b - (m + (j + 1))) + 1 := by omega
        rw [this, List.getElem?_cons_succ]
      · rw [if_neg (by omega), if_neg h2]

theorem LM.get_append : ∀ (l r : LM) (b : Nat), (l ++ r).get b = if b ∈ l.map (·.1) then l.get b else r.get b
  | [], r, b => by simp
  | (k, x) :: l, r, b => by
    rw [List.cons_append]
    simp only [LM.get, LM.get_append l r b, List.map_cons, List.mem_cons]
    by_cases h : k = b
    · simp [h]
    · have h' : ¬ b = k := fun e => h e.symm
      rw [if_neg h]
      by_cases hb : b ∈ l.map (·.1)
      · rw [if_pos hb, if_pos (.inr hb), if_neg h]
      · rw [if_neg hb, if_neg (fun hc => hc.elim h' hb)]

theorem distB_ok {E : EM} {bs : List Nat} : ∀ {az seen : List Nat}, distB E bs az seen = true → (∀ (i : Nat) (t b : Nat), az[i]? = some t → blkA (E.get t) = some b → b ∉ bs ∧ b ∉ seen) ∧
    ∀ (i j t u b : Nat), az[i]? = some t → az[j]? = some u → blkA (E.get t) = some b → blkA (E.get u) = some b → i = j
  | [], seen, _ => ⟨fun i t b h => by simp at h, fun i j t u b h => by simp at h⟩
  | a :: r, seen, h => by
    simp only [distB] at h
    split at h
    · rename_i b0 hb0
      simp only [Bool.and_eq_true, Bool.not_eq_true', List.contains_eq_mem, decide_eq_false_iff_not] at h
      obtain ⟨⟨h1, h2⟩, h3⟩ := h
      obtain ⟨i1, i2⟩ := distB_ok h3
      refine ⟨fun i t b hi hb => ?_, fun i j t u b hi hj hb hb' => ?_⟩
      · cases i with
        | zero => simp at hi; subst hi; rw [hb0] at hb; cases hb; exact ⟨h1, h2⟩
        | succ i =>
          obtain ⟨q1, q2⟩ := i1 i t b (by simpa using hi) hb
          exact ⟨q1, fun hc => q2 (List.mem_cons_of_mem _ hc)⟩
      · cases i with
        | zero =>
          cases j with
          | zero => rfl
          | succ j =>
            simp at hi; subst hi
            rw [hb0] at hb; cases hb
            exact absurd (List.mem_cons_self ..) (i1 j u b0 (by simpa using hj) hb').2
        | succ i =>
          cases j with
          | zero =>
            simp at hj; subst hj
            rw [hb0] at hb'; cases hb'
            exact absurd (List.mem_cons_self ..) (i1 i t b0 (by simpa using hi) hb).2
          | succ j => exact congrArg Nat.succ (i2 i j t u b (by simpa using hi) (by simpa using hj) hb hb')
    · rename_i hb0
      obtain ⟨i1, i2⟩ := distB_ok h
      refine ⟨fun i t b hi hb => ?_, fun i j t u b hi hj hb hb' => ?_⟩
      · cases i with
        | zero => simp at hi; subst hi; rw [hb0] at hb; cases hb
        | succ i => exact i1 i t b (by simpa using hi) hb
      · cases i with
        | zero => simp at hi; subst hi; rw [hb0] at hb; cases hb
        | succ i =>
          cases j with
          | zero => simp at hj; subst hj; rw [hb0] at hb'; cases hb'
          | succ j => exact congrArg Nat.succ (i2 i j t u b (by simpa using hi) (by simpa using hj) hb hb')

theorem okS_forg {ts bs az : List Nat} {m : Nat} {σ : SS} {G : Nat → Option LB} (h : okS ts az bs m σ = true) (hG : ∀ b ∈ bs, G b = none ∨ ∃ k, G b = some k ∧ σ.lh.get b = some { k with els := k.els.map (ren (oldN σ.env m az) 8) } ∧ ∀ e ∈ k.els, bel (m + az.length) 8 e = true) (hba : okBA std m σ az = true) :
    Forg m σ.st (SS.st ⟨EM.of ts (ts.map fun t => headA m az t (σ.env.get t)) .nil, bs.map (fun b => (b, G b)) ++ headB σ.env σ.lh m az 0, m + az.length, 0, true⟩) := by
  simp only [okS, Bool.and_eq_true, List.all_eq_true, decide_eq_true_eq] at h
  obtain ⟨⟨h1, h2⟩, h3⟩ := h
  obtain ⟨d1, d2⟩ := distB_ok h3
  have hlow : ∀ b, b < m → oldN σ.env m az b = b := fun b hb => by unfold oldN; rw [if_pos hb]
  have hkeys : (bs.map fun b => (b, G b)).map (·.1) = bs := by rw [List.map_map]; exact List.map_id bs
  have hget : ∀ b, LM.get (bs.map (fun b => (b, G b)) ++ headB σ.env σ.lh m az 0) b = if b ∈ bs then G b else if m ≤ b then (az[b - m]?).bind (fun t => (blkA (σ.env.get t)).bind σ.lh.get) else none := fun b => by
    rw [LM.get_append, hkeys, LM.get_map, headB_get]
    by_cases hb' : b ∈ bs
    · simp [hb']
    · simp [hb']
  -- a plain block keeps its name
  have hplain : ∀ b, b ∈ bs → oldN σ.env m az b = b := fun b hb => by
    cases has : az with
    | nil => unfold oldN; split <;> simp
    | cons a r =>
      rw [has] at h2
      simp only [List.isEmpty_cons, Bool.false_or, List.all_eq_true, decide_eq_true_eq] at h2
      rw [← has]; exact hlow b (h2 b hb)
  have hacc : ∀ b, b ∉ bs → m ≤ b → ∀ k, (az[b - m]?).bind (fun t => (blkA (σ.env.get t)).bind σ.lh.get) = some k → ∃ t b', az[b - m]? = some t ∧ blkA (σ.env.get t) = some b' ∧ oldN σ.env m az b = b' ∧ σ.lh.get b' = some k := fun b hb hm k hk => by
    obtain ⟨t, ht, hk⟩ := Option.bind_eq_some_iff.1 hk
    obtain ⟨b', hb', hk⟩ := Option.bind_eq_some_iff.1 hk
    refine ⟨t, b', ht, hb', ?_, hk⟩
    unfold oldN
    rw [if_neg (by omega), ht, Option.bind_some, hb']
  refine ⟨Nat.le_add_right _ _, rfl, (fun p hp => by cases hp), oldN σ.env m az, hlow, fun b b' hs hs' he => ?_, fun t => ?_, fun b => ?_⟩
  · have hs : (LM.get (bs.map (fun b => (b, G b)) ++ headB σ.env σ.lh m az 0) b).isSome = true := hs
    have hs' : (LM.get (bs.map (fun b => (b, G b)) ++ headB σ.env σ.lh m az 0) b').isSome = true := hs'
    rw [hget] at hs hs'
    by_cases p1 : b ∈ bs
    · rw [hplain b p1] at he
      by_cases p2 : b' ∈ bs
      · rw [hplain b' p2] at he; exact he
      · rw [if_neg p2] at hs'
        split at hs'
        · rename_i hm
          obtain ⟨k, hk⟩ := Option.isSome_iff_exists.1 hs'
          obtain ⟨t, c, q1, q2, q3, q4⟩ := hacc b' p2 hm k hk
          rw [q3] at he; subst he
          exact absurd p1 (d1 _ _ _ q1 q2).1
        · cases hs'
    · rw [if_neg p1] at hs
      split at hs
      · rename_i hm
        obtain ⟨k, hk⟩ := Option.isSome_iff_exists.1 hs
        obtain ⟨t, c, q1, q2, q3, q4⟩ := hacc b p1 hm k hk
        rw [q3] at he
        by_cases p2 : b' ∈ bs
        · rw [hplain b' p2] at he
          subst he
          exact absurd p2 (d1 _ _ _ q1 q2).1
        · rw [if_neg p2] at hs'
          split at hs'
          · rename_i hm'
            obtain ⟨k', hk'⟩ := Option.isSome_iff_exists.1 hs'
            obtain ⟨t', c', r1, r2, r3, r4⟩ := hacc b' p2 hm' k' hk'
            rw [r3] at he; subst he
            have := d2 _ _ _ _ _ q1 r1 q2 r2
            omega
          · cases hs'
      · cases hs
  · have := keep_get ⟨(EM.of ts (ts.map fun t => headA m az t (σ.env.get t)) .nil), [], 0, 0, true⟩ [] .nil t (fun t ht => by cases ht)
    have key : ∀ (g : Nat → AV), (∀ t ∈ ts, t < 5461) → ∀ E t, (EM.of ts (ts.map g) E).get t = if t ∈ ts then g t else E.get t := fun g => by
      clear h1 h2 h3 d1 d2 hget hkeys hplain hacc hlow this
      induction ts with
      | nil => intro _ E t; simp [EM.of]
      | cons u ts ih =>
        intro hlt E t
        simp only [List.map_cons, EM.of]
        rw [ih (fun t ht => hlt t (List.mem_cons_of_mem _ ht)), EM.get_put _ 7 E u t (by simpa [capE] using hlt u (by simp))]
        by_cases a : t ∈ ts
        · simp [a]
        · by_cases b : t = u
          · subst b; simp
          · simp [a, b]
    have e : (SS.st ⟨EM.of ts (ts.map fun t => headA m az t (σ.env.get t)) .nil, bs.map (fun b => (b, G b)) ++ headB σ.env σ.lh m az 0, m + az.length, 0, true⟩).env t = if t ∈ ts then headA m az t (σ.env.get t) else EM.nil.get t :=
      key _ (fun t ht => (h1 t ht).1) .nil t
    by_cases ht : t ∈ ts
    · right
      rw [e, if_pos ht]
      have hok := (h1 t ht).2
      show σ.env.get t = _ ∧ bel (m + az.length) 8 _ = true
      unfold headA
      split
      · rename_i j hj
        rw [hj, if_pos (by rfl)] at hok
        obtain ⟨n, hn, has⟩ := idxA_some hj
        have hn : j = n := by omega
        subst hn
        have hlen : j < az.length := (List.getElem?_eq_some_iff.1 has).1
        have hold : ∀ b, blkA (σ.env.get t) = some b → oldN σ.env m az (m + j) = b := fun b hb => by
          unfold oldN
          rw [if_neg (by omega), show m + j - m = j by omega, has, Option.bind_some, hb]
        unfold slotOk at hok
        generalize hv : σ.env.get t = v at hok hold
        cases v with
        | slc b es o l => exact ⟨by simp only [setA, ren, hold b rfl], by simp only [setA, bel, decide_eq_true_eq]; omega⟩
        | loc b es i fo => exact ⟨by simp only [setA, ren, hold b rfl], by simp only [setA, bel, decide_eq_true_eq]; omega⟩
        | _ => exact ⟨(ren_bel hlow 8 _ hok).symm, bel_mono (Nat.le_add_right _ _) 8 _ hok⟩
      · rename_i hj
        rw [hj, if_neg (by simp)] at hok
        exact ⟨(ren_bel hlow 8 _ hok).symm, bel_mono (Nat.le_add_right _ _) 8 _ hok⟩
    · left; rw [e, if_neg ht]; rfl
  · have hrb : ∀ (k : LB), (∀ e ∈ k.els, bel m 8 e = true) → ({ k with els := k.els.map (ren (oldN σ.env m az) 8) } : LB) = k := fun k hk => by
      have : k.els.map (ren (oldN σ.env m az) 8) = k.els := by
        calc k.els.map (ren (oldN σ.env m az) 8) = k.els.map id := List.map_congr_left fun e he => ren_bel hlow 8 e (hk e he)
          _ = k.els := List.map_id _
      rw [this]
    show LM.get (bs.map (fun b => (b, G b)) ++ headB σ.env σ.lh m az 0) b = none ∨ ∃ k, LM.get (bs.map (fun b => (b, G b)) ++ headB σ.env σ.lh m az 0) b = some k ∧ σ.lh.get (oldN σ.env m az b) = _ ∧ ∀ e ∈ k.els, bel (m + az.length) 8 e = true
    rw [hget]
    by_cases hb' : b ∈ bs
    · rw [if_pos hb', hplain b hb']; exact hG b hb'
    · rw [if_neg hb']
      by_cases hm : m ≤ b
      · rw [if_pos hm]
        cases hl : (az[b - m]?).bind (fun t => (blkA (σ.env.get t)).bind σ.lh.get) with
        | none => exact .inl rfl
        | some k =>
          obtain ⟨t, c, q1, q2, q3, q4⟩ := hacc b hb' hm k hl
          have hk := okBA_ok hba t (List.mem_of_getElem? q1) k (by rw [q2]; exact q4)
          exact .inr ⟨k, rfl, by rw [q3, q4, hrb k hk], fun e he => bel_mono (Nat.le_add_right _ _) 8 _ (hk e he)⟩
      · rw [if_neg hm]; exact .inl rfl

theorem posA_some {E : EM} : ∀ {az : List Nat} {x j i : Nat}, posA E az x j = some i → ∃ n t, i = j + n ∧ az[n]? = some t ∧ blkA (E.get t) = some x
  | [], x, j, i, h => by cases h
  | t :: r, x, j, i, h => by
    simp only [posA] at h
    split at h
    · rename_i b hb
      split at h
      · rename_i hx; subst hx; cases h; exact ⟨0, t, rfl, rfl, hb⟩
      · obtain ⟨n, u, h1, h2, h3⟩ := posA_some h
        exact ⟨n + 1, u, by omega, by simpa using h2, h3⟩
    · obtain ⟨n, u, h1, h2, h3⟩ := posA_some h
      exact ⟨n + 1, u, by omega, by simpa using h2, h3⟩

theorem old_new {E : EM} {m : Nat} {az : List Nat} {b : Nat} (h : (decide (b < m) || (posA E az b 0).isSome) = true) : oldN E m az (newN E m az b) = b ∧ newN E m az b < m + az.length := by
  unfold newN
  cases hp : posA E az b 0 with
  | none =>
    rw [hp] at h
    simp at h
    refine ⟨?_, by simp only; omega⟩
    unfold oldN; rw [if_pos h]
  | some j =>
    obtain ⟨n, t, h1, h2, h3⟩ := posA_some hp
    have hj : j = n := by omega
    subst hj
    have hlen : j < az.length := (List.getElem?_eq_some_iff.1 h2).1
    refine ⟨?_, show m + j < m + az.length by omega⟩
    show oldN E m az (m + j) = b
    unfold oldN
    rw [if_neg (by omega), show m + j - m = j by omega, h2, Option.bind_some, h3]

theorem renE_ok {E : EM} {m : Nat} {az : List Nat} {e : AV} (h : okAE E m az e = true) : ren (oldN E m az) 8 (renE E m az e) = e ∧ bel (m + az.length) 8 (renE E m az e) = true := by
  unfold okAE at h
  split at h
  · rename_i cs
    have one : ∀ c, okA1 E m az c = true → ren (oldN E m az) 7 (ren1 E m az c) = c ∧ bel (m + az.length) 7 (ren1 E m az c) = true := fun c hc => by
      cases c with
      | d v => exact ⟨rfl, rfl⟩
      | zc => exact ⟨rfl, rfl⟩
      | slc b es off len => obtain ⟨q1, q2⟩ := old_new hc; exact ⟨by simp only [ren1, ren, q1], by simpa only [ren1, bel, decide_eq_true_eq] using q2⟩
      | loc b es i fo => obtain ⟨q1, q2⟩ := old_new hc; exact ⟨by simp only [ren1, ren, q1], by simpa only [ren1, bel, decide_eq_true_eq] using q2⟩
      | _ => simp [okA1] at hc
    have h := List.all_eq_true.1 h
    constructor
    · simp only [renE, ren, List.map_map]
      congr 1
      calc cs.map (ren (oldN E m az) 7 ∘ ren1 E m az) = cs.map id := List.map_congr_left fun c hc => (one c (h c hc)).1
        _ = cs := List.map_id _
    · simp only [renE, bel, List.all_map, List.all_eq_true]
      exact fun c hc => (one c (h c hc)).2
  · exact ⟨rfl, rfl⟩
  · cases h

theorem onlyL_get (kept : List Nat) : ∀ (l : LM) (b : Nat), (onlyL kept l).get b = if kept.contains b = true then l.get b else none
  | [], b => by simp [onlyL, LM.get]
  | (k, x) :: r, b => by
    simp only [onlyL]
    by_cases hk : kept.contains k = true
    · rw [if_pos hk]
      simp only [LM.get, onlyL_get kept r b]
      by_cases e : k = b
      · subst e; simp only [if_pos, hk]
      · simp only [e, if_false]
    · rw [if_neg hk, onlyL_get kept r b]
      simp only [LM.get]
      by_cases e : k = b
      · subst e; simp only [if_neg hk]
      · simp only [e, if_false]

theorem headT_ok {bs : List Nat} {σ : SS} {K : SS → Tree} (h : Sat P gs A (headT std bs σ K)) : ∃ σ', Sat P gs A (K σ') ∧ σ'.nid = σ.nid ∧ ∀ m υ, Gh m σ'.st υ → Gh m σ.st υ := by
  unfold headT at h
  split at h
  · exact ⟨σ, h, rfl, fun _ _ h => h⟩
  · split at h
    · exact ⟨σ, h, rfl, fun _ _ h => h⟩
    · rename_i b hb
      split at h
      · rename_i q hq
        split at h
        · rename_i hk
          obtain ⟨h1, h2⟩ := h
          refine ⟨_, h2, rfl, fun m υ hg => Gh.frzn ?_ hg⟩
          refine ⟨rfl, rfl, rfl, b, q, ?_⟩
          have h1 : frzElsOk σ.lh (keptN bs σ.env) q.els = true := h1
          simp only [frzElsOk, Bool.and_eq_true, List.all_eq_true, Bool.not_eq_true'] at h1
          obtain ⟨h3, h4⟩ := h1
          obtain ⟨ds, hds⟩ := Option.isSome_iff_exists.1 h3
          have hmem : ∀ x, (keptN bs σ.env).contains x = true → x ∉ q.els.flatMap (reach σ.lh.get 8) := fun x hx hn => by
            have := h4 x hn
            rw [hx] at this; cases this
          refine ⟨ds, hq, hds, hmem b hk, ?_, fun x hx => ?_⟩
          · show LM.get (LM.set _ b _) b = _
            rw [LM.get_set, if_pos rfl]
            simp only [std, frzEls, hds, Option.getD_some]
          · show LM.get (LM.set _ b _) x = none ∨ LM.get (LM.set _ b _) x = σ.lh.get x ∧ _
            rw [LM.get_set, if_neg hx, onlyL_get]
            split
            · rename_i hc; exact .inr ⟨rfl, hmem x hc⟩
            · exact .inl rfl
        · exact h.elim
      · exact h.elim

theorem keepT_ok {ts bs : List Nat} {m : Nat} {σ : SS} {t : Tree} (h : Sat P gs A (keepT std ts bs m σ t)) : Sat P gs A t ∧ Forg m σ.st (SS.st ⟨EM.of ts (headVs ts bs m σ.env) .nil, headBs bs m σ, m + (accS bs).length, 0, true⟩) := by
  unfold keepT at h
  split at h
  · rename_i hok
    obtain ⟨h1, h2⟩ := h
    rw [std_and, Bool.and_eq_true] at h1
    rw [Bool.and_eq_true, Bool.and_eq_true] at hok
    obtain ⟨k1, k2, k3⟩ := hok
    have hlow : ∀ b, b < m → oldN σ.env m (accS bs) b = b := fun b hb => by unfold oldN; rw [if_pos hb]
    have hdis : ∀ b ∈ blkS bs, (renS bs).contains b = false := fun b hb => by simpa using List.all_eq_true.1 k3 b hb
    refine ⟨h2, ?_⟩
    have key := okS_forg (G := fun b => if (renS bs).contains b = true then renB σ.env m (accS bs) (σ.lh.get b) else σ.lh.get b) k1 (fun b hb => by
      rcases List.mem_append.1 hb with hb | hb
      · rw [if_neg (by rw [hdis b hb]; exact fun h => nomatch h)]
        cases hl : σ.lh.get b with
        | none => exact .inl rfl
        | some k =>
          have hk := okB_ok h1.1 b hb k hl
          have e : k.els.map (ren (oldN σ.env m (accS bs)) 8) = k.els := by
            calc k.els.map (ren (oldN σ.env m (accS bs)) 8) = k.els.map id := List.map_congr_left fun e he => ren_bel hlow 8 e (hk e he)
              _ = k.els := List.map_id _
          exact .inr ⟨k, rfl, by rw [e], fun e he => bel_mono (Nat.le_add_right _ _) 8 _ (hk e he)⟩
      · rw [if_pos (by simpa using hb)]
        cases hl : σ.lh.get b with
        | none => exact .inl rfl
        | some k =>
          have hk := List.all_eq_true.1 k2 b hb
          rw [hl] at hk
          have hk := List.all_eq_true.1 hk
          refine .inr ⟨_, rfl, ?_, fun e he => ?_⟩
          · have e : (k.els.map (renE σ.env m (accS bs))).map (ren (oldN σ.env m (accS bs)) 8) = k.els := by
              rw [List.map_map]
              calc k.els.map (ren (oldN σ.env m (accS bs)) 8 ∘ renE σ.env m (accS bs)) = k.els.map id := List.map_congr_left fun e he => (renE_ok (hk e he)).1
                _ = k.els := List.map_id _
            simp only [e]
          · obtain ⟨c, hc, rfl⟩ := List.mem_map.1 he
            exact (renE_ok (hk c hc)).2) h1.2
    have e : (blkS bs ++ renS bs).map (fun b => (b, if (renS bs).contains b = true then renB σ.env m (accS bs) (σ.lh.get b) else σ.lh.get b)) ++ headB σ.env σ.lh m (accS bs) 0 = headBs bs m σ := by
      unfold headBs
      rw [List.map_append, List.append_assoc]
      congr 1
      · exact List.map_congr_left fun b hb => by rw [if_neg (by rw [hdis b hb]; exact fun h => nomatch h)]
      · congr 1
        exact List.map_congr_left fun b hb => by rw [if_pos (by simpa using hb)]
    rw [e] at key
    exact key
  · exact h.elim

theorem indOk_ok {ops : Array Oper} {tr : List TE} (h : indOk ops tr = true) : ((loose ops).all fun p => indepB (tr.getD p.1 te0) (tr.getD p.2 te0)) = true := by
  unfold indOk at h
  split at h
  · rename_i hw
    have key : ∀ i, (tr.getD i te0).writes = [] := fun i => by
      by_cases hi : i < tr.length
      · have e : tr.getD i te0 = tr[i] := by simp [List.getD, hi]
        have := List.all_eq_true.1 hw tr[i] (List.getElem_mem _)
        rw [e]; simpa using this
      · have e : tr.getD i te0 = te0 := by simp [List.getD, List.getElem?_eq_none (Nat.le_of_not_lt hi)]
        rw [e]; rfl
    refine List.all_eq_true.2 fun p _ => ?_
    unfold indepB
    rw [key p.1, key p.2]; rfl
  · exact h

theorem execT_ok (hF : SFok P gs F H) (hT : TabOk P T) {lv : Nat → List Nat × List Nat} : ∀ (code : Code) (σ : SS) (stk : List Fm) (k : Exit → SS → Tree), (∀ e s, Sat P gs A (k e s) → WPstk (calls P gs) P A.Qe A.Bk A.QP stk e s.st) →
    Sat P gs A (execT std F H T lv code σ stk k) → WP (calls P gs) P code (WPstk (calls P gs) P A.Qe A.Bk A.QP stk) A.QP σ.st := by
  intro code
  induction code with
  | skip => intro σ stk k hk h; exact hk _ _ h
  | label l => intro σ stk k hk h; exact hk _ _ h
  | exit id => intro σ stk k hk h; exact hk _ _ h
  | ret => intro σ stk k hk h; exact hk _ _ h
  | region id ops d =>
    intro σ stk k hk h
    simp only [execT] at h
    split at h
    · exact h
    cases d with
    | false =>
      refine wpT_mono (fun σ' hs => ?_) _ _ (regTT_ok hF hT (fun d σ hd hs => hs σ hd) ops.toList σ _ _ _ GEok_nil (fun _ _ _ h => by cases h) h)
      obtain ⟨s, rfl, hs⟩ := hs
      exact hk _ _ hs
    | true =>
      by_cases hW : ∃ p d, Sat P gs A (panReg std F H T ops σ p d)
      · obtain ⟨p, d, hs⟩ := hW
        unfold panReg at hs
        split at hs
        · rename_i hsk
          refine .inr ⟨p, d, _, hsk, wpDP_mono _ _ _ _ _ (fun tr hs => ?_) (regDPT_ok hF hT ops.toList 0 σ [] _ hs)⟩
          obtain ⟨s, hs⟩ := hs
          split at hs
          · rename_i hi
            exact ⟨fun p hp => indepB_ok (List.all_eq_true.1 (indOk_ok hi) p hp), hs _ rfl⟩
          · exact hs.elim
        · exact hs.elim
      refine .inl (wpD_mono _ _ _ _ _ (fun σ' tr hs => ?_) (regDT_ok hF hT (fun p d hs => hW ⟨p, d, hs⟩) ops.toList 0 σ [] _ h))
      obtain ⟨s, rfl, hs⟩ := hs
      split at hs
      · rename_i hi
        exact ⟨fun p hp => indepB_ok (List.all_eq_true.1 (indOk_ok hi) p hp), hk _ _ hs⟩
      · exact hs.elim
  | seq a b iha ihb =>
    intro σ stk k hk h
    exact iha σ (.seq b :: stk) _ (fun e s hs => by
      cases e with
      | normal => exact ihb s stk k hk hs
      | _ => exact hk _ _ hs) h
  | cond c a b iha ihb =>
    intro σ stk k hk h
    simp only [execT] at h
    simp only [WP]
    split at h
    · rename_i y hy
      rw [SS.eval_st, hy]
      split at h
      · rename_i t
        split at h
        · obtain ⟨hb, h⟩ := h
          simp only [std, Bool.and_eq_true, beq_iff_eq] at hb
          cases y <;> first | (simp [isBoolD] at hb; done) | skip
          rename_i v
          have hv : v = σ.kb := hb.2
          subst hv
          cases hkb : σ.kb with
          | true => rw [hkb] at h; exact iha σ stk k hk h
          | false => rw [hkb] at h; exact ihb σ stk k hk h
        · split at h
          · rename_i ht
            obtain ⟨hb, h1, h2⟩ := h
            cases y <;> first | (simp [std, isBoolD] at hb; done) | skip
            rename_i v
            have hst : ∀ kt kb, SS.st ⟨EM.put 7 σ.env t (.d (.bool v)), σ.lh, σ.nid, kt, kb⟩ = σ.st := fun kt kb => by
              have : (EM.put 7 σ.env t (.d (.bool v))).get = σ.env.get := by
                funext j
                rw [EM.get_put _ 7 σ.env t j (by simpa [capE] using ht)]
                split
                · rename_i hj; subst hj; exact hy.symm
                · rfl
              simp only [SS.st, this]
            cases v with
            | true => have := iha _ stk k hk (h1 rfl); rw [hst] at this; exact this
            | false => have := ihb _ stk k hk (h2 rfl); rw [hst] at this; exact this
          · exact h.elim
      · obtain ⟨hb, h1, h2⟩ := h
        cases y <;> first | (simp [std, isBoolD] at hb; done) | skip
        rename_i t
        cases t with
        | true => exact iha σ stk k hk (h1 rfl)
        | false => exact ihb σ stk k hk (h2 rfl)
    · exact h.elim
  | block id c ih =>
    intro σ stk k hk h
    exact ih σ (.block id :: stk) _ (fun e s hs => by
      cases e with
      | exit id' =>
        simp only [blockT] at hs
        simp only [WPstk, blockQ]
        split at hs
        · rename_i hi; rw [if_pos hi]; exact hk _ _ hs
        · rename_i hi; rw [if_neg hi]; exact hk _ _ hs
      | _ => exact hk _ _ hs) h
  | loop c ih =>
    intro σ stk k hk h
    simp only [execT] at h
    obtain ⟨σ', h, hn, hg⟩ := headT_ok h
    obtain ⟨⟨n, h⟩, hf⟩ := keepT_ok h
    have hf' := hg _ _ (.forg hf (.refl _))
    rw [hn] at hf' h
    exact ⟨n, iterN_forg hf' h⟩
  | scope c ih =>
    intro σ stk k hk h
    exact ih σ (.scope :: stk) _ (fun e s hs => by
      cases e with
      | goto l => exact hs.elim
      | _ => exact hk _ _ hs) h
  | _ => intro σ stk k hk h; exact h.elim

theorem resT_ok (hF : SFok P gs F H) (hT : TabOk P T) {lv : Nat → List Nat × List Nat} {kend : Exit → SS → Tree} (hend : ∀ e s, Sat P gs A (kend e s) → A.Qe e s.st) : ∀ (stk : List Fm) (e : Exit) (s : SS),
    Sat P gs A (resT std F H T lv kend stk e s) → WPstk (calls P gs) P A.Qe A.Bk A.QP stk e s.st
  | [], e, s, h => hend e s h
  | .seq b :: r, e, s, h => by
    cases e with
    | normal => exact execT_ok hF hT b s r _ (resT_ok hF hT hend r) h
    | _ => exact resT_ok hF hT hend r _ s h
  | .block id :: r, e, s, h => by
    cases e with
    | exit id' =>
      simp only [resT, blockT] at h
      simp only [WPstk, blockQ]
      split at h
      · rename_i hi; rw [if_pos hi]; exact resT_ok hF hT hend r _ s h
      · rename_i hi; rw [if_neg hi]; exact resT_ok hF hT hend r _ s h
    | _ => exact resT_ok hF hT hend r _ s h
  | .scope :: r, e, s, h => by
    cases e with
    | goto l => exact h.elim
    | _ => exact resT_ok hF hT hend r _ s h
  | .back D ts bs nid :: r, e, s, h => by
    cases e with
    | normal =>
      have h : Sat P gs A (kBack std D ts bs nid s) := h
      unfold kBack at h
      obtain ⟨s', h, hn, hg⟩ := headT_ok h
      obtain ⟨h, hf⟩ := keepT_ok h
      exact ⟨_, _, h, hg _ _ (.forg hf (.refl _))⟩
    | _ => exact resT_ok hF hT hend r _ s h
end
end Go.Proofs.Am

set_option linter.unusedVariables false
set_option linter.unusedSimpArgs false
namespace Go.Proofs.Am
open Go Go.RowKit

/-- A tree to be evaluated: a name instead of what is shown of it. -/
structure Box (C : Tree → Prop) (t : Tree) : Prop where
  h : C t

theorem zE2 {t : Tree} {C0 : Tree → Prop} (h : ∀ (C : Tree → Prop), C = C0 → Box C t) : C0 t := (h _ rfl).h

section
variable {P : Program} {gs : List Nat} {T : Nat → Option TRow} {F : SF} {H : SH} {A : Aim}

theorem sat_ret {vs : List AV} {lh : LM} {nid : Nat} : Sat P gs A (.fin (.ret vs lh nid)) = A.Q vs lh nid := rfl
theorem sat_back {D : Nat} {vs : List AV} {blks : LM} : Sat P gs A (.fin (.back D vs blks)) = A.Bk D vs blks := rfl
theorem sat_ite {b : Bool} {x y : Tree} : Sat P gs A (.ite b x y) = ((b = true → Sat P gs A x) ∧ (b = false → Sat P gs A y)) := rfl
theorem sat_req {b : Bool} {x : Tree} : Sat P gs A (.req b x) = (b = true ∧ Sat P gs A x) := rfl

def hasBack (D : Nat) : List Fm → Bool
  | [] => false
  | .back d _ _ _ :: r => d == D || hasBack D r
  | _ :: r => hasBack D r

theorem WPstk_bk {E : CallE} {Qe : Exit → St → Prop} {Bk Bk' : Nat → List AV → LM → Prop} {QP : DV → St → Prop} {D : Nat} (hb : ∀ d, d ≠ D → Bk d = Bk' d) : ∀ (stk : List Fm), hasBack D stk = false → WPstk E P Qe Bk QP stk = WPstk E P Qe Bk' QP stk
  | [], _ => rfl
  | .seq b :: r, h => by simp only [WPstk, WPstk_bk hb r h]
  | .block id :: r, h => by simp only [WPstk, WPstk_bk hb r h]
  | .scope :: r, h => by simp only [WPstk, WPstk_bk hb r h]
  | .back d ts bs nid :: r, h => by
    simp only [hasBack, Bool.or_eq_false_iff, beq_eq_false_iff_ne] at h
    simp only [WPstk, WPstk_bk hb r h.2, hb d h.1]

/-- The aim within a loop: back at its head with less to go. -/
def Aim.into {ι : Type} (A : Aim) (D : Nat) (V : ι → List AV) (B : ι → LM) (μ : ι → Nat) (i : ι) : Aim :=
  { A with Bk := fun d vs blks => if d = D then ∃ j, μ j < μ i ∧ vs = V j ∧ blks = B j else A.Bk d vs blks }

theorem zJ1 {ι : Type} {D : Nat} {V : ι → List AV} {B : ι → LM} {μ : ι → Nat} {i : ι} {vs : List AV} {blks : LM} : (A.into D V B μ i).Bk D vs blks = ∃ j, μ j < μ i ∧ vs = V j ∧ blks = B j := by simp [Aim.into]
theorem zH3 {ι : Type} {D d : Nat} {V : ι → List AV} {B : ι → LM} {μ : ι → Nat} {i : ι} {vs : List AV} {blks : LM} (h : d ≠ D) : (A.into D V B μ i).Bk d vs blks = A.Bk d vs blks := by simp [Aim.into, h]
theorem into_q {ι : Type} {D : Nat} {V : ι → List AV} {B : ι → LM} {μ : ι → Nat} {i : ι} {vs : List AV} {lh : LM} {nid : Nat} : (A.into D V B μ i).Q vs lh nid = A.Q vs lh nid := rfl

/-- The end of a function, as a walk asks for it. -/
def EndOk (P : Program) (gs : List Nat) (A : Aim) (kend : Exit → SS → Tree) : Prop := ∀ (Bk : Nat → List AV → LM → Prop) e s, Sat P gs { A with Bk := Bk } (kend e s) → A.Qe e s.st

/-- A LOOP: a family of states at its head, each of which leads to an earlier one. -/
theorem zE1 {I : SI} {F' : SF} {kend : SI → Exit → SS → Tree} (hI : I = std) (hF' : F' = F) (hF : SFok P gs F H) (hT : TabOk P T) (hend : EndOk P gs A (kend std)) {lv : Nat → List Nat × List Nat} {c : Code} {ts : List Nat} {vs : List AV} {blks : LM} {nid na : Nat} {stk : List Fm}
    {ι : Type} (D : Nat) (V : ι → List AV) (B : ι → LM) (μ : ι → Nat) (bs : List Nat) (i0 : ι) (hs : hasBack D stk = false) (hna : na = (accS bs).length) (hv : vs = V i0) (hb : blks = B i0)
    (step : ∀ i, Sat P gs (A.into D V B μ i) (execT I F' H T lv c ⟨EM.of ts (V i) .nil, B i, nid + na, 0, true⟩ (.back D ts bs nid :: stk) (resT I F' H T lv (kend I) (.back D ts bs nid :: stk)))) : Sat P gs A (.loop c ts vs blks nid na stk) := by
  subst hv hb hI hF' hna
  have key : ∀ (n : Nat) (i : ι), μ i < n → iterN nid (fun Q' σ' => WP (calls P gs) P c Q' A.QP σ') (WPstk (calls P gs) P A.Qe A.Bk A.QP stk) n (SS.st ⟨EM.of ts (V i) .nil, B i, nid + (accS bs).length, 0, true⟩) := by
    intro n
    induction n with
    | zero => intro i h; omega
    | succ n ih =>
      intro i hi
      have hw := execT_ok hF hT c _ _ _ (resT_ok hF hT (A := A.into D V B μ i) (fun e s h => hend _ e s h) (.back D ts bs nid :: stk)) (step i)
      refine ⟨_, .refl _, WP_mono c _ _ _ (fun e σ' hq => ?_) hw⟩
      have hstk : WPstk (calls P gs) P A.Qe (A.into D V B μ i).Bk A.QP stk = WPstk (calls P gs) P A.Qe A.Bk A.QP stk := WPstk_bk (D := D) (fun d hd => by funext vs blks; exact zH3 hd) stk hs
      cases e with
      | normal =>
        obtain ⟨vs, blks, h1, h2⟩ := hq
        rw [zJ1] at h1
        obtain ⟨j, h3, rfl, rfl⟩ := h1
        exact iterN_forg h2 (ih j (by omega))
      | _ =>
        have hq : WPstk (calls P gs) P A.Qe (A.into D V B μ i).Bk A.QP stk _ σ' := hq
        rw [hstk] at hq
        exact hq
  exact ⟨μ i0 + 1, key _ i0 (by omega)⟩

/-! ## The end of a function -/

def valT : TM → (AV → Tree) → Tree
  | .val v, k => k v
  | .req b m, k => .req b (valT m k)
  | _, _ => .bad

/-- What is handed back. -/
def resK (I : SI) (T : Nat → Option TRow) (σ : SS) : List ResultVar → (List AV → Tree) → Tree
  | [], k => k []
  | .tmp t :: rs, k => resK I T σ rs fun vs => k (σ.env.get t :: vs)
  | .cell a t :: rs, k => match rowTi T t, σ.env.get a with
    | some ti, .loc b _ i fo => (match σ.lh.get b with
      | some q => if i < q.els.length then
          (match rowTi T q.ty with
          | some te => if te.sz = q.es then valT (aloadT I ti q.es te.agg (q.els.getD i .undef) fo) fun v => resK I T σ rs fun vs => k (v :: vs) else .bad
          | none => .bad) else .bad
      | none => .bad)
    | _, _ => .bad

def tupA (vs : List AV) : AV := match vs with | [v] => v | vs => .tup vs

/-- The end, what is handed back as it stands. -/
def kEnd (I : SI) (T : Nat → Option TRow) (rs : List ResultVar) (e : Exit) (σ : SS) : Tree :=
  match e with
  | .normal | .ret => resK I T σ rs fun vs => .fin (.ret vs σ.lh σ.nid)
  | _ => .bad

/-- The end, what is handed back as data. -/
def kEndF (I : SI) (T : Nat → Option TRow) (rs : List ResultVar) (e : Exit) (σ : SS) : Tree :=
  match e with
  | .normal | .ret => resK I T σ rs fun vs => match frz σ.lh.get 8 (tupA vs) with | some d => .fin (.ret [.d d] [] 0) | none => .bad
  | _ => .bad

theorem valT_ok {m : TM} {o : Option AV} {k : AV → Tree} {nid : Nat} {B : BM} (hB : ∀ v, B = just nid v → o = some v) (hm : m.le nid B) (h : Sat P gs A (valT m k)) : ∃ v, o = some v ∧ Sat P gs A (k v) := by
  induction m with
  | val v => exact ⟨v, hB v hm, h⟩
  | req b m ih => exact ih (hm h.1) h.2
  | _ => exact h.elim

theorem resK_ok (hT : TabOk P T) {σ : SS} : ∀ {rs : List ResultVar} {k : List AV → Tree}, Sat P gs A (resK std T σ rs k) → ∃ vs, rs.mapM (res1 P σ.st) = some vs ∧ Sat P gs A (k vs)
  | [], k, h => ⟨[], rfl, h⟩
  | .tmp t :: rs, k, h => by
    obtain ⟨vs, h1, h2⟩ := resK_ok hT (rs := rs) h
    exact ⟨_, by simp only [List.mapM_cons, h1]; rfl, h2⟩
  | .cell a t :: rs, k, h => by
    simp only [resK] at h
    split at h
    · rename_i ti b es i fo hti ha
      split at h
      · rename_i q hq
        split at h
        · rename_i hi
          split at h
          · split at h
            · have := valT_ok (o := aload ti (q.els.getD i .undef) fo) (nid := 0) (B := match aload ti (q.els.getD i .undef) fo with | some v => just 0 v | none => .fail)
                (fun v hv => by
                  cases ho : aload ti (q.els.getD i .undef) fo with
                  | none => rw [ho] at hv; cases hv
                  | some u => rw [ho] at hv; simp only [just, BM.pure.injEq, OpR.mk.injEq] at hv; rw [hv.1])
                (aloadT_ok (fun v hv => by rw [hv]) rfl) h
              obtain ⟨v, hv, h⟩ := this
              obtain ⟨vs, h1, h2⟩ := resK_ok hT (rs := rs) h
              refine ⟨_, ?_, h2⟩
              have hr : res1 P σ.st (.cell a t) = some v := by
                have ha' : σ.st.env a = .loc b es i fo := ha
                have hq' : σ.st.lh b = some q := hq
                simp only [res1, zI3 hT hti, Option.bind_some, ha', hq', if_pos hi]
                exact hv
              simp only [List.mapM_cons, h1, hr]; rfl
            · exact h.elim
          · exact h.elim
        · exact h.elim
      · exact h.elim
    · exact h.elim

/-- The slots when a call begins. -/
def argsE : Nat → List AV → EM → EM
  | _, [], E => E
  | i, v :: vs, E => argsE (i + 1) vs (EM.put 7 E i v)

theorem argsE_get : ∀ (vs : List AV) (i : Nat) (E : EM) (t : Nat), i + vs.length < 5461 → (argsE i vs E).get t = if i ≤ t ∧ t < i + vs.length then vs.getD (t - i) .undef else E.get t
  | [], i, E, t, h => by simp only [argsE, List.length_nil]; rw [if_neg (by omega)]
  | v :: vs, i, E, t, h => by
    simp only [List.length_cons] at h
    simp only [argsE]
    rw [argsE_get vs (i + 1) _ t (by omega), EM.get_put v 7 E i t (by simp [capE]; omega)]
    simp only [List.length_cons]
    by_cases h1 : t = i
    · subst h1
      rw [if_neg (by omega), if_pos rfl, if_pos (by omega)]; simp
    · rw [if_neg h1]
      by_cases h2 : i + 1 ≤ t ∧ t < i + 1 + vs.length
      · rw [if_pos h2, if_pos (by omega)]
        have : t - i = t - (i + 1) + 1 := by omega
        rw [this]; rfl
      · rw [if_neg h2, if_neg (by omega)]

def ssOf (args : List AV) (lh : LM) (nid : Nat) : SS := ⟨argsE 0 args .nil, lh, nid, 0, true⟩

theorem ssOf_st {args : List AV} {lh : LM} {nid : Nat} (h : args.length < 5461) : (ssOf args lh nid).st = ⟨envA args, lh.get, nid, []⟩ := by
  have : (argsE 0 args .nil).get = envA args := by
    funext t
    rw [argsE_get args 0 .nil t (by omega)]
    unfold envA
    by_cases ht : t < args.length
    · rw [if_pos (by omega)]; rfl
    · rw [if_neg (by omega)]; simp [List.getD, List.getElem?_eq_none (Nat.le_of_not_lt ht), EM.get]
  simp only [SS.st, ssOf, this]


def aimF (P : Program) (gs : List Nat) (rs : List ResultVar) (d : DV) : Aim := {
  Qe e σ := bodyQ (calls P gs) P rs (fun v σ => RetOk σ v (dRet d)) (fun _ _ => False) e σ
  Q vs lh nid := vs = [.d d]
  Bk _ _ _ := False
  QP d' σ' := LeaveW (calls P gs) P rs (fun v σ => RetOk σ v (dRet d)) (fun _ _ => False) σ'.dfs (some d') σ' }

def aimR (P : Program) (gs : List Nat) (rs : List ResultVar) (d : DV) : Aim :=
  { aimF P gs rs d with Q := fun vs lh nid => frz lh.get 8 (tupA vs) = some d }

theorem aimF_q {rs : List ResultVar} {d : DV} {vs : List AV} {lh : LM} {nid : Nat} : (aimF P gs rs d).Q vs lh nid = (vs = [.d d]) := rfl
theorem aimR_q {rs : List ResultVar} {d : DV} {vs : List AV} {lh : LM} {nid : Nat} : (aimR P gs rs d).Q vs lh nid = (frz lh.get 8 (tupA vs) = some d) := rfl

theorem endF (hT : TabOk P T) {rs : List ResultVar} {d : DV} : EndOk P gs (aimF P gs rs d) (kEndF std T rs) := by
  intro Bk e s hs
  have main : Sat P gs { aimF P gs rs d with Bk := Bk } (resK std T s rs fun vs => match frz s.lh.get 8 (tupA vs) with | some d => .fin (.ret [.d d] [] 0) | none => .bad) → LeaveW (calls P gs) P rs (fun v σ => RetOk σ v (dRet d)) (fun _ _ => False) s.st.dfs none s.st := by
    intro hs
    obtain ⟨vs, h1, h2⟩ := resK_ok hT hs
    split at h2
    · rename_i d' hz
      have h2 : [AV.d d'] = [AV.d d] := h2
      simp only [List.cons.injEq, AV.d.injEq, and_true] at h2
      subst h2
      refine ⟨tupA vs, ?_, .imm _ _ hz⟩
      simp only [resA, h1, Option.map_some]; rfl
    · exact h2.elim
  cases e with
  | normal => exact main hs
  | ret => exact main hs
  | _ => exact hs.elim

theorem endR (hT : TabOk P T) {rs : List ResultVar} {d : DV} : EndOk P gs (aimR P gs rs d) (kEnd std T rs) := by
  intro Bk e s hs
  have main : Sat P gs { aimR P gs rs d with Bk := Bk } (resK std T s rs fun vs => .fin (.ret vs s.lh s.nid)) → LeaveW (calls P gs) P rs (fun v σ => RetOk σ v (dRet d)) (fun _ _ => False) s.st.dfs none s.st := by
    intro hs
    obtain ⟨vs, h1, h2⟩ := resK_ok hT hs
    refine ⟨tupA vs, ?_, .imm _ _ h2⟩
    simp only [resA, h1, Option.map_some]; rfl
  cases e with
  | normal => exact main hs
  | ret => exact main hs
  | _ => exact hs.elim

/-- THE CONTRACT OUT OF THE TREE: data. -/
theorem zD0 (hm : P.follows .mixedOrders = true) {f : FuncId} {code : Code} {rs : Array ResultVar} {n : Nat} (hf : FnIs P f code rs n) {args : List DV} (hn : args.length ≤ n) (hl : args.length < 5461) (hF : SFok P gs F H) (hT : TabOk P T) {lv : Nat → List Nat × List Nat} {d : DV}
    (h : ∀ (I : SI) (F' : SF), I = std → F' = F → Sat P gs (aimF P gs rs.toList d) (execT I F' H T lv code (ssOf (args.map .d) [] 0) [] (kEndF I T rs.toList))) : PureCall P gs f args (dRet d) := by
  refine zK7 hm hf hn ?_
  have hst : st0 args = (ssOf (args.map .d) [] 0).st := by rw [ssOf_st (by simpa using hl)]; rfl
  rw [hst]
  exact execT_ok hF hT code _ [] _ (fun e s hs => endF hT (aimF P gs rs.toList d).Bk e s hs) (h std F rfl rfl)

/-- The same, what is handed back being frozen outside of the tree. -/
theorem zH7 (hm : P.follows .mixedOrders = true) {f : FuncId} {code : Code} {rs : Array ResultVar} {n : Nat} (hf : FnIs P f code rs n) {args : List DV} (hn : args.length ≤ n) (hl : args.length < 5461) (hF : SFok P gs F H) (hT : TabOk P T) {lv : Nat → List Nat × List Nat} {d : DV}
    (h : ∀ (I : SI) (F' : SF), I = std → F' = F → Sat P gs (aimR P gs rs.toList d) (execT I F' H T lv code (ssOf (args.map .d) [] 0) [] (kEnd I T rs.toList))) : PureCall P gs f args (dRet d) := by
  refine zK7 hm hf hn ?_
  have hst : st0 args = (ssOf (args.map .d) [] 0).st := by rw [ssOf_st (by simpa using hl)]; rfl
  rw [hst]
  exact execT_ok hF hT code _ [] _ (fun e s hs => endR hT (aimR P gs rs.toList d).Bk e s hs) (h std F rfl rfl)
end
end Go.Proofs.Am

set_option linter.unusedVariables false
namespace Go.Proofs.Sx
open Go Go.Proofs Go.Proofs.Am

noncomputable def bodyOf (f : Func) : Code := match f.body with | some c => c | none => .skip
def tabT : BT :=
  (.node 119 ⟨some ⟨1, false, 24, .snil⟩, .slice 118, [], none⟩ (.node 42 ⟨some ⟨7, true, 104, .agg [.str ⟨#[]⟩, .int .i64 0, .int .i64 0, .int .i64 0, .str ⟨#[]⟩, .snil, .snil]⟩, .struct, [(0, 9), (1, 25)], some [(0, 1), (1, 6)]⟩ (.node 21 ⟨some ⟨1, false, 4, .int .i32 0⟩, .int .i32, [], none⟩ (.node 5 ⟨some ⟨1, false, 1, .int .u8 0⟩, .int .u8, [], none⟩ (.node 3 ⟨some ⟨1, false, 8, .int .i64 0⟩, .int .i64, [], none⟩ (.node 2 ⟨some ⟨1, false, 8, .int .i64 0⟩, .int .i64, [], none⟩ .nil .nil) (.node 4 ⟨some ⟨1, false, 1, .bool false⟩, .bool, [], none⟩ .nil .nil)) (.node 20 ⟨some ⟨1, false, 16, .inil⟩, .other, [], none⟩ (.node 9 ⟨some ⟨1, false, 16, .str ⟨#[]⟩⟩, .str, [], none⟩ .nil .nil) .nil)) (.node 25 ⟨some ⟨6, true, 88, .agg [.int .i64 0, .int .i64 0, .int .i64 0, .str ⟨#[]⟩, .snil, .snil]⟩, .struct, [(0, 3), (1, 3), (2, 3), (3, 9), (4, 22), (5, 23)], some [(0, 1), (1, 1), (2, 1), (3, 1), (4, 1), (5, 1)]⟩ (.node 23 ⟨some ⟨1, false, 24, .snil⟩, .slice 25, [], none⟩ (.node 22 ⟨some ⟨1, false, 24, .snil⟩, .slice 9, [], none⟩ .nil .nil) .nil) (.node 30 ⟨some ⟨1, false, 8, .int .i64 0⟩, .int .i64, [], none⟩ (.node 29 ⟨some ⟨1, false, 24, .snil⟩, .slice 54, [], none⟩ .nil .nil) .nil))) (.node 75 ⟨some ⟨2, true, 16, .agg [.int .i64 0, .int .i64 0]⟩, .struct, [(0, 3), (1, 30)], some [(0, 1), (1, 1)]⟩ (.node 52 ⟨some ⟨1, false, 24, .snil⟩, .slice 3, [], none⟩ (.node 46 ⟨some ⟨1, false, 24, .snil⟩, .slice 29, [], none⟩ (.node 43 ⟨some ⟨1, false, 24, .snil⟩, .slice 42, [], none⟩ .nil .nil) .nil) (.node 66 ⟨some ⟨2, true, 16, .agg [.int .i64 0, .bool false]⟩, .struct, [(0, 3), (1, 4)], some [(0, 1), (1, 1)]⟩ (.node 54 ⟨some ⟨5, true, 80, .agg [.int .i64 0, .int .i64 0, .str ⟨#[]⟩, .snil, .snil]⟩, .struct, [(0, 3), (1, 3), (2, 9), (3, 22), (4, 52)], some [(0, 1), (1, 1), (2, 1), (3, 1), (4, 1)]⟩ .nil .nil) .nil)) (.node 87 ⟨some ⟨1, false, 24, .snil⟩, .slice 5, [], none⟩ (.node 84 ⟨some ⟨1, true, 8, .agg [.int .i64 0]⟩, .struct, [(0, 3)], some [(0, 1)]⟩ (.node 78 ⟨some ⟨3, true, 56, .agg [.snil, .snil, .int .i64 0]⟩, .struct, [(0, 29), (1, 43), (2, 3)], some [(0, 1), (1, 1), (2, 1)]⟩ .nil .nil) .nil) (.node 118 ⟨some ⟨2, true, 16, .agg [.int .i64 0, .int .i64 0]⟩, .arr 2 3, [(0, 3), (0, 3)], some [(0, 1), (1, 1)]⟩ (.node 101 ⟨some ⟨9, true, 40, .agg [.int .i64 0, .int .i64 0, .bool false, .bool false, .bool false, .int .i64 0, .bool false, .bool false, .bool false]⟩, .struct, [(0, 3), (1, 3), (2, 4), (3, 4), (4, 4), (5, 3), (6, 4), (7, 4), (8, 4)], some [(0, 1), (1, 1), (2, 1), (3, 1), (4, 1), (5, 1), (6, 1), (7, 1), (8, 1)]⟩ .nil .nil) .nil)))) (.node 185 ⟨some ⟨1, false, 8, .pnil⟩, .other, [], none⟩ (.node 154 ⟨some ⟨1, false, 4, .int .u32 0⟩, .int .u32, [], none⟩ (.node 147 ⟨some ⟨1, false, 8, .pnil⟩, .other, [], none⟩ (.node 140 ⟨some ⟨1, false, 16, .inil⟩, .other, [], none⟩ (.node 136 ⟨some ⟨1, false, 8, .int .u64 0⟩, .int .u64, [], none⟩ .nil .nil) .nil) (.node 152 ⟨some ⟨1, false, 24, .snil⟩, .slice 23, [], none⟩ (.node 149 ⟨some ⟨2, true, 32, .agg [.pnil, .snil]⟩, .struct, [(0, 147), (1, 87)], some [(0, 1), (1, 1)]⟩ .nil .nil) .nil)) (.node 173 ⟨some ⟨24, true, 24, .agg [.int .u8 0, .int .u8 0, .int .u8 0, .int .u8 0, .int .u8 0, .int .u8 0, .int .u8 0, .int .u8 0, .int .u8 0, .int .u8 0, .int .u8 0, .int .u8 0, .int .u8 0, .int .u8 0, .int .u8 0, .int .u8 0, .int .u8 0, .int .u8 0, .int .u8 0, .int .u8 0, .int .u8 0, .int .u8 0, .int .u8 0, .int .u8 0]⟩, .arr 24 5, [(0, 5), (0, 5), (0, 5), (0, 5), (0, 5), (0, 5), (0, 5), (0, 5), (0, 5), (0, 5), (0, 5), (0, 5), (0, 5), (0, 5), (0, 5), (0, 5), (0, 5), (0, 5), (0, 5), (0, 5), (0, 5), (0, 5), (0, 5), (0, 5)], some [(0, 1), (1, 1), (2, 1), (3, 1), (4, 1), (5, 1), (6, 1), (7, 1), (8, 1), (9, 1), (10, 1), (11, 1), (12, 1), (13, 1), (14, 1), (15, 1), (16, 1), (17, 1), (18, 1), (19, 1), (20, 1), (21, 1), (22, 1), (23, 1)]⟩ (.node 172 ⟨some ⟨1, false, 8, .pnil⟩, .other, [], none⟩ (.node 161 ⟨some ⟨256, true, 256, .agg [.bool false, .bool false, .bool false, .bool false, .bool false, .bool false, .bool false, .bool false, .bool false, .bool false, .bool false, .bool false, .bool false, .bool false, .bool false, .bool false, .bool false, .bool false, .bool false, .bool false, .bool false, .bool false, .bool false, .bool false, .bool false, .bool false, .bool false, .bool false, .bool false, .bool false, .bool false, .bool false, .bool false, .bool false, .bool false, .bool false, .bool false, .bool false, .bool false, .bool false, .bool false, .bool false, .bool false, .bool false, .bool false, .bool false, .bool false, .bool false, .bool false, .bool false, .bool false, .bool false, .bool false, .bool false, .bool false, .bool false, .bool false, .bool false, .bool false, .bool false, .bool false, .bool false, .bool false, .bool false, .bool false, .bool false, .bool false, .bool false, .bool false, .bool false, .bool false, .bool false, .bool false, .bool false, .bool false, .bool false, .bool false, .bool false, .bool false, .bool false, .bool false, .bool false, .bool false, .bool false, .bool false, .bool false, .bool false, .bool false, .bool false, .bool false, .bool false, .bool false, .bool false, .bool false, .bool false, .bool false, .bool false, .bool false, .bool false, .bool false, .bool false, .bool false, .bool false, .bool false, .bool false, .bool false, .bool false, .bool false, .bool false, .bool false, .bool false, .bool false, .bool false, .bool false, .bool false, .bool false, .bool false, .bool false, .bool false, .bool false, .bool false, .bool false, .bool false, .bool false, .bool false, .bool false, .bool false, .bool false, .bool false, .bool false, .bool false, .bool false, .bool false, .bool false, .bool false, .bool false, .bool false, .bool false, .bool false, .bool false, .bool false, .bool false, .bool false, .bool false, .bool false, .bool false, .bool false, .bool false, .bool false, .bool false, .bool false, .bool false, .bool false, .bool false, .bool false, .bool false, .bool false, .bool false, .bool false, .bool false, .bool false, .bool false, .bool false, .bool false, .bool false, .bool false, .bool false, .bool false, .bool false, .bool false, .bool false, .bool false, .bool false, .bool false, .bool false, .bool false, .bool false, .bool false, .bool false, .bool false, .bool false, .bool false, .bool false, .bool false, .bool false, .bool false, .bool false, .bool false, .bool false, .bool false, .bool false, .bool false, .bool false, .bool false, .bool false, .bool false, .bool false, .bool false, .bool false, .bool false, .bool false, .bool false, .bool false, .bool false, .bool false, .bool false, .bool false, .bool false, .bool false, .bool false, .bool false, .bool false, .bool false, .bool false, .bool false, .bool false, .bool false, .bool false, .bool false, .bool false, .bool false, .bool false, .bool false, .bool false, .bool false, .bool false, .bool false, .bool false, .bool false, .bool false, .bool false, .bool false, .bool false, .bool false, .bool false, .bool false, .bool false, .bool false, .bool false, .bool false, .bool false, .bool false, .bool false, .bool false, .bool false, .bool false, .bool false, .bool false, .bool false, .bool false, .bool false, .bool false, .bool false, .bool false, .bool false, .bool false]⟩, .arr 256 4, [(0, 4), (0, 4), (0, 4), (0, 4), (0, 4), (0, 4), (0, 4), (0, 4), (0, 4), (0, 4), (0, 4), (0, 4), (0, 4), (0, 4), (0, 4), (0, 4), (0, 4), (0, 4), (0, 4), (0, 4), (0, 4), (0, 4), (0, 4), (0, 4), (0, 4), (0, 4), (0, 4), (0, 4), (0, 4), (0, 4), (0, 4), (0, 4), (0, 4), (0, 4), (0, 4), (0, 4), (0, 4), (0, 4), (0, 4), (0, 4), (0, 4), (0, 4), (0, 4), (0, 4), (0, 4), (0, 4), (0, 4), (0, 4), (0, 4), (0, 4), (0, 4), (0, 4), (0, 4), (0, 4), (0, 4), (0, 4), (0, 4), (0, 4), (0, 4), (0, 4), (0, 4), (0, 4), (0, 4), (0, 4), (0, 4), (0, 4), (0, 4), (0, 4), (0, 4), (0, 4), (0, 4), (0, 4), (0, 4), (0, 4), (0, 4), (0, 4), (0, 4), (0, 4), (0, 4), (0, 4), (0, 4), (0, 4), (0, 4), (0, 4), (0, 4), (0, 4), (0, 4), (0, 4), (0, 4), (0, 4), (0, 4), (0, 4), (0, 4), (0, 4), (0, 4), (0, 4), (0, 4), (0, 4), (0, 4), (0, 4), (0, 4), (0, 4), (0, 4), (0, 4), (0, 4), (0, 4), (0, 4), (0, 4), (0, 4), (0, 4), (0, 4), (0, 4), (0, 4), (0, 4), (0, 4), (0, 4), (0, 4), (0, 4), (0, 4), (0, 4), (0, 4), (0, 4), (0, 4), (0, 4), (0, 4), (0, 4), (0, 4), (0, 4), (0, 4), (0, 4), (0, 4), (0, 4), (0, 4), (0, 4), (0, 4), (0, 4), (0, 4), (0, 4), (0, 4), (0, 4), (0, 4), (0, 4), (0, 4), (0, 4), (0, 4), (0, 4), (0, 4), (0, 4), (0, 4), (0, 4), (0, 4), (0, 4), (0, 4), (0, 4), (0, 4), (0, 4), (0, 4), (0, 4), (0, 4), (0, 4), (0, 4), (0, 4), (0, 4), (0, 4), (0, 4), (0, 4), (0, 4), (0, 4), (0, 4), (0, 4), (0, 4), (0, 4), (0, 4), (0, 4), (0, 4), (0, 4), (0, 4), (0, 4), (0, 4), (0, 4), (0, 4), (0, 4), (0, 4), (0, 4), (0, 4), (0, 4), (0, 4), (0, 4), (0, 4), (0, 4), (0, 4), (0, 4), (0, 4), (0, 4), (0, 4), (0, 4), (0, 4), (0, 4), (0, 4), (0, 4), (0, 4), (0, 4), (0, 4), (0, 4), (0, 4), (0, 4), (0, 4), (0, 4), (0, 4), (0, 4), (0, 4), (0, 4), (0, 4), (0, 4), (0, 4), (0, 4), (0, 4), (0, 4), (0, 4), (0, 4), (0, 4), (0, 4), (0, 4), (0, 4), (0, 4), (0, 4), (0, 4), (0, 4), (0, 4), (0, 4), (0, 4), (0, 4), (0, 4), (0, 4), (0, 4), (0, 4), (0, 4), (0, 4), (0, 4), (0, 4), (0, 4), (0, 4), (0, 4), (0, 4), (0, 4), (0, 4), (0, 4), (0, 4), (0, 4), (0, 4), (0, 4), (0, 4), (0, 4), (0, 4), (0, 4), (0, 4)], some [(0, 1), (1, 1), (2, 1), (3, 1), (4, 1), (5, 1), (6, 1), (7, 1), (8, 1), (9, 1), (10, 1), (11, 1), (12, 1), (13, 1), (14, 1), (15, 1), (16, 1), (17, 1), (18, 1), (19, 1), (20, 1), (21, 1), (22, 1), (23, 1), (24, 1), (25, 1), (26, 1), (27, 1), (28, 1), (29, 1), (30, 1), (31, 1), (32, 1), (33, 1), (34, 1), (35, 1), (36, 1), (37, 1), (38, 1), (39, 1), (40, 1), (41, 1), (42, 1), (43, 1), (44, 1), (45, 1), (46, 1), (47, 1), (48, 1), (49, 1), (50, 1), (51, 1), (52, 1), (53, 1), (54, 1), (55, 1), (56, 1), (57, 1), (58, 1), (59, 1), (60, 1), (61, 1), (62, 1), (63, 1), (64, 1), (65, 1), (66, 1), (67, 1), (68, 1), (69, 1), (70, 1), (71, 1), (72, 1), (73, 1), (74, 1), (75, 1), (76, 1), (77, 1), (78, 1), (79, 1), (80, 1), (81, 1), (82, 1), (83, 1), (84, 1), (85, 1), (86, 1), (87, 1), (88, 1), (89, 1), (90, 1), (91, 1), (92, 1), (93, 1), (94, 1), (95, 1), (96, 1), (97, 1), (98, 1), (99, 1), (100, 1), (101, 1), (102, 1), (103, 1), (104, 1), (105, 1), (106, 1), (107, 1), (108, 1), (109, 1), (110, 1), (111, 1), (112, 1), (113, 1), (114, 1), (115, 1), (116, 1), (117, 1), (118, 1), (119, 1), (120, 1), (121, 1), (122, 1), (123, 1), (124, 1), (125, 1), (126, 1), (127, 1), (128, 1), (129, 1), (130, 1), (131, 1), (132, 1), (133, 1), (134, 1), (135, 1), (136, 1), (137, 1), (138, 1), (139, 1), (140, 1), (141, 1), (142, 1), (143, 1), (144, 1), (145, 1), (146, 1), (147, 1), (148, 1), (149, 1), (150, 1), (151, 1), (152, 1), (153, 1), (154, 1), (155, 1), (156, 1), (157, 1), (158, 1), (159, 1), (160, 1), (161, 1), (162, 1), (163, 1), (164, 1), (165, 1), (166, 1), (167, 1), (168, 1), (169, 1), (170, 1), (171, 1), (172, 1), (173, 1), (174, 1), (175, 1), (176, 1), (177, 1), (178, 1), (179, 1), (180, 1), (181, 1), (182, 1), (183, 1), (184, 1), (185, 1), (186, 1), (187, 1), (188, 1), (189, 1), (190, 1), (191, 1), (192, 1), (193, 1), (194, 1), (195, 1), (196, 1), (197, 1), (198, 1), (199, 1), (200, 1), (201, 1), (202, 1), (203, 1), (204, 1), (205, 1), (206, 1), (207, 1), (208, 1), (209, 1), (210, 1), (211, 1), (212, 1), (213, 1), (214, 1), (215, 1), (216, 1), (217, 1), (218, 1), (219, 1), (220, 1), (221, 1), (222, 1), (223, 1), (224, 1), (225, 1), (226, 1), (227, 1), (228, 1), (229, 1), (230, 1), (231, 1), (232, 1), (233, 1), (234, 1), (235, 1), (236, 1), (237, 1), (238, 1), (239, 1), (240, 1), (241, 1), (242, 1), (243, 1), (244, 1), (245, 1), (246, 1), (247, 1), (248, 1), (249, 1), (250, 1), (251, 1), (252, 1), (253, 1), (254, 1), (255, 1)]⟩ .nil .nil) .nil) (.node 182 ⟨some ⟨1, false, 8, .int .i64 0⟩, .int .i64, [], none⟩ (.node 174 ⟨some ⟨1, false, 8, .int .u64 0⟩, .int .u64, [], none⟩ .nil .nil) .nil))) (.node 206 ⟨some ⟨2, true, 2, .agg [.int .u8 0, .int .u8 0]⟩, .struct, [(0, 5), (1, 5)], some [(0, 1), (1, 1)]⟩ (.node 194 ⟨some ⟨65, true, 65, .agg [.int .u8 0, .int .u8 0, .int .u8 0, .int .u8 0, .int .u8 0, .int .u8 0, .int .u8 0, .int .u8 0, .int .u8 0, .int .u8 0, .int .u8 0, .int .u8 0, .int .u8 0, .int .u8 0, .int .u8 0, .int .u8 0, .int .u8 0, .int .u8 0, .int .u8 0, .int .u8 0, .int .u8 0, .int .u8 0, .int .u8 0, .int .u8 0, .int .u8 0, .int .u8 0, .int .u8 0, .int .u8 0, .int .u8 0, .int .u8 0, .int .u8 0, .int .u8 0, .int .u8 0, .int .u8 0, .int .u8 0, .int .u8 0, .int .u8 0, .int .u8 0, .int .u8 0, .int .u8 0, .int .u8 0, .int .u8 0, .int .u8 0, .int .u8 0, .int .u8 0, .int .u8 0, .int .u8 0, .int .u8 0, .int .u8 0, .int .u8 0, .int .u8 0, .int .u8 0, .int .u8 0, .int .u8 0, .int .u8 0, .int .u8 0, .int .u8 0, .int .u8 0, .int .u8 0, .int .u8 0, .int .u8 0, .int .u8 0, .int .u8 0, .int .u8 0, .int .u8 0]⟩, .arr 65 5, [(0, 5), (0, 5), (0, 5), (0, 5), (0, 5), (0, 5), (0, 5), (0, 5), (0, 5), (0, 5), (0, 5), (0, 5), (0, 5), (0, 5), (0, 5), (0, 5), (0, 5), (0, 5), (0, 5), (0, 5), (0, 5), (0, 5), (0, 5), (0, 5), (0, 5), (0, 5), (0, 5), (0, 5), (0, 5), (0, 5), (0, 5), (0, 5), (0, 5), (0, 5), (0, 5), (0, 5), (0, 5), (0, 5), (0, 5), (0, 5), (0, 5), (0, 5), (0, 5), (0, 5), (0, 5), (0, 5), (0, 5), (0, 5), (0, 5), (0, 5), (0, 5), (0, 5), (0, 5), (0, 5), (0, 5), (0, 5), (0, 5), (0, 5), (0, 5), (0, 5), (0, 5), (0, 5), (0, 5), (0, 5), (0, 5)], some [(0, 1), (1, 1), (2, 1), (3, 1), (4, 1), (5, 1), (6, 1), (7, 1), (8, 1), (9, 1), (10, 1), (11, 1), (12, 1), (13, 1), (14, 1), (15, 1), (16, 1), (17, 1), (18, 1), (19, 1), (20, 1), (21, 1), (22, 1), (23, 1), (24, 1), (25, 1), (26, 1), (27, 1), (28, 1), (29, 1), (30, 1), (31, 1), (32, 1), (33, 1), (34, 1), (35, 1), (36, 1), (37, 1), (38, 1), (39, 1), (40, 1), (41, 1), (42, 1), (43, 1), (44, 1), (45, 1), (46, 1), (47, 1), (48, 1), (49, 1), (50, 1), (51, 1), (52, 1), (53, 1), (54, 1), (55, 1), (56, 1), (57, 1), (58, 1), (59, 1), (60, 1), (61, 1), (62, 1), (63, 1), (64, 1)]⟩ (.node 193 ⟨some ⟨20, true, 160, .agg [.int .u64 0, .int .u64 0, .int .u64 0, .int .u64 0, .int .u64 0, .int .u64 0, .int .u64 0, .int .u64 0, .int .u64 0, .int .u64 0, .int .u64 0, .int .u64 0, .int .u64 0, .int .u64 0, .int .u64 0, .int .u64 0, .int .u64 0, .int .u64 0, .int .u64 0, .int .u64 0]⟩, .arr 20 174, [(0, 174), (0, 174), (0, 174), (0, 174), (0, 174), (0, 174), (0, 174), (0, 174), (0, 174), (0, 174), (0, 174), (0, 174), (0, 174), (0, 174), (0, 174), (0, 174), (0, 174), (0, 174), (0, 174), (0, 174)], some [(0, 1), (1, 1), (2, 1), (3, 1), (4, 1), (5, 1), (6, 1), (7, 1), (8, 1), (9, 1), (10, 1), (11, 1), (12, 1), (13, 1), (14, 1), (15, 1), (16, 1), (17, 1), (18, 1), (19, 1)]⟩ (.node 191 ⟨some ⟨1, false, 8, .pnil⟩, .other, [], none⟩ .nil .nil) .nil) (.node 204 ⟨some ⟨256, true, 256, .agg [.int .u8 0, .int .u8 0, .int .u8 0, .int .u8 0, .int .u8 0, .int .u8 0, .int .u8 0, .int .u8 0, .int .u8 0, .int .u8 0, .int .u8 0, .int .u8 0, .int .u8 0, .int .u8 0, .int .u8 0, .int .u8 0, .int .u8 0, .int .u8 0, .int .u8 0, .int .u8 0, .int .u8 0, .int .u8 0, .int .u8 0, .int .u8 0, .int .u8 0, .int .u8 0, .int .u8 0, .int .u8 0, .int .u8 0, .int .u8 0, .int .u8 0, .int .u8 0, .int .u8 0, .int .u8 0, .int .u8 0, .int .u8 0, .int .u8 0, .int .u8 0, .int .u8 0, .int .u8 0, .int .u8 0, .int .u8 0, .int .u8 0, .int .u8 0, .int .u8 0, .int .u8 0, .int .u8 0, .int .u8 0, .int .u8 0, .int .u8 0, .int .u8 0, .int .u8 0, .int .u8 0, .int .u8 0, .int .u8 0, .int .u8 0, .int .u8 0, .int .u8 0, .int .u8 0, .int .u8 0, .int .u8 0, .int .u8 0, .int .u8 0, .int .u8 0, .int .u8 0, .int .u8 0, .int .u8 0, .int .u8 0, .int .u8 0, .int .u8 0, .int .u8 0, .int .u8 0, .int .u8 0, .int .u8 0, .int .u8 0, .int .u8 0, .int .u8 0, .int .u8 0, .int .u8 0, .int .u8 0, .int .u8 0, .int .u8 0, .int .u8 0, .int .u8 0, .int .u8 0, .int .u8 0, .int .u8 0, .int .u8 0, .int .u8 0, .int .u8 0, .int .u8 0, .int .u8 0, .int .u8 0, .int .u8 0, .int .u8 0, .int .u8 0, .int .u8 0, .int .u8 0, .int .u8 0, .int .u8 0, .int .u8 0, .int .u8 0, .int .u8 0, .int .u8 0, .int .u8 0, .int .u8 0, .int .u8 0, .int .u8 0, .int .u8 0, .int .u8 0, .int .u8 0, .int .u8 0, .int .u8 0, .int .u8 0, .int .u8 0, .int .u8 0, .int .u8 0, .int .u8 0, .int .u8 0, .int .u8 0, .int .u8 0, .int .u8 0, .int .u8 0, .int .u8 0, .int .u8 0, .int .u8 0, .int .u8 0, .int .u8 0, .int .u8 0, .int .u8 0, .int .u8 0, .int .u8 0, .int .u8 0, .int .u8 0, .int .u8 0, .int .u8 0, .int .u8 0, .int .u8 0, .int .u8 0, .int .u8 0, .int .u8 0, .int .u8 0, .int .u8 0, .int .u8 0, .int .u8 0, .int .u8 0, .int .u8 0, .int .u8 0, .int .u8 0, .int .u8 0, .int .u8 0, .int .u8 0, .int .u8 0, .int .u8 0, .int .u8 0, .int .u8 0, .int .u8 0, .int .u8 0, .int .u8 0, .int .u8 0, .int .u8 0, .int .u8 0, .int .u8 0, .int .u8 0, .int .u8 0, .int .u8 0, .int .u8 0, .int .u8 0, .int .u8 0, .int .u8 0, .int .u8 0, .int .u8 0, .int .u8 0, .int .u8 0, .int .u8 0, .int .u8 0, .int .u8 0, .int .u8 0, .int .u8 0, .int .u8 0, .int .u8 0, .int .u8 0, .int .u8 0, .int .u8 0, .int .u8 0, .int .u8 0, .int .u8 0, .int .u8 0, .int .u8 0, .int .u8 0, .int .u8 0, .int .u8 0, .int .u8 0, .int .u8 0, .int .u8 0, .int .u8 0, .int .u8 0, .int .u8 0, .int .u8 0, .int .u8 0, .int .u8 0, .int .u8 0, .int .u8 0, .int .u8 0, .int .u8 0, .int .u8 0, .int .u8 0, .int .u8 0, .int .u8 0, .int .u8 0, .int .u8 0, .int .u8 0, .int .u8 0, .int .u8 0, .int .u8 0, .int .u8 0, .int .u8 0, .int .u8 0, .int .u8 0, .int .u8 0, .int .u8 0, .int .u8 0, .int .u8 0, .int .u8 0, .int .u8 0, .int .u8 0, .int .u8 0, .int .u8 0, .int .u8 0, .int .u8 0, .int .u8 0, .int .u8 0, .int .u8 0, .int .u8 0, .int .u8 0, .int .u8 0, .int .u8 0, .int .u8 0, .int .u8 0, .int .u8 0, .int .u8 0, .int .u8 0, .int .u8 0, .int .u8 0, .int .u8 0, .int .u8 0, .int .u8 0, .int .u8 0, .int .u8 0, .int .u8 0, .int .u8 0, .int .u8 0, .int .u8 0, .int .u8 0, .int .u8 0, .int .u8 0]⟩, .arr 256 5, [(0, 5), (0, 5), (0, 5), (0, 5), (0, 5), (0, 5), (0, 5), (0, 5), (0, 5), (0, 5), (0, 5), (0, 5), (0, 5), (0, 5), (0, 5), (0, 5), (0, 5), (0, 5), (0, 5), (0, 5), (0, 5), (0, 5), (0, 5), (0, 5), (0, 5), (0, 5), (0, 5), (0, 5), (0, 5), (0, 5), (0, 5), (0, 5), (0, 5), (0, 5), (0, 5), (0, 5), (0, 5), (0, 5), (0, 5), (0, 5), (0, 5), (0, 5), (0, 5), (0, 5), (0, 5), (0, 5), (0, 5), (0, 5), (0, 5), (0, 5), (0, 5), (0, 5), (0, 5), (0, 5), (0, 5), (0, 5), (0, 5), (0, 5), (0, 5), (0, 5), (0, 5), (0, 5), (0, 5), (0, 5), (0, 5), (0, 5), (0, 5), (0, 5), (0, 5), (0, 5), (0, 5), (0, 5), (0, 5), (0, 5), (0, 5), (0, 5), (0, 5), (0, 5), (0, 5), (0, 5), (0, 5), (0, 5), (0, 5), (0, 5), (0, 5), (0, 5), (0, 5), (0, 5), (0, 5), (0, 5), (0, 5), (0, 5), (0, 5), (0, 5), (0, 5), (0, 5), (0, 5), (0, 5), (0, 5), (0, 5), (0, 5), (0, 5), (0, 5), (0, 5), (0, 5), (0, 5), (0, 5), (0, 5), (0, 5), (0, 5), (0, 5), (0, 5), (0, 5), (0, 5), (0, 5), (0, 5), (0, 5), (0, 5), (0, 5), (0, 5), (0, 5), (0, 5), (0, 5), (0, 5), (0, 5), (0, 5), (0, 5), (0, 5), (0, 5), (0, 5), (0, 5), (0, 5), (0, 5), (0, 5), (0, 5), (0, 5), (0, 5), (0, 5), (0, 5), (0, 5), (0, 5), (0, 5), (0, 5), (0, 5), (0, 5), (0, 5), (0, 5), (0, 5), (0, 5), (0, 5), (0, 5), (0, 5), (0, 5), (0, 5), (0, 5), (0, 5), (0, 5), (0, 5), (0, 5), (0, 5), (0, 5), (0, 5), (0, 5), (0, 5), (0, 5), (0, 5), (0, 5), (0, 5), (0, 5), (0, 5), (0, 5), (0, 5), (0, 5), (0, 5), (0, 5), (0, 5), (0, 5), (0, 5), (0, 5), (0, 5), (0, 5), (0, 5), (0, 5), (0, 5), (0, 5), (0, 5), (0, 5), (0, 5), (0, 5), (0, 5), (0, 5), (0, 5), (0, 5), (0, 5), (0, 5), (0, 5), (0, 5), (0, 5), (0, 5), (0, 5), (0, 5), (0, 5), (0, 5), (0, 5), (0, 5), (0, 5), (0, 5), (0, 5), (0, 5), (0, 5), (0, 5), (0, 5), (0, 5), (0, 5), (0, 5), (0, 5), (0, 5), (0, 5), (0, 5), (0, 5), (0, 5), (0, 5), (0, 5), (0, 5), (0, 5), (0, 5), (0, 5), (0, 5), (0, 5), (0, 5), (0, 5), (0, 5), (0, 5), (0, 5), (0, 5), (0, 5), (0, 5), (0, 5), (0, 5), (0, 5), (0, 5), (0, 5), (0, 5), (0, 5), (0, 5), (0, 5), (0, 5), (0, 5), (0, 5), (0, 5), (0, 5), (0, 5), (0, 5), (0, 5), (0, 5), (0, 5)], some [(0, 1), (1, 1), (2, 1), (3, 1), (4, 1), (5, 1), (6, 1), (7, 1), (8, 1), (9, 1), (10, 1), (11, 1), (12, 1), (13, 1), (14, 1), (15, 1), (16, 1), (17, 1), (18, 1), (19, 1), (20, 1), (21, 1), (22, 1), (23, 1), (24, 1), (25, 1), (26, 1), (27, 1), (28, 1), (29, 1), (30, 1), (31, 1), (32, 1), (33, 1), (34, 1), (35, 1), (36, 1), (37, 1), (38, 1), (39, 1), (40, 1), (41, 1), (42, 1), (43, 1), (44, 1), (45, 1), (46, 1), (47, 1), (48, 1), (49, 1), (50, 1), (51, 1), (52, 1), (53, 1), (54, 1), (55, 1), (56, 1), (57, 1), (58, 1), (59, 1), (60, 1), (61, 1), (62, 1), (63, 1), (64, 1), (65, 1), (66, 1), (67, 1), (68, 1), (69, 1), (70, 1), (71, 1), (72, 1), (73, 1), (74, 1), (75, 1), (76, 1), (77, 1), (78, 1), (79, 1), (80, 1), (81, 1), (82, 1), (83, 1), (84, 1), (85, 1), (86, 1), (87, 1), (88, 1), (89, 1), (90, 1), (91, 1), (92, 1), (93, 1), (94, 1), (95, 1), (96, 1), (97, 1), (98, 1), (99, 1), (100, 1), (101, 1), (102, 1), (103, 1), (104, 1), (105, 1), (106, 1), (107, 1), (108, 1), (109, 1), (110, 1), (111, 1), (112, 1), (113, 1), (114, 1), (115, 1), (116, 1), (117, 1), (118, 1), (119, 1), (120, 1), (121, 1), (122, 1), (123, 1), (124, 1), (125, 1), (126, 1), (127, 1), (128, 1), (129, 1), (130, 1), (131, 1), (132, 1), (133, 1), (134, 1), (135, 1), (136, 1), (137, 1), (138, 1), (139, 1), (140, 1), (141, 1), (142, 1), (143, 1), (144, 1), (145, 1), (146, 1), (147, 1), (148, 1), (149, 1), (150, 1), (151, 1), (152, 1), (153, 1), (154, 1), (155, 1), (156, 1), (157, 1), (158, 1), (159, 1), (160, 1), (161, 1), (162, 1), (163, 1), (164, 1), (165, 1), (166, 1), (167, 1), (168, 1), (169, 1), (170, 1), (171, 1), (172, 1), (173, 1), (174, 1), (175, 1), (176, 1), (177, 1), (178, 1), (179, 1), (180, 1), (181, 1), (182, 1), (183, 1), (184, 1), (185, 1), (186, 1), (187, 1), (188, 1), (189, 1), (190, 1), (191, 1), (192, 1), (193, 1), (194, 1), (195, 1), (196, 1), (197, 1), (198, 1), (199, 1), (200, 1), (201, 1), (202, 1), (203, 1), (204, 1), (205, 1), (206, 1), (207, 1), (208, 1), (209, 1), (210, 1), (211, 1), (212, 1), (213, 1), (214, 1), (215, 1), (216, 1), (217, 1), (218, 1), (219, 1), (220, 1), (221, 1), (222, 1), (223, 1), (224, 1), (225, 1), (226, 1), (227, 1), (228, 1), (229, 1), (230, 1), (231, 1), (232, 1), (233, 1), (234, 1), (235, 1), (236, 1), (237, 1), (238, 1), (239, 1), (240, 1), (241, 1), (242, 1), (243, 1), (244, 1), (245, 1), (246, 1), (247, 1), (248, 1), (249, 1), (250, 1), (251, 1), (252, 1), (253, 1), (254, 1), (255, 1)]⟩ (.node 200 ⟨some ⟨3, true, 48, .agg [.str ⟨#[]⟩, .str ⟨#[]⟩, .inil]⟩, .struct, [(0, 9), (1, 9), (2, 140)], some [(0, 1), (1, 1), (2, 1)]⟩ .nil .nil) .nil)) (.node 211 ⟨some ⟨1, true, 16, .agg [.str ⟨#[]⟩]⟩, .struct, [(0, 9)], some [(0, 1)]⟩ (.node 209 ⟨some ⟨1, false, 8, .pnil⟩, .other, [], none⟩ (.node 207 ⟨some ⟨32, true, 32, .agg [.int .u8 0, .int .u8 0, .int .u8 0, .int .u8 0, .int .u8 0, .int .u8 0, .int .u8 0, .int .u8 0, .int .u8 0, .int .u8 0, .int .u8 0, .int .u8 0, .int .u8 0, .int .u8 0, .int .u8 0, .int .u8 0, .int .u8 0, .int .u8 0, .int .u8 0, .int .u8 0, .int .u8 0, .int .u8 0, .int .u8 0, .int .u8 0, .int .u8 0, .int .u8 0, .int .u8 0, .int .u8 0, .int .u8 0, .int .u8 0, .int .u8 0, .int .u8 0]⟩, .arr 16 206, [(0, 206), (0, 206), (0, 206), (0, 206), (0, 206), (0, 206), (0, 206), (0, 206), (0, 206), (0, 206), (0, 206), (0, 206), (0, 206), (0, 206), (0, 206), (0, 206)], some [(0, 2), (2, 2), (4, 2), (6, 2), (8, 2), (10, 2), (12, 2), (14, 2), (16, 2), (18, 2), (20, 2), (22, 2), (24, 2), (26, 2), (28, 2), (30, 2)]⟩ .nil .nil) .nil) (.node 213 ⟨some ⟨64, true, 64, .agg [.int .u8 0, .int .u8 0, .int .u8 0, .int .u8 0, .int .u8 0, .int .u8 0, .int .u8 0, .int .u8 0, .int .u8 0, .int .u8 0, .int .u8 0, .int .u8 0, .int .u8 0, .int .u8 0, .int .u8 0, .int .u8 0, .int .u8 0, .int .u8 0, .int .u8 0, .int .u8 0, .int .u8 0, .int .u8 0, .int .u8 0, .int .u8 0, .int .u8 0, .int .u8 0, .int .u8 0, .int .u8 0, .int .u8 0, .int .u8 0, .int .u8 0, .int .u8 0, .int .u8 0, .int .u8 0, .int .u8 0, .int .u8 0, .int .u8 0, .int .u8 0, .int .u8 0, .int .u8 0, .int .u8 0, .int .u8 0, .int .u8 0, .int .u8 0, .int .u8 0, .int .u8 0, .int .u8 0, .int .u8 0, .int .u8 0, .int .u8 0, .int .u8 0, .int .u8 0, .int .u8 0, .int .u8 0, .int .u8 0, .int .u8 0, .int .u8 0, .int .u8 0, .int .u8 0, .int .u8 0, .int .u8 0, .int .u8 0, .int .u8 0, .int .u8 0]⟩, .arr 64 5, [(0, 5), (0, 5), (0, 5), (0, 5), (0, 5), (0, 5), (0, 5), (0, 5), (0, 5), (0, 5), (0, 5), (0, 5), (0, 5), (0, 5), (0, 5), (0, 5), (0, 5), (0, 5), (0, 5), (0, 5), (0, 5), (0, 5), (0, 5), (0, 5), (0, 5), (0, 5), (0, 5), (0, 5), (0, 5), (0, 5), (0, 5), (0, 5), (0, 5), (0, 5), (0, 5), (0, 5), (0, 5), (0, 5), (0, 5), (0, 5), (0, 5), (0, 5), (0, 5), (0, 5), (0, 5), (0, 5), (0, 5), (0, 5), (0, 5), (0, 5), (0, 5), (0, 5), (0, 5), (0, 5), (0, 5), (0, 5), (0, 5), (0, 5), (0, 5), (0, 5), (0, 5), (0, 5), (0, 5), (0, 5)], some [(0, 1), (1, 1), (2, 1), (3, 1), (4, 1), (5, 1), (6, 1), (7, 1), (8, 1), (9, 1), (10, 1), (11, 1), (12, 1), (13, 1), (14, 1), (15, 1), (16, 1), (17, 1), (18, 1), (19, 1), (20, 1), (21, 1), (22, 1), (23, 1), (24, 1), (25, 1), (26, 1), (27, 1), (28, 1), (29, 1), (30, 1), (31, 1), (32, 1), (33, 1), (34, 1), (35, 1), (36, 1), (37, 1), (38, 1), (39, 1), (40, 1), (41, 1), (42, 1), (43, 1), (44, 1), (45, 1), (46, 1), (47, 1), (48, 1), (49, 1), (50, 1), (51, 1), (52, 1), (53, 1), (54, 1), (55, 1), (56, 1), (57, 1), (58, 1), (59, 1), (60, 1), (61, 1), (62, 1), (63, 1)]⟩ (.node 212 ⟨some ⟨32, true, 32, .agg [.int .u8 0, .int .u8 0, .int .u8 0, .int .u8 0, .int .u8 0, .int .u8 0, .int .u8 0, .int .u8 0, .int .u8 0, .int .u8 0, .int .u8 0, .int .u8 0, .int .u8 0, .int .u8 0, .int .u8 0, .int .u8 0, .int .u8 0, .int .u8 0, .int .u8 0, .int .u8 0, .int .u8 0, .int .u8 0, .int .u8 0, .int .u8 0, .int .u8 0, .int .u8 0, .int .u8 0, .int .u8 0, .int .u8 0, .int .u8 0, .int .u8 0, .int .u8 0]⟩, .arr 32 5, [(0, 5), (0, 5), (0, 5), (0, 5), (0, 5), (0, 5), (0, 5), (0, 5), (0, 5), (0, 5), (0, 5), (0, 5), (0, 5), (0, 5), (0, 5), (0, 5), (0, 5), (0, 5), (0, 5), (0, 5), (0, 5), (0, 5), (0, 5), (0, 5), (0, 5), (0, 5), (0, 5), (0, 5), (0, 5), (0, 5), (0, 5), (0, 5)], some [(0, 1), (1, 1), (2, 1), (3, 1), (4, 1), (5, 1), (6, 1), (7, 1), (8, 1), (9, 1), (10, 1), (11, 1), (12, 1), (13, 1), (14, 1), (15, 1), (16, 1), (17, 1), (18, 1), (19, 1), (20, 1), (21, 1), (22, 1), (23, 1), (24, 1), (25, 1), (26, 1), (27, 1), (28, 1), (29, 1), (30, 1), (31, 1)]⟩ .nil .nil) .nil)))))
def Tb : Nat → Option TRow := tabT.get
theorem TbOk : TabOk Tryz.prog Tb := zI2 (by kernel_rfl)
theorem mixed : Tryz.prog.follows .mixedOrders = true := by kernel_rfl
theorem fn3003 : FnIs Tryz.prog 3 (bodyOf Tryz.f3) #[.tmp 2] 74 := ⟨⟨Tryz.f3, Tryz.func3, by kernel_rfl, by kernel_rfl, by kernel_rfl, by kernel_rfl⟩, by kernel_rfl⟩
theorem fn5 : FnIs Tryz.prog 5 (bodyOf Tryz.f5) #[.tmp 2] 10 := ⟨⟨Tryz.f5, Tryz.func5, by kernel_rfl, by kernel_rfl, by kernel_rfl, by kernel_rfl⟩, by kernel_rfl⟩
theorem fn3006 : FnIs Tryz.prog 6 (bodyOf Tryz.f6) #[.tmp 2, .tmp 3] 17 := ⟨⟨Tryz.f6, Tryz.func6, by kernel_rfl, by kernel_rfl, by kernel_rfl, by kernel_rfl⟩, by kernel_rfl⟩
theorem fn11 : FnIs Tryz.prog 7 (bodyOf Tryz.f7) #[.cell 2 25] 12 := ⟨⟨Tryz.f7, Tryz.func7, by kernel_rfl, by kernel_rfl, by kernel_rfl, by kernel_rfl⟩, by kernel_rfl⟩
theorem fn12 : FnIs Tryz.prog 8 (bodyOf Tryz.f8) #[.tmp 2] 5 := ⟨⟨Tryz.f8, Tryz.func8, by kernel_rfl, by kernel_rfl, by kernel_rfl, by kernel_rfl⟩, by kernel_rfl⟩
theorem fn3009 : FnIs Tryz.prog 9 (bodyOf Tryz.f9) #[.tmp 2] 5 := ⟨⟨Tryz.f9, Tryz.func9, by kernel_rfl, by kernel_rfl, by kernel_rfl, by kernel_rfl⟩, by kernel_rfl⟩
theorem fn3010 : FnIs Tryz.prog 10 (bodyOf Tryz.f10) #[.tmp 4] 62 := ⟨⟨Tryz.f10, Tryz.func10, by kernel_rfl, by kernel_rfl, by kernel_rfl, by kernel_rfl⟩, by kernel_rfl⟩
theorem fn16 : FnIs Tryz.prog 11 (bodyOf Tryz.f11) #[.cell 4 25, .tmp 5, .tmp 6] 50 := ⟨⟨Tryz.f11, Tryz.func11, by kernel_rfl, by kernel_rfl, by kernel_rfl, by kernel_rfl⟩, by kernel_rfl⟩
theorem fn3012 : FnIs Tryz.prog 12 (bodyOf Tryz.f12) #[.tmp 2] 5 := ⟨⟨Tryz.f12, Tryz.func12, by kernel_rfl, by kernel_rfl, by kernel_rfl, by kernel_rfl⟩, by kernel_rfl⟩
theorem fn3013 : FnIs Tryz.prog 13 (bodyOf Tryz.f13) #[.tmp 2] 9 := ⟨⟨Tryz.f13, Tryz.func13, by kernel_rfl, by kernel_rfl, by kernel_rfl, by kernel_rfl⟩, by kernel_rfl⟩
theorem fn17 : FnIs Tryz.prog 14 (bodyOf Tryz.f14) #[.tmp 4] 9 := ⟨⟨Tryz.f14, Tryz.func14, by kernel_rfl, by kernel_rfl, by kernel_rfl, by kernel_rfl⟩, by kernel_rfl⟩
theorem fn15 : FnIs Tryz.prog 17 (bodyOf Tryz.f17) #[.tmp 6] 12 := ⟨⟨Tryz.f17, Tryz.func17, by kernel_rfl, by kernel_rfl, by kernel_rfl, by kernel_rfl⟩, by kernel_rfl⟩
theorem fn19 : FnIs Tryz.prog 19 (bodyOf Tryz.f19) #[.tmp 6] 37 := ⟨⟨Tryz.f19, Tryz.func19, by kernel_rfl, by kernel_rfl, by kernel_rfl, by kernel_rfl⟩, by kernel_rfl⟩
theorem fn20 : FnIs Tryz.prog 20 (bodyOf Tryz.f20) #[.tmp 2] 43 := ⟨⟨Tryz.f20, Tryz.func20, by kernel_rfl, by kernel_rfl, by kernel_rfl, by kernel_rfl⟩, by kernel_rfl⟩
theorem fn10 : FnIs Tryz.prog 21 (bodyOf Tryz.f21) #[.tmp 2] 8 := ⟨⟨Tryz.f21, Tryz.func21, by kernel_rfl, by kernel_rfl, by kernel_rfl, by kernel_rfl⟩, by kernel_rfl⟩
theorem fn3022 : FnIs Tryz.prog 22 (bodyOf Tryz.f22) #[.tmp 2] 82 := ⟨⟨Tryz.f22, Tryz.func22, by kernel_rfl, by kernel_rfl, by kernel_rfl, by kernel_rfl⟩, by kernel_rfl⟩
theorem fn29 : FnIs Tryz.prog 23 (bodyOf Tryz.f23) #[.tmp 2] 6 := ⟨⟨Tryz.f23, Tryz.func23, by kernel_rfl, by kernel_rfl, by kernel_rfl, by kernel_rfl⟩, by kernel_rfl⟩
theorem fn30 : FnIs Tryz.prog 24 (bodyOf Tryz.f24) #[.tmp 2] 20 := ⟨⟨Tryz.f24, Tryz.func24, by kernel_rfl, by kernel_rfl, by kernel_rfl, by kernel_rfl⟩, by kernel_rfl⟩
theorem fn31 : FnIs Tryz.prog 25 (bodyOf Tryz.f25) #[.tmp 2] 8 := ⟨⟨Tryz.f25, Tryz.func25, by kernel_rfl, by kernel_rfl, by kernel_rfl, by kernel_rfl⟩, by kernel_rfl⟩
theorem fn3026 : FnIs Tryz.prog 26 (bodyOf Tryz.f26) #[.tmp 2] 75 := ⟨⟨Tryz.f26, Tryz.func26, by kernel_rfl, by kernel_rfl, by kernel_rfl, by kernel_rfl⟩, by kernel_rfl⟩
theorem fn3027 : FnIs Tryz.prog 27 (bodyOf Tryz.f27) #[.tmp 4] 26 := ⟨⟨Tryz.f27, Tryz.func27, by kernel_rfl, by kernel_rfl, by kernel_rfl, by kernel_rfl⟩, by kernel_rfl⟩
theorem fn3028 : FnIs Tryz.prog 28 (bodyOf Tryz.f28) #[.tmp 4] 26 := ⟨⟨Tryz.f28, Tryz.func28, by kernel_rfl, by kernel_rfl, by kernel_rfl, by kernel_rfl⟩, by kernel_rfl⟩
theorem fn7 : FnIs Tryz.prog 29 (bodyOf Tryz.f29) #[.tmp 2, .tmp 3] 38 := ⟨⟨Tryz.f29, Tryz.func29, by kernel_rfl, by kernel_rfl, by kernel_rfl, by kernel_rfl⟩, by kernel_rfl⟩
theorem fn33 : FnIs Tryz.prog 30 (bodyOf Tryz.f30) #[.tmp 2, .tmp 3] 22 := ⟨⟨Tryz.f30, Tryz.func30, by kernel_rfl, by kernel_rfl, by kernel_rfl, by kernel_rfl⟩, by kernel_rfl⟩
theorem fn34 : FnIs Tryz.prog 31 (bodyOf Tryz.f31) #[.cell 6 25, .cell 7 3, .cell 8 30] 15 := ⟨⟨Tryz.f31, Tryz.func31, by kernel_rfl, by kernel_rfl, by kernel_rfl, by kernel_rfl⟩, by kernel_rfl⟩
theorem fn35 : FnIs Tryz.prog 32 (bodyOf Tryz.f32) #[.cell 2 25] 29 := ⟨⟨Tryz.f32, Tryz.func32, by kernel_rfl, by kernel_rfl, by kernel_rfl, by kernel_rfl⟩, by kernel_rfl⟩
theorem fn3033 : FnIs Tryz.prog 33 (bodyOf Tryz.f33) #[.tmp 2] 20 := ⟨⟨Tryz.f33, Tryz.func33, by kernel_rfl, by kernel_rfl, by kernel_rfl, by kernel_rfl⟩, by kernel_rfl⟩
theorem fn48 : FnIs Tryz.prog 34 (bodyOf Tryz.f34) #[.tmp 4] 17 := ⟨⟨Tryz.f34, Tryz.func34, by kernel_rfl, by kernel_rfl, by kernel_rfl, by kernel_rfl⟩, by kernel_rfl⟩
theorem fn3035 : FnIs Tryz.prog 35 (bodyOf Tryz.f35) #[.tmp 2] 5 := ⟨⟨Tryz.f35, Tryz.func35, by kernel_rfl, by kernel_rfl, by kernel_rfl, by kernel_rfl⟩, by kernel_rfl⟩
theorem fn36 : FnIs Tryz.prog 36 (bodyOf Tryz.f36) #[.tmp 4] 99 := ⟨⟨Tryz.f36, Tryz.func36, by kernel_rfl, by kernel_rfl, by kernel_rfl, by kernel_rfl⟩, by kernel_rfl⟩
theorem fn32 : FnIs Tryz.prog 37 (bodyOf Tryz.f37) #[.tmp 4] 92 := ⟨⟨Tryz.f37, Tryz.func37, by kernel_rfl, by kernel_rfl, by kernel_rfl, by kernel_rfl⟩, by kernel_rfl⟩
theorem fn37 : FnIs Tryz.prog 38 (bodyOf Tryz.f38) #[] 34 := ⟨⟨Tryz.f38, Tryz.func38, by kernel_rfl, by kernel_rfl, by kernel_rfl, by kernel_rfl⟩, by kernel_rfl⟩
theorem fn27 : FnIs Tryz.prog 39 (bodyOf Tryz.f39) #[.tmp 2] 7 := ⟨⟨Tryz.f39, Tryz.func39, by kernel_rfl, by kernel_rfl, by kernel_rfl, by kernel_rfl⟩, by kernel_rfl⟩
theorem fn28 : FnIs Tryz.prog 40 (bodyOf Tryz.f40) #[.tmp 2] 25 := ⟨⟨Tryz.f40, Tryz.func40, by kernel_rfl, by kernel_rfl, by kernel_rfl, by kernel_rfl⟩, by kernel_rfl⟩
theorem fn54 : FnIs Tryz.prog 41 (bodyOf Tryz.f41) #[.tmp 2] 8 := ⟨⟨Tryz.f41, Tryz.func41, by kernel_rfl, by kernel_rfl, by kernel_rfl, by kernel_rfl⟩, by kernel_rfl⟩
theorem fn3042 : FnIs Tryz.prog 42 (bodyOf Tryz.f42) #[.tmp 4] 68 := ⟨⟨Tryz.f42, Tryz.func42, by kernel_rfl, by kernel_rfl, by kernel_rfl, by kernel_rfl⟩, by kernel_rfl⟩
theorem fn49 : FnIs Tryz.prog 43 (bodyOf Tryz.f43) #[.tmp 2] 27 := ⟨⟨Tryz.f43, Tryz.func43, by kernel_rfl, by kernel_rfl, by kernel_rfl, by kernel_rfl⟩, by kernel_rfl⟩
theorem fn21 : FnIs Tryz.prog 44 (bodyOf Tryz.f44) #[.tmp 2] 67 := ⟨⟨Tryz.f44, Tryz.func44, by kernel_rfl, by kernel_rfl, by kernel_rfl, by kernel_rfl⟩, by kernel_rfl⟩
theorem fn22 : FnIs Tryz.prog 45 (bodyOf Tryz.f45) #[.tmp 4] 9 := ⟨⟨Tryz.f45, Tryz.func45, by kernel_rfl, by kernel_rfl, by kernel_rfl, by kernel_rfl⟩, by kernel_rfl⟩
theorem fn23 : FnIs Tryz.prog 46 (bodyOf Tryz.f46) #[.tmp 3] 9 := ⟨⟨Tryz.f46, Tryz.func46, by kernel_rfl, by kernel_rfl, by kernel_rfl, by kernel_rfl⟩, by kernel_rfl⟩
theorem fn50 : FnIs Tryz.prog 47 (bodyOf Tryz.f47) #[.tmp 2] 56 := ⟨⟨Tryz.f47, Tryz.func47, by kernel_rfl, by kernel_rfl, by kernel_rfl, by kernel_rfl⟩, by kernel_rfl⟩
theorem fn51 : FnIs Tryz.prog 48 (bodyOf Tryz.f48) #[.tmp 4] 84 := ⟨⟨Tryz.f48, Tryz.func48, by kernel_rfl, by kernel_rfl, by kernel_rfl, by kernel_rfl⟩, by kernel_rfl⟩
theorem fn53 : FnIs Tryz.prog 50 (bodyOf Tryz.f50) #[.cell 4 25] 165 := ⟨⟨Tryz.f50, Tryz.func50, by kernel_rfl, by kernel_rfl, by kernel_rfl, by kernel_rfl⟩, by kernel_rfl⟩
theorem fn55 : FnIs Tryz.prog 51 (bodyOf Tryz.f51) #[.tmp 2] 8 := ⟨⟨Tryz.f51, Tryz.func51, by kernel_rfl, by kernel_rfl, by kernel_rfl, by kernel_rfl⟩, by kernel_rfl⟩
theorem fn3052 : FnIs Tryz.prog 52 (bodyOf Tryz.f52) #[.tmp 2] 6 := ⟨⟨Tryz.f52, Tryz.func52, by kernel_rfl, by kernel_rfl, by kernel_rfl, by kernel_rfl⟩, by kernel_rfl⟩
theorem fn56 : FnIs Tryz.prog 53 (bodyOf Tryz.f53) #[.tmp 4] 52 := ⟨⟨Tryz.f53, Tryz.func53, by kernel_rfl, by kernel_rfl, by kernel_rfl, by kernel_rfl⟩, by kernel_rfl⟩
theorem fn57 : FnIs Tryz.prog 54 (bodyOf Tryz.f54) #[.tmp 2] 4 := ⟨⟨Tryz.f54, Tryz.func54, by kernel_rfl, by kernel_rfl, by kernel_rfl, by kernel_rfl⟩, by kernel_rfl⟩
theorem fn58 : FnIs Tryz.prog 55 (bodyOf Tryz.f55) #[.tmp 4] 44 := ⟨⟨Tryz.f55, Tryz.func55, by kernel_rfl, by kernel_rfl, by kernel_rfl, by kernel_rfl⟩, by kernel_rfl⟩
theorem fn59 : FnIs Tryz.prog 56 (bodyOf Tryz.f56) #[.tmp 4] 36 := ⟨⟨Tryz.f56, Tryz.func56, by kernel_rfl, by kernel_rfl, by kernel_rfl, by kernel_rfl⟩, by kernel_rfl⟩
theorem fn46 : FnIs Tryz.prog 57 (bodyOf Tryz.f57) #[.tmp 6] 39 := ⟨⟨Tryz.f57, Tryz.func57, by kernel_rfl, by kernel_rfl, by kernel_rfl, by kernel_rfl⟩, by kernel_rfl⟩
theorem fn47 : FnIs Tryz.prog 58 (bodyOf Tryz.f58) #[.tmp 2] 152 := ⟨⟨Tryz.f58, Tryz.func58, by kernel_rfl, by kernel_rfl, by kernel_rfl, by kernel_rfl⟩, by kernel_rfl⟩
theorem fn1084 : FnIs Tryz.prog 59 (bodyOf Tryz.f59) #[.tmp 2] 8 := ⟨⟨Tryz.f59, Tryz.func59, by kernel_rfl, by kernel_rfl, by kernel_rfl, by kernel_rfl⟩, by kernel_rfl⟩
theorem fn69 : FnIs Tryz.prog 60 (bodyOf Tryz.f60) #[.tmp 2] 211 := ⟨⟨Tryz.f60, Tryz.func60, by kernel_rfl, by kernel_rfl, by kernel_rfl, by kernel_rfl⟩, by kernel_rfl⟩
theorem fn38 : FnIs Tryz.prog 61 (bodyOf Tryz.f61) #[.tmp 4] 8 := ⟨⟨Tryz.f61, Tryz.func61, by kernel_rfl, by kernel_rfl, by kernel_rfl, by kernel_rfl⟩, by kernel_rfl⟩
theorem fn40 : FnIs Tryz.prog 63 (bodyOf Tryz.f63) #[.tmp 4] 19 := ⟨⟨Tryz.f63, Tryz.func63, by kernel_rfl, by kernel_rfl, by kernel_rfl, by kernel_rfl⟩, by kernel_rfl⟩
theorem fn70 : FnIs Tryz.prog 64 (bodyOf Tryz.f64) #[.tmp 4] 26 := ⟨⟨Tryz.f64, Tryz.func64, by kernel_rfl, by kernel_rfl, by kernel_rfl, by kernel_rfl⟩, by kernel_rfl⟩
theorem fn71 : FnIs Tryz.prog 65 (bodyOf Tryz.f65) #[.tmp 2] 21 := ⟨⟨Tryz.f65, Tryz.func65, by kernel_rfl, by kernel_rfl, by kernel_rfl, by kernel_rfl⟩, by kernel_rfl⟩
theorem fn72 : FnIs Tryz.prog 66 (bodyOf Tryz.f66) #[.tmp 2] 48 := ⟨⟨Tryz.f66, Tryz.func66, by kernel_rfl, by kernel_rfl, by kernel_rfl, by kernel_rfl⟩, by kernel_rfl⟩
theorem fn66 : FnIs Tryz.prog 67 (bodyOf Tryz.f67) #[.tmp 4] 9 := ⟨⟨Tryz.f67, Tryz.func67, by kernel_rfl, by kernel_rfl, by kernel_rfl, by kernel_rfl⟩, by kernel_rfl⟩
theorem fn73 : FnIs Tryz.prog 68 (bodyOf Tryz.f68) #[.tmp 4] 126 := ⟨⟨Tryz.f68, Tryz.func68, by kernel_rfl, by kernel_rfl, by kernel_rfl, by kernel_rfl⟩, by kernel_rfl⟩
theorem fn74 : FnIs Tryz.prog 69 (bodyOf Tryz.f69) #[.cell 2 25, .tmp 3] 42 := ⟨⟨Tryz.f69, Tryz.func69, by kernel_rfl, by kernel_rfl, by kernel_rfl, by kernel_rfl⟩, by kernel_rfl⟩
theorem fn75 : FnIs Tryz.prog 70 (bodyOf Tryz.f70) #[.cell 4 25, .tmp 5] 18 := ⟨⟨Tryz.f70, Tryz.func70, by kernel_rfl, by kernel_rfl, by kernel_rfl, by kernel_rfl⟩, by kernel_rfl⟩
theorem fn76 : FnIs Tryz.prog 71 (bodyOf Tryz.f71) #[] 11 := ⟨⟨Tryz.f71, Tryz.func71, by kernel_rfl, by kernel_rfl, by kernel_rfl, by kernel_rfl⟩, by kernel_rfl⟩
theorem fn77 : FnIs Tryz.prog 72 (bodyOf Tryz.f72) #[.cell 4 25] 27 := ⟨⟨Tryz.f72, Tryz.func72, by kernel_rfl, by kernel_rfl, by kernel_rfl, by kernel_rfl⟩, by kernel_rfl⟩
theorem fn78 : FnIs Tryz.prog 73 (bodyOf Tryz.f73) #[.tmp 4] 22 := ⟨⟨Tryz.f73, Tryz.func73, by kernel_rfl, by kernel_rfl, by kernel_rfl, by kernel_rfl⟩, by kernel_rfl⟩
theorem fn79 : FnIs Tryz.prog 74 (bodyOf Tryz.f74) #[.cell 4 25, .tmp 5] 19 := ⟨⟨Tryz.f74, Tryz.func74, by kernel_rfl, by kernel_rfl, by kernel_rfl, by kernel_rfl⟩, by kernel_rfl⟩
theorem fn80 : FnIs Tryz.prog 75 (bodyOf Tryz.f75) #[.cell 6 25] 58 := ⟨⟨Tryz.f75, Tryz.func75, by kernel_rfl, by kernel_rfl, by kernel_rfl, by kernel_rfl⟩, by kernel_rfl⟩
theorem fn62 : FnIs Tryz.prog 77 (bodyOf Tryz.f77) #[.cell 2 101, .tmp 3] 33 := ⟨⟨Tryz.f77, Tryz.func77, by kernel_rfl, by kernel_rfl, by kernel_rfl, by kernel_rfl⟩, by kernel_rfl⟩
theorem fn63 : FnIs Tryz.prog 78 (bodyOf Tryz.f78) #[.tmp 2] 37 := ⟨⟨Tryz.f78, Tryz.func78, by kernel_rfl, by kernel_rfl, by kernel_rfl, by kernel_rfl⟩, by kernel_rfl⟩
theorem fn64 : FnIs Tryz.prog 79 (bodyOf Tryz.f79) #[.tmp 4] 9 := ⟨⟨Tryz.f79, Tryz.func79, by kernel_rfl, by kernel_rfl, by kernel_rfl, by kernel_rfl⟩, by kernel_rfl⟩
theorem fn65 : FnIs Tryz.prog 80 (bodyOf Tryz.f80) #[.tmp 2] 6 := ⟨⟨Tryz.f80, Tryz.func80, by kernel_rfl, by kernel_rfl, by kernel_rfl, by kernel_rfl⟩, by kernel_rfl⟩
theorem fn67 : FnIs Tryz.prog 81 (bodyOf Tryz.f81) #[.tmp 4] 25 := ⟨⟨Tryz.f81, Tryz.func81, by kernel_rfl, by kernel_rfl, by kernel_rfl, by kernel_rfl⟩, by kernel_rfl⟩
theorem fn68 : FnIs Tryz.prog 82 (bodyOf Tryz.f82) #[.tmp 4] 62 := ⟨⟨Tryz.f82, Tryz.func82, by kernel_rfl, by kernel_rfl, by kernel_rfl, by kernel_rfl⟩, by kernel_rfl⟩
theorem fn88 : FnIs Tryz.prog 83 (bodyOf Tryz.f83) #[.tmp 2] 13 := ⟨⟨Tryz.f83, Tryz.func83, by kernel_rfl, by kernel_rfl, by kernel_rfl, by kernel_rfl⟩, by kernel_rfl⟩
theorem fn41 : FnIs Tryz.prog 84 (bodyOf Tryz.f84) #[.tmp 6] 15 := ⟨⟨Tryz.f84, Tryz.func84, by kernel_rfl, by kernel_rfl, by kernel_rfl, by kernel_rfl⟩, by kernel_rfl⟩
theorem fn89 : FnIs Tryz.prog 85 (bodyOf Tryz.f85) #[.tmp 2] 42 := ⟨⟨Tryz.f85, Tryz.func85, by kernel_rfl, by kernel_rfl, by kernel_rfl, by kernel_rfl⟩, by kernel_rfl⟩
theorem fn25 : FnIs Tryz.prog 86 (bodyOf Tryz.f86) #[.tmp 2] 66 := ⟨⟨Tryz.f86, Tryz.func86, by kernel_rfl, by kernel_rfl, by kernel_rfl, by kernel_rfl⟩, by kernel_rfl⟩
theorem fn90 : FnIs Tryz.prog 87 (bodyOf Tryz.f87) #[.tmp 4] 19 := ⟨⟨Tryz.f87, Tryz.func87, by kernel_rfl, by kernel_rfl, by kernel_rfl, by kernel_rfl⟩, by kernel_rfl⟩
theorem fn60 : FnIs Tryz.prog 88 (bodyOf Tryz.f88) #[.tmp 4] 21 := ⟨⟨Tryz.f88, Tryz.func88, by kernel_rfl, by kernel_rfl, by kernel_rfl, by kernel_rfl⟩, by kernel_rfl⟩
theorem fn91 : FnIs Tryz.prog 90 (bodyOf Tryz.f90) #[.tmp 2] 6 := ⟨⟨Tryz.f90, Tryz.func90, by kernel_rfl, by kernel_rfl, by kernel_rfl, by kernel_rfl⟩, by kernel_rfl⟩
theorem fn92 : FnIs Tryz.prog 91 (bodyOf Tryz.f91) #[.tmp 4] 9 := ⟨⟨Tryz.f91, Tryz.func91, by kernel_rfl, by kernel_rfl, by kernel_rfl, by kernel_rfl⟩, by kernel_rfl⟩
theorem fn93 : FnIs Tryz.prog 92 (bodyOf Tryz.f92) #[.tmp 3] 9 := ⟨⟨Tryz.f92, Tryz.func92, by kernel_rfl, by kernel_rfl, by kernel_rfl, by kernel_rfl⟩, by kernel_rfl⟩
theorem fn94 : FnIs Tryz.prog 93 (bodyOf Tryz.f93) #[.tmp 4] 19 := ⟨⟨Tryz.f93, Tryz.func93, by kernel_rfl, by kernel_rfl, by kernel_rfl, by kernel_rfl⟩, by kernel_rfl⟩
theorem fn95 : FnIs Tryz.prog 94 (bodyOf Tryz.f94) #[.tmp 2] 12 := ⟨⟨Tryz.f94, Tryz.func94, by kernel_rfl, by kernel_rfl, by kernel_rfl, by kernel_rfl⟩, by kernel_rfl⟩
theorem fn84 : FnIs Tryz.prog 95 (bodyOf Tryz.f95) #[.tmp 4] 19 := ⟨⟨Tryz.f95, Tryz.func95, by kernel_rfl, by kernel_rfl, by kernel_rfl, by kernel_rfl⟩, by kernel_rfl⟩
theorem fn96 : FnIs Tryz.prog 96 (bodyOf Tryz.f96) #[.tmp 3] 10 := ⟨⟨Tryz.f96, Tryz.func96, by kernel_rfl, by kernel_rfl, by kernel_rfl, by kernel_rfl⟩, by kernel_rfl⟩
theorem fn97 : FnIs Tryz.prog 97 (bodyOf Tryz.f97) #[.tmp 2] 16 := ⟨⟨Tryz.f97, Tryz.func97, by kernel_rfl, by kernel_rfl, by kernel_rfl, by kernel_rfl⟩, by kernel_rfl⟩
theorem fn98 : FnIs Tryz.prog 98 (bodyOf Tryz.f98) #[.tmp 3] 8 := ⟨⟨Tryz.f98, Tryz.func98, by kernel_rfl, by kernel_rfl, by kernel_rfl, by kernel_rfl⟩, by kernel_rfl⟩
theorem fn99 : FnIs Tryz.prog 99 (bodyOf Tryz.f99) #[] 9 := ⟨⟨Tryz.f99, Tryz.func99, by kernel_rfl, by kernel_rfl, by kernel_rfl, by kernel_rfl⟩, by kernel_rfl⟩
theorem fn100 : FnIs Tryz.prog 100 (bodyOf Tryz.f100) #[.tmp 2] 16 := ⟨⟨Tryz.f100, Tryz.func100, by kernel_rfl, by kernel_rfl, by kernel_rfl, by kernel_rfl⟩, by kernel_rfl⟩
theorem fn83 : FnIs Tryz.prog 105 (bodyOf Tryz.f105) #[.tmp 4] 19 := ⟨⟨Tryz.f105, Tryz.func105, by kernel_rfl, by kernel_rfl, by kernel_rfl, by kernel_rfl⟩, by kernel_rfl⟩
theorem fn86 : FnIs Tryz.prog 107 (bodyOf Tryz.f107) #[.tmp 4] 36 := ⟨⟨Tryz.f107, Tryz.func107, by kernel_rfl, by kernel_rfl, by kernel_rfl, by kernel_rfl⟩, by kernel_rfl⟩
theorem fn87 : FnIs Tryz.prog 108 (bodyOf Tryz.f108) #[.tmp 6] 39 := ⟨⟨Tryz.f108, Tryz.func108, by kernel_rfl, by kernel_rfl, by kernel_rfl, by kernel_rfl⟩, by kernel_rfl⟩
theorem fn42 : FnIs Tryz.prog 109 (bodyOf Tryz.f109) #[.tmp 2] 9 := ⟨⟨Tryz.f109, Tryz.func109, by kernel_rfl, by kernel_rfl, by kernel_rfl, by kernel_rfl⟩, by kernel_rfl⟩
theorem fn43 : FnIs Tryz.prog 110 (bodyOf Tryz.f110) #[.tmp 2] 9 := ⟨⟨Tryz.f110, Tryz.func110, by kernel_rfl, by kernel_rfl, by kernel_rfl, by kernel_rfl⟩, by kernel_rfl⟩
theorem fn44 : FnIs Tryz.prog 111 (bodyOf Tryz.f111) #[.tmp 2] 9 := ⟨⟨Tryz.f111, Tryz.func111, by kernel_rfl, by kernel_rfl, by kernel_rfl, by kernel_rfl⟩, by kernel_rfl⟩
theorem fn111 : FnIs Tryz.prog 113 (bodyOf Tryz.f113) #[.tmp 4] 19 := ⟨⟨Tryz.f113, Tryz.func113, by kernel_rfl, by kernel_rfl, by kernel_rfl, by kernel_rfl⟩, by kernel_rfl⟩
theorem fn110 : FnIs Tryz.prog 134 (bodyOf Tryz.f134) #[.tmp 4] 20 := ⟨⟨Tryz.f134, Tryz.func134, by kernel_rfl, by kernel_rfl, by kernel_rfl, by kernel_rfl⟩, by kernel_rfl⟩
theorem fn134 : FnIs Tryz.prog 150 (bodyOf Tryz.f150) #[.tmp 2] 6 := ⟨⟨Tryz.f150, Tryz.func150, by kernel_rfl, by kernel_rfl, by kernel_rfl, by kernel_rfl⟩, by kernel_rfl⟩
end Go.Proofs.Sx

set_option linter.unusedVariables false
set_option linter.unusedSimpArgs false
namespace Go.Proofs.Am
open Go Go.RowKit

/-- A function that is known by its results on data. -/
structure Ent where
  f : Nat
  ok : List DV → Bool
  res : List DV → DV

def lookOk : List Ent → Nat → List DV → Bool
  | [], _, _ => false
  | e :: r, f, ds => if e.f = f then e.ok ds else lookOk r f ds
def lookRes : List Ent → Nat → List DV → DV
  | [], _, _ => .inil
  | e :: r, f, ds => if e.f = f then e.res ds else lookRes r f ds

/-- A part of a block of data, as data. -/
def avD : AV → DV
  | .d v => v
  | _ => .snil
def rowF (els : List AV) (off n : Nat) : DV := .sim (((els.drop off).take n).map avD)
def rowOkF (els : List AV) (off n : Nat) : Bool := decide (off + n ≤ els.length ∧ n ≤ big) && ((els.drop off).take n).all isD
theorem frz_avD (lh : Nat → Option LB) (m : Nat) : ∀ (l : List AV), l.all isD = true → l.mapM (frz lh m) = some (l.map avD)
  | [], _ => rfl
  | .d v :: r, h => by
    simp only [List.all_cons, isD, Bool.true_and] at h
    simp [List.mapM_cons, frz_d, frz_avD lh m r h, avD]
  | .loc .. :: _, h | .slc .. :: _, h | .agg _ :: _, h | .tup _ :: _, h | .fn .. :: _, h | .iface .. :: _, h | .zc :: _, h | .undef :: _, h => by simp [isD] at h
theorem rowF_ok (els : List AV) (off n m : Nat) (lh : Nat → Option LB) (h : rowOkF els off n = true) : off + n ≤ els.length ∧ n ≤ big ∧ (((els.drop off).take n).mapM (frz lh m)).map DV.sim = some (rowF els off n) := by
  unfold rowOkF at h
  rw [Bool.and_eq_true] at h
  have h1 := of_decide_eq_true h.1
  exact ⟨h1.1, h1.2, by rw [frz_avD lh m _ h.2]; rfl⟩
theorem rowF_map (ds : List DV) (off n : Nat) : rowF (ds.map .d) off n = .sim ((ds.drop off).take n) := by
  unfold rowF
  rw [← List.map_drop, ← List.map_take, List.map_map]
  congr 1
  exact List.map_id'' (fun _ => rfl) _
theorem rowOkF_map (ds : List DV) (off n : Nat) : rowOkF (ds.map .d) off n = decide (off + n ≤ ds.length ∧ n ≤ big) := by
  unfold rowOkF
  rw [← List.map_drop, ← List.map_take, List.all_map]
  simp [isD, Function.comp_def]

/-- A function that may give up, known by what it gives up with. -/
structure PEnt where
  f : Nat
  pn : List DV → Bool
  pd : List DV → DV
def lookPn : List PEnt → Nat → List DV → Bool
  | [], _, _ => false
  | e :: r, f, ds => if e.f = f then e.pn ds else lookPn r f ds
def lookPd : List PEnt → Nat → List DV → DV
  | [], _, _ => .inil
  | e :: r, f, ds => if e.f = f then e.pd ds else lookPd r f ds
def PEntOk (P : Program) (gs : List Nat) (e : PEnt) : Prop := ∀ ds, e.pn ds = true → PanicCall P gs e.f ds (e.pd ds) ∧ scalarD (e.pd ds) = true
inductive AllP (P : Program) (gs : List Nat) : List PEnt → Prop where
  | nil : AllP P gs []
  | cons {e : PEnt} {l : List PEnt} (h : PEntOk P gs e) (t : AllP P gs l) : AllP P gs (e :: l)
theorem lookPn_ok {P : Program} {gs : List Nat} {l : List PEnt} (h : AllP P gs l) : ∀ f ds, lookPn l f ds = true → PanicCall P gs f ds (lookPd l f ds) ∧ scalarD (lookPd l f ds) = true := by
  induction h with
  | nil => intro f ds h; cases h
  | cons h t ih =>
    intro f ds hk
    simp only [lookPn] at hk
    simp only [lookPd]
    split at hk
    · rename_i hf; subst hf; rw [if_pos rfl]; exact h ds hk
    · rename_i hf; rw [if_neg hf]; exact ih f ds hk

def sfOf (l : List Ent) : SF := ⟨lookOk l, lookRes l, fun f ds => scalarD (lookRes l f ds), rowF, rowOkF, fun _ _ => false, fun _ _ => .inil, fun _ _ => false, fun _ _ => [], fun _ _ => 0, fun _ => 0, fun _ => 0⟩
def sfOfP (l : List Ent) (pl : List PEnt) : SF := ⟨lookOk l, lookRes l, fun f ds => scalarD (lookRes l f ds), rowF, rowOkF, lookPn pl, lookPd pl, fun _ _ => false, fun _ _ => [], fun _ _ => 0, fun _ => 0, fun _ => 0⟩
/-- A function that hands back a row of its own. -/
structure FEnt where
  f : Nat
  es : Nat
  ty : Nat
  fo : List DV → Bool
  fr : List DV → List DV
def lookFo : List FEnt → Nat → List DV → Bool
  | [], _, _ => false
  | e :: r, f, ds => if e.f = f then e.fo ds else lookFo r f ds
def lookFra : List FEnt → Nat → List DV → List AV
  | [], _, _ => []
  | e :: r, f, ds => if e.f = f then (e.fr ds).map .d else lookFra r f ds
def lookFrn : List FEnt → Nat → List DV → Nat
  | [], _, _ => 0
  | e :: r, f, ds => if e.f = f then (e.fr ds).length else lookFrn r f ds
def lookFes : List FEnt → Nat → Nat
  | [], _ => 0
  | e :: r, f => if e.f = f then e.es else lookFes r f
def lookFty : List FEnt → Nat → Nat
  | [], _ => 0
  | e :: r, f => if e.f = f then e.ty else lookFty r f
def FEntOk (P : Program) (gs : List Nat) (e : FEnt) : Prop := ∀ ds, e.fo ds = true → PureCall P gs e.f ds ⟨.slc 0 e.es 0 (e.fr ds).length, [⟨(e.fr ds).map .d, e.es, e.ty, true, true⟩]⟩
inductive AllF (P : Program) (gs : List Nat) : List FEnt → Prop where
  | nil : AllF P gs []
  | cons {e : FEnt} {l : List FEnt} (h : FEntOk P gs e) (t : AllF P gs l) : AllF P gs (e :: l)
theorem lookFo_ok {P : Program} {gs : List Nat} {l : List FEnt} (h : AllF P gs l) : ∀ f ds, lookFo l f ds = true → ∃ r : List DV, lookFra l f ds = r.map .d ∧ lookFrn l f ds = r.length ∧ PureCall P gs f ds ⟨.slc 0 (lookFes l f) 0 r.length, [⟨r.map .d, lookFes l f, lookFty l f, true, true⟩]⟩ := by
  induction h with
  | nil => intro f ds h; cases h
  | cons h t ih =>
    intro f ds hk
    simp only [lookFo] at hk
    simp only [lookFra, lookFrn, lookFes, lookFty]
    split at hk
    · rename_i hf; subst hf; rw [if_pos rfl, if_pos rfl, if_pos rfl, if_pos rfl]; exact ⟨_, rfl, rfl, h ds hk⟩
    · rename_i hf; rw [if_neg hf, if_neg hf, if_neg hf, if_neg hf]; exact ih f ds hk
def sfOfF (l : List Ent) (pl : List PEnt) (fl : List FEnt) : SF := ⟨lookOk l, lookRes l, fun f ds => scalarD (lookRes l f ds), rowF, rowOkF, lookPn pl, lookPd pl, lookFo fl, lookFra fl, lookFrn fl, lookFes fl, lookFty fl⟩

def noH : SH := fun _ => none

def EntOk (P : Program) (gs : List Nat) (e : Ent) : Prop := ∀ ds, e.ok ds = true → PureCall P gs e.f ds (dRet (e.res ds))

inductive AllOk (P : Program) (gs : List Nat) : List Ent → Prop where
  | nil : AllOk P gs []
  | cons {e : Ent} {l : List Ent} (h : EntOk P gs e) (t : AllOk P gs l) : AllOk P gs (e :: l)

theorem lookOk_ok {P : Program} {gs : List Nat} {l : List Ent} (h : AllOk P gs l) : ∀ f ds, lookOk l f ds = true → PureCall P gs f ds (dRet (lookRes l f ds)) := by
  induction h with
  | nil => intro f ds h; cases h
  | cons h t ih =>
    intro f ds hk
    simp only [lookOk] at hk
    simp only [lookRes]
    split at hk
    · rename_i hf; subst hf; rw [if_pos rfl]; exact h ds hk
    · rename_i hf; rw [if_neg hf]; exact ih f ds hk

theorem sfOk {P : Program} {gs : List Nat} {l : List Ent} (h : AllOk P gs l) : SFok P gs (sfOf l) noH :=
  ⟨fun _ _ h => h, rowF_ok, lookOk_ok h, (fun _ _ h => nomatch h), (fun _ _ h => nomatch h), fun f g lh nid args r h => by cases h⟩
theorem sfOkP {P : Program} {gs : List Nat} {l : List Ent} {pl : List PEnt} (h : AllOk P gs l) (hp : AllP P gs pl) : SFok P gs (sfOfP l pl) noH :=
  ⟨fun _ _ h => h, rowF_ok, lookOk_ok h, (fun _ _ h => nomatch h), lookPn_ok hp, fun f g lh nid args r h => by cases h⟩
theorem sfOkF {P : Program} {gs : List Nat} {l : List Ent} {pl : List PEnt} {fl : List FEnt} (h : AllOk P gs l) (hp : AllP P gs pl) (hf : AllF P gs fl) : SFok P gs (sfOfF l pl fl) noH :=
  ⟨fun _ _ h => h, rowF_ok, lookOk_ok h, lookFo_ok hf, lookPn_ok hp, fun f g lh nid args r h => by cases h⟩

/-! ## Reading -/

theorem binV_add (k : IntKind) (a b : Int) : binV .add (.int k a) (.int k b) = some (.int k (k.wrap (a + b))) := by simp [binV, intOp]
theorem binV_sub (k : IntKind) (a b : Int) : binV .sub (.int k a) (.int k b) = some (.int k (k.wrap (a - b))) := by simp [binV, intOp]
theorem binV_mul (k : IntKind) (a b : Int) : binV .mul (.int k a) (.int k b) = some (.int k (k.wrap (a * b))) := by simp [binV, intOp]
theorem binV_eql (k : IntKind) (a b : Int) : binV .eql (.int k a) (.int k b) = some (.bool (decide (a = b))) := by simp [binV, intOp]; rfl
theorem binV_neq (k : IntKind) (a b : Int) : binV .neq (.int k a) (.int k b) = some (.bool (!decide (a = b))) := by simp [binV, intOp]; rfl
theorem binV_lss (k : IntKind) (a b : Int) : binV .lss (.int k a) (.int k b) = some (.bool (decide (a < b))) := by simp [binV, intOp]
theorem binV_leq (k : IntKind) (a b : Int) : binV .leq (.int k a) (.int k b) = some (.bool (decide (a ≤ b))) := by simp [binV, intOp]
theorem binV_gtr (k : IntKind) (a b : Int) : binV .gtr (.int k a) (.int k b) = some (.bool (decide (b < a))) := by simp [binV, intOp]
theorem binV_geq (k : IntKind) (a b : Int) : binV .geq (.int k a) (.int k b) = some (.bool (decide (b ≤ a))) := by simp [binV, intOp]
theorem binV_seql (a b : ByteArray) : binV .eql (.str a) (.str b) = some (.bool (decide (a = b))) := by
  simp only [binV, strOp]
  congr 2
  obtain ⟨⟨a⟩⟩ := a; obtain ⟨⟨b⟩⟩ := b
  by_cases h : a = b <;> simp [h]
theorem binV_sneq (a b : ByteArray) : binV .neq (.str a) (.str b) = some (.bool (!decide (a = b))) := by
  simp only [binV, strOp]
  congr 3
  obtain ⟨⟨a⟩⟩ := a; obtain ⟨⟨b⟩⟩ := b
  by_cases h : a = b <;> simp [h]
theorem bbinV_eql (a b : Bool) : bbinV .eql (.bool a) (.bool b) = some (.bool (a == b)) := rfl
theorem bbinV_neq (a b : Bool) : bbinV .neq (.bool a) (.bool b) = some (.bool (!(a == b))) := rfl
theorem unV_not (b : Bool) : unV .not (.bool b) = some (.bool (!b)) := rfl
theorem unV_neg (k : IntKind) (n : Int) : unV .neg (.int k n) = some (.int k (k.wrap (0 - n))) := rfl
theorem convV_int (k k' : IntKind) (n : Int) : convV k (.int k' n) = .int k (k.wrap n) := rfl

theorem ib_add (k : IntKind) (x y : DV) : ibinD k .add x y = .int k (k.wrap (asInt x + asInt y)) := rfl
theorem ib_sub (k : IntKind) (x y : DV) : ibinD k .sub x y = .int k (k.wrap (asInt x - asInt y)) := rfl
theorem ib_mul (k : IntKind) (x y : DV) : ibinD k .mul x y = .int k (k.wrap (asInt x * asInt y)) := rfl
theorem ib_eql (k : IntKind) (x y : DV) : ibinD k .eql x y = .bool (eqI (asInt x) (asInt y)) := rfl
theorem ib_neq (k : IntKind) (x y : DV) : ibinD k .neq x y = .bool (!eqI (asInt x) (asInt y)) := rfl
theorem ib_lss (k : IntKind) (x y : DV) : ibinD k .lss x y = .bool (ltI (asInt x) (asInt y)) := rfl
theorem ib_leq (k : IntKind) (x y : DV) : ibinD k .leq x y = .bool (leI (asInt x) (asInt y)) := rfl
theorem ib_gtr (k : IntKind) (x y : DV) : ibinD k .gtr x y = .bool (ltI (asInt y) (asInt x)) := rfl
theorem ib_geq (k : IntKind) (x y : DV) : ibinD k .geq x y = .bool (leI (asInt y) (asInt x)) := rfl
theorem sb_eql (x y : DV) : sbinD .eql x y = .bool (eqB (asStr x) (asStr y)) := rfl
theorem sb_neq (x y : DV) : sbinD .neq x y = .bool (!eqB (asStr x) (asStr y)) := rfl
theorem sb_lss (x y : DV) : sbinD .lss x y = .bool (ltB (asStr x) (asStr y)) := rfl
theorem sb_gtr (x y : DV) : sbinD .gtr x y = .bool (!(ltB (asStr x) (asStr y) || eqB (asStr x) (asStr y))) := rfl
theorem eqI_eq (a b : Int) : eqI a b = decide (a = b) := rfl
theorem ltI_eq (a b : Int) : ltI a b = decide (a < b) := rfl
theorem leI_eq (a b : Int) : leI a b = decide (a ≤ b) := rfl
theorem eqB_eq (a b : ByteArray) : eqB a b = decide (a = b) := rfl
theorem isIK_int (k : IntKind) (n : Int) : isIK k (.int k n) = true := by simp [isIK]
theorem isIK_ite (k : IntKind) (c : Prop) [Decidable c] (x y : DV) : isIK k (if c then x else y) = if c then isIK k x else isIK k y := by split <;> rfl
theorem isStrD_ite (c : Prop) [Decidable c] (x y : DV) : isStrD (if c then x else y) = if c then isStrD x else isStrD y := by split <;> rfl
theorem asInt_ite (c : Prop) [Decidable c] (x y : DV) : asInt (if c then x else y) = if c then asInt x else asInt y := by split <;> rfl
theorem asBool_ite (c : Prop) [Decidable c] (x y : DV) : asBool (if c then x else y) = if c then asBool x else asBool y := by split <;> rfl
theorem isBoolD_ite (c : Prop) [Decidable c] (x y : DV) : isBoolD (if c then x else y) = if c then isBoolD x else isBoolD y := by split <;> rfl
theorem isBUD_ite (c : Prop) [Decidable c] (x y : DV) : isBUD (if c then x else y) = if c then isBUD x else isBUD y := by split <;> rfl
theorem grdD_ite (c : Prop) [Decidable c] (x y : DV) (w : Bool) : grdD (if c then x else y) w = if c then grdD x w else grdD y w := by split <;> rfl
theorem grdD_bool (b w : Bool) : grdD (.bool b) w = (b == w) := rfl
theorem grdD_tup (l : List DV) (w : Bool) : grdD (.tup l) w = false := rfl
theorem isBUD_tup : isBUD (.tup []) = true := rfl
theorem isBUD_bool (b : Bool) : isBUD (.bool b) = true := rfl
theorem isBoolD_tup (l : List DV) : isBoolD (.tup l) = false := rfl
theorem isBoolD_bool (b : Bool) : isBoolD (.bool b) = true := rfl
theorem asBool_tup (l : List DV) : asBool (.tup l) = false := rfl
theorem zH2 (b : Bool) : asBool (.bool b) = b := rfl
theorem zJ0 (b c : Bool) : (isBoolD (.bool b) && (asBool (.bool b) == c)) = (b == c) := by simp [isBoolD, asBool]
theorem isIntD_int (k : IntKind) (n : Int) : isIntD (.int k n) = true := rfl
theorem isStrD_str (s : ByteArray) : isStrD (.str s) = true := rfl
theorem asInt_int (k : IntKind) (n : Int) : asInt (.int k n) = n := rfl
theorem asStr_str (s : ByteArray) : asStr (.str s) = s := rfl
theorem lstD_sim (l : List DV) : lstD (.sim l) = l := rfl
theorem lstD_snil : lstD .snil = [] := rfl
theorem isSlD_sim (l : List DV) : isSlD (.sim l) = true := rfl
theorem isSlD_snil : isSlD .snil = true := rfl
theorem isSnil_sim (l : List DV) : isSnil (.sim l) = false := rfl
theorem isSnil_snil : isSnil .snil = true := rfl

theorem dlV_whole (n : Nat) (e : DV) (h : e.cells.length = n) : dlV n true e 0 = e := by simp [dlV, h]
theorem dlV_cell (n : Nat) (e : DV) (fo : Nat) : dlV n false e fo = e.cells.getD fo .inil := rfl

theorem pick_or (c y : Bool) (z : List DV) : (if c = true then DV.bool true else if (!c) = true then DV.bool y else .tup z) = .bool (c || y) := by cases c <;> rfl
theorem pick_and (c y : Bool) (z : List DV) : (if c = true then (if c = true then DV.bool y else .tup z) else DV.bool false) = .bool (c && y) := by cases c <;> rfl
theorem pick_or' (c x y : Bool) (z : List DV) : (if c = true then DV.bool x else if (!c) = true then DV.bool y else .tup z) = .bool (cond c x y) := by cases c <;> rfl
theorem pick_and' (c x y : Bool) (z : List DV) : (if c = true then (if c = true then DV.bool y else .tup z) else DV.bool x) = .bool (cond c y x) := by cases c <;> rfl
theorem bytesA_get (s : ByteArray) (i : Nat) (h : i < s.size) : (bytesA s).getD i .undef = .d (.int .u8 (byt s i)) := by
  have h' : i < s.data.toList.length := by simpa using h
  simp [bytesA, byt, List.getD, List.getElem?_map, List.getElem?_eq_getElem h', h]
theorem dgetA_bytes (s : ByteArray) (i : Nat) (h : i < s.size) : dgetA (bytesA s) i = .int .u8 (byt s i) := by unfold dgetA; rw [bytesA_get s i h]
theorem isDat_bytes (s : ByteArray) (i : Nat) (h : i < s.size) : isDatA ((bytesA s).getD i .undef) = true := by rw [bytesA_get s i h]; rfl
theorem bytesA_len (s : ByteArray) : (bytesA s).length = s.size := by simp [bytesA]
theorem bytesA_bel (s : ByteArray) (m : Nat) : (bytesA s).all (bel m 8) = true := by
  simp only [bytesA, List.all_eq_true, List.mem_map]
  rintro e ⟨b, _, rfl⟩; rfl
theorem bel_d (m : Nat) (v : DV) : bel m 8 (.d v) = true := rfl
theorem zI5 (l : List DV) : (DV.agg l).cells = l := rfl
theorem cells_str (s : ByteArray) : (DV.str s).cells = [.str s] := rfl
theorem cells_int (k : IntKind) (n : Int) : (DV.int k n).cells = [.int k n] := rfl
theorem cells_bool (b : Bool) : (DV.bool b).cells = [.bool b] := rfl
theorem cells_sim (l : List DV) : (DV.sim l).cells = [.sim l] := rfl
theorem cells_snil : DV.snil.cells = [.snil] := rfl
theorem bel_aggd (m : Nat) (l : List AV) : bel m 8 (.agg l) = l.all (bel m 7) := rfl
theorem bel7_d (m : Nat) (v : DV) : bel m 7 (.d v) = true := rfl
theorem zH5 (l : List DV) : dIsAgg (.agg l) = true := rfl
theorem natCast_fold (n : Nat) : @NatCast.natCast Int instNatCastInt n = (n : Int) := rfl
theorem zJ9 (l : List DV) : tupD (.tup l) = l := rfl
theorem ite_bool (c : Prop) [Decidable c] (a b : Bool) : (if c then DV.bool a else DV.bool b) = .bool (if c then a else b) := by split <;> rfl
theorem beq_tt (b : Bool) : (b == true) = b := by cases b <;> rfl
theorem beq_ft (b : Bool) : (b == false) = !b := by cases b <;> rfl
theorem ite_same {α : Type} (c : Prop) [Decidable c] (x : α) : (if c then x else x) = x := by split <;> rfl
theorem imp_true (p : Prop) : (p → True) = True := by simp
theorem one_int (k : IntKind) (n : Int) : avOne (.d (.int k n)) = true := rfl
theorem zI9 (b : Bool) : avOne (.d (.bool b)) = true := rfl
theorem one_str (s : ByteArray) : avOne (.d (.str s)) = true := rfl
theorem one_sim (l : List DV) : avOne (.d (.sim l)) = true := rfl
theorem one_snil : avOne (.d .snil) = true := rfl
theorem one_fn (f : FuncId) (l : List DV) : avOne (.d (.fn f l)) = true := rfl

theorem scalarD_bool (b : Bool) : scalarD (.bool b) = true := rfl

theorem zJ4 {x : Int} (h1 : -9223372036854775808 ≤ x) (h2 : x ≤ 9223372036854775807) : IntKind.i64.wrap x = x := by
  show (if (true && decide (x % 18446744073709551616 ≥ 9223372036854775808)) = true then x % 18446744073709551616 - 18446744073709551616 else x % 18446744073709551616) = x
  split <;> rename_i h <;> simp at h <;> omega
end Go.Proofs.Am

set_option linter.unusedVariables false
set_option linter.unusedSimpArgs false
namespace Go.Proofs.Am
open Go Go.RowKit

/-- An element that is data, cell by cell. -/
def flatD : AV → Option DV
  | .d x => some x
  | .agg cs => (allD cs).map .agg
  | _ => none

theorem flatD_cells {e : AV} {x : DV} (h : flatD e = some x) : e.cells = x.cells.map .d := by
  cases e with
  | d y => simp only [flatD, Option.some.injEq] at h; subst h; exact dcells _
  | agg cs =>
    simp only [flatD, Option.map_eq_some_iff] at h
    obtain ⟨ds, h1, rfl⟩ := h
    rw [allD_map h1]; rfl
  | _ => simp [flatD] at h

/-- One local block. -/
def oneB (k : LB) : Nat → Option LB := fun b => if b = 0 then some k else none

theorem oneB_some {k k' : LB} {b : Nat} (h : oneB k b = some k') : b = 0 ∧ k' = k := by
  unfold oneB at h
  split at h
  · exact ⟨‹_›, (Option.some.inj h).symm⟩
  · cases h

section
variable {P : Program} {gs : List Nat} {A A' : Nat → Prop} {ρ ρ' : Nat → Option BR} {w w' : World}

theorem ARep.rho {v : DV} {x : Value} (h : ARep w A ρ (.d v) x) : ARep w A ρ' (.d v) x := by
  cases h with
  | d _ _ h => exact .d _ _ h

theorem BRep.flat {k : LB} {r : BR} {e : AV} {x : DV} (h : BRep w A ρ k r) (hk : k.els = [e]) (hx : flatD e = some x) : BRep w A ρ' { k with els := [.d x] } r := by
  obtain ⟨⟨cur, fr, h1, h2, h3, h4, h5⟩, e1, e2, e3, e4⟩ := h
  have hc := flatD_cells hx
  have hc0 : ∀ j, j < 1 → (k.els.getD j .undef).cells = ((AV.d x)).cells := fun j hj => by
    have : j = 0 := by omega
    subst this
    rw [hk, dcells]; simpa using hc
  have hlen : k.els.length = 1 := by rw [hk]; rfl
  refine ⟨⟨cur, fr, h1, h2, h3, h4, fun j m hj hm => ?_⟩, e1, by simpa [hlen] using e2, e3, fun j hj => ?_⟩
  · have hj : j < 1 := hj
    obtain ⟨v, q1, q2, q3⟩ := h5 j m (by omega) hm
    refine ⟨v, q1, q2, ?_⟩
    have hj0 : j = 0 := by omega
    rw [hc0 j hj] at q3
    subst hj0
    have hs : m < x.cells.length := by
      have := e4 0 (by omega)
      rw [hc0 0 (by omega), dcells, List.length_map] at this
      have hm : m < k.es := hm
      omega
    show ARep w A ρ' (((AV.d x)).cells.getD m .undef) v
    rw [dcells, zG7 _ _ hs] at q3 ⊢
    exact q3.rho
  · have hj : j < 1 := hj
    have hj0 : j = 0 := by omega
    subst hj0
    have := e4 0 (by omega)
    rw [hc0 0 (by omega)] at this
    exact this

/-- THE CONTRACT of a call with a pointer to a block of data, and data. -/
def PtrCall (P : Program) (gs : List Nat) (f : FuncId) (es ty : Nat) (x : DV) (args : List DV) (x' d : DV) : Prop :=
  enterOk P f = true ∧ ∀ (w : World) (A : Nat → Prop) (ρ : Nat → Option BR) (vals : Array Value), HS (ctx0 w A ρ (oneB ⟨[.d x], es, ty, true, true⟩) 0 0) A ρ (oneB ⟨[.d x], es, ty, true, true⟩) w → GInt gs w →
    (∀ g ∈ gs, ¬ Own ρ (oneB ⟨[.d x], es, ty, true, true⟩) g) → Free ρ 1 → ARepL w A ρ (.loc 0 es 0 0 :: args.map .d) vals →
    Calls P f vals w fun e w' => ∃ v, e = .returned v ∧ ∃ A' ρ', HS (ctx0 w A ρ (oneB ⟨[.d x], es, ty, true, true⟩) 0 0) A' ρ' (oneB ⟨[.d x'], es, ty, true, true⟩) w' ∧ DRep w' A' d v ∧ ρ' 0 = ρ 0

/-- Such a call among the caller's blocks. -/
theorem hcall_of_ptr {f : FuncId} {es ty : Nat} {x : DV} {args : List DV} {x' d : DV} (h : PtrCall P gs f es ty x args x' d) {lh : Nat → Option LB} {b nid : Nat} {e : AV} (hb : lh b = some ⟨[e], es, ty, true, true⟩) (he : flatD e = some x) :
    HCall P gs f (.loc b es 0 0 :: args.map .d) lh nid ⟨.d d, upd lh b (some ⟨[.d x'], es, ty, true, true⟩), nid⟩ := by
  refine ⟨h.1, fun w A ρ vals hS hG hO hF hr => ?_⟩
  have h0 := hr.at_ 0 (by simp)
  have h0 : ARep w A ρ (.loc b es 0 0) (vals.getD 0 undef) := h0
  generalize hv0 : vals.getD 0 undef = v0 at h0
  cases h0 with
  | loc _ _ _ _ r hρ hes =>
  let ρc : Nat → Option BR := fun i => if i = 0 then some r else none
  have hρc : ∀ i q, ρc i = some q → i = 0 ∧ q = r := fun i q hq => by
    simp only [ρc] at hq
    split at hq
    · exact ⟨‹_›, (Option.some.inj hq).symm⟩
    · cases hq
  have hown0 := hS.own b r _ hρ hb rfl
  have hmap : ∀ g, Own ρc (oneB ⟨[.d x], es, ty, true, true⟩) g → Own ρ lh g := fun g ⟨i, q, k, h1, h2, h3, h4⟩ => by
    obtain ⟨rfl, rfl⟩ := hρc i q h1
    exact ⟨b, q, _, hρ, hb, rfl, h4⟩
  have hg1 : ∀ g, Own ρc (oneB ⟨[.d x], es, ty, true, true⟩) g → g = r.g := fun g ⟨i, q, k, h1, h2, h3, h4⟩ => by
    obtain ⟨rfl, rfl⟩ := hρc i q h1
    exact h4.symm
  have hc : HS (ctx0 w A ρc (oneB ⟨[.d x], es, ty, true, true⟩) 0 0) A ρc (oneB ⟨[.d x], es, ty, true, true⟩) w :=
    { blk := fun i q k h1 h2 => by
        obtain ⟨rfl, rfl⟩ := hρc i q h1
        obtain ⟨_, rfl⟩ := oneB_some h2
        exact (hS.blk b q _ hρ hb).flat rfl he
      inj := fun i q i' q' h1 h2 _ _ _ => by rw [(hρc i q h1).1, (hρc i' q' h2).1]
      own := fun i q k h1 h2 h3 => by
        obtain ⟨rfl, rfl⟩ := hρc i q h1
        exact ⟨hown0.1, .inl ⟨0, q, _, rfl, rfl, rfl, rfl⟩⟩
      dead := fun i q k h1 h2 h3 => by
        obtain ⟨_, rfl⟩ := oneB_some h2
        cases h3
      lt := hS.lt
      up := fun g h => h
      new := fun g h => .inl h
      os := rfl
      tape := rfl
      output := rfl
      hsize := Nat.le_refl _
      frame := fun g _ _ => rfl }
  have hargs : ARepL w A ρc (.loc 0 es 0 0 :: args.map .d) vals := ⟨by have := hr.size; simpa using this, fun i hi => by
    cases i with
    | zero =>
      rw [hv0]
      exact ARep.loc 0 es 0 0 r rfl hes
    | succ i =>
      have := hr.at_ (i + 1) (by simpa using hi)
      have hi' : i < args.length := by simpa using hi
      have e1 : (AV.loc 0 es 0 0 :: args.map AV.d).getD (i + 1) .undef = .d (args.getD i .inil) := by
        rw [List.getD_cons_succ, zG7 _ _ hi']
      have e2 : (AV.loc b es 0 0 :: args.map AV.d).getD (i + 1) .undef = .d (args.getD i .inil) := by
        rw [List.getD_cons_succ, zG7 _ _ hi']
      rw [e1]; rw [e2] at this
      exact this.rho⟩
  refine (h.2 w A ρc vals hc hG (fun g hg ho => hO g hg (hmap g ho)) (fun i hi => by simp only [ρc]; rw [if_neg (by omega)]) hargs).mono fun e' w' hq => ?_
  obtain ⟨v, rfl, A', ρ', hS', hd, hρ'⟩ := hq
  have hρ' : ρ' 0 = some r := hρ'
  have kp := hc.keeps hS'
  refine ⟨v, rfl, A', ρ, ?_, .d _ _ hd, Names.refl _ _⟩
  have hlt : ∀ b' r' k', ρ b' = some r' → lh b' = some k' → r'.g < w.heap.size := fun b' r' k' h1 h2 => by
    obtain ⟨cur, fr, h3, _⟩ := (hS.blk b' r' k' h1 h2).ex
    exact (Array.getElem?_eq_some_iff.1 h3).1
  have hne : ∀ b' r' k', ρ b' = some r' → lh b' = some k' → b' ≠ b → r'.g ≠ r.g := fun b' r' k' h1 h2 h3 h4 =>
    h3 (hS.inj b' r' b r h1 hρ (by rw [h2]; rfl) (by rw [hb]; rfl) h4)
  exact
    { blk := fun b' r' k' h1 h2 => by
        by_cases hbb : b' = b
        · subst hbb
          simp only [upd_same, Option.some.injEq] at h2
          subst h2
          rw [hρ] at h1; cases h1
          exact (hS'.blk 0 r _ hρ' rfl).flat (x := x') rfl rfl
        · simp only [zI1 _ _ _ _ hbb] at h2
          exact (hS.blk b' r' k' h1 h2).mono kp (fun _ _ h => h) (hS'.frame r'.g (hlt b' r' k' h1 h2) (fun ho => hne b' r' k' h1 h2 hbb (hg1 _ ho)))
      inj := fun b1 r1 b2 r2 h1 h2 s1 s2 hg => by
        refine hS.inj b1 r1 b2 r2 h1 h2 ?_ ?_ hg
        · by_cases hbb : b1 = b
          · subst hbb; rw [hb]; rfl
          · simp only [zI1 _ _ _ _ hbb] at s1; exact s1
        · by_cases hbb : b2 = b
          · subst hbb; rw [hb]; rfl
          · simp only [zI1 _ _ _ _ hbb] at s2; exact s2
      own := fun b' r' k' h1 h2 h3 => by
        by_cases hbb : b' = b
        · subst hbb
          rw [hρ] at h1; cases h1
          obtain ⟨q1, q2⟩ := hS'.own 0 r _ hρ' rfl rfl
          exact ⟨q1, q2.imp (hmap _) id⟩
        · simp only [zI1 _ _ _ _ hbb] at h2
          obtain ⟨q1, q2⟩ := hS.own b' r' k' h1 h2 h3
          refine ⟨fun ha => ?_, q2⟩
          rcases hS'.new _ ha with h | h | h
          · exact q1 h
          · exact hne b' r' k' h1 h2 hbb (hg1 _ h)
          · have h : w.heap.size ≤ r'.g := h
            have := hlt b' r' k' h1 h2
            omega
      dead := fun b' r' k' h1 h2 h3 => by
        by_cases hbb : b' = b
        · subst hbb
          simp only [upd_same, Option.some.injEq] at h2
          subst h2; cases h3
        · simp only [zI1 _ _ _ _ hbb] at h2
          exact hS'.up _ (hS.dead b' r' k' h1 h2 h3)
      lt := hS'.lt
      up := hS'.up
      new := fun g hg => (hS'.new g hg).imp id (fun h => h.imp (hmap _) id)
      os := hS'.os
      tape := hS'.tape
      output := hS'.output
      hsize := hS'.hsize
      frame := fun g hg hn => hS'.frame g hg (fun ho => hn (hmap _ ho)) }

/-- What the end of such a call says. -/
def PtrK (es ty : Nat) (x' d : DV) (v : AV) (σ : St) : Prop :=
  frz σ.lh 8 v = some d ∧ reach σ.lh 8 v = [] ∧ ∃ e, σ.lh 0 = some ⟨[e], es, ty, true, true⟩ ∧ flatD e = some x'

theorem ptr_of_body (hm : P.follows .mixedOrders = true) {f : FuncId} {code : Code} {rs : Array ResultVar} {n : Nat} (hf : FnIs P f code rs n) {es ty : Nat} {x x' d : DV} {args : List DV} (hn : args.length + 1 ≤ n)
    (h : BodyW (calls P gs) P code rs.toList (PtrK es ty x' d) (fun _ _ => False) ⟨envA (.loc 0 es 0 0 :: args.map .d), oneB ⟨[.d x], es, ty, true, true⟩, 1, []⟩) : PtrCall P gs f es ty x args x' d := by
  refine ⟨hf.enter, fun w A ρ vals hS hG hO hF hr => (body_sound hm hf (by simpa using hn) h hS hG hO hF hr).mono fun e w' hL => ?_⟩
  cases e with
  | returned y =>
    obtain ⟨v, σ, A', ρ', a, ⟨τ, ⟨h1, h1', e, h2, h3⟩, rfl⟩, h4, h5, h6⟩ := hL
    have hn0 : ρ' 0 = ρ 0 := (h6.names hF).2 0 (by omega)
    refine ⟨y, rfl, A', ρ', ?_, frz_sound (fun g h => h) (fun b r k q1 q2 => h5.blk b r k q1 q2) 8 v d y h1 (fun b hb => by have hb : b ∈ reach τ.lh 8 v := hb; rw [h1'] at hb; cases hb) h4, hn0⟩
    have h2 : ({ τ with dfs := [] } : St).lh 0 = some ⟨[e], es, ty, true, true⟩ := h2
    exact
      { blk := fun i q k q1 q2 => by
          obtain ⟨rfl, rfl⟩ := oneB_some q2
          exact (h5.blk 0 q _ q1 h2).flat rfl h3
        inj := fun i q i' q' _ _ q1 q2 _ => by
          obtain ⟨k1, e1⟩ := Option.isSome_iff_exists.1 q1
          obtain ⟨k2, e2⟩ := Option.isSome_iff_exists.1 q2
          rw [(oneB_some e1).1, (oneB_some e2).1]
        own := fun i q k q1 q2 _ => by
          obtain ⟨rfl, rfl⟩ := oneB_some q2
          exact h5.own 0 q _ q1 h2 rfl
        dead := fun i q k q1 q2 q3 => by
          obtain ⟨rfl, rfl⟩ := oneB_some q2
          cases q3
        lt := h5.lt
        up := h5.up
        new := h5.new
        os := h5.os
        tape := h5.tape
        output := h5.output
        hsize := h5.hsize
        frame := h5.frame }
  | panicked ch => obtain ⟨d, x, σ, A', ρ', a, _, ⟨τ, hf, _⟩, _⟩ := hL; exact hf.elim
  | outgrown => exact hL.elim
end

/-! ## Trees -/

section
variable {P : Program} {gs : List Nat} {T : Nat → Option TRow} {F : SF} {H : SH} {A : Aim}

def endB (es ty : Nat) (d : DV) : List Nat → Option LB → Tree
  | [], some ⟨[e], es', ty', true, true⟩ => if (Nat.beq es' es && Nat.beq ty' ty) = true then (match flatD e with | some x => .fin (.ret [.d d, .d x] [] 0) | none => .bad) else .bad
  | _, _ => .bad

/-- The end of a call with a pointer: the result and the block. -/
def kEndP (I : SI) (T : Nat → Option TRow) (es ty : Nat) (rs : List ResultVar) (e : Exit) (σ : SS) : Tree :=
  match e with
  | .normal | .ret => resK I T σ rs fun vs => match frz σ.lh.get 8 (tupA vs) with | some d => endB es ty d (reach σ.lh.get 8 (tupA vs)) (σ.lh.get 0) | none => .bad
  | _ => .bad

def aimP (P : Program) (gs : List Nat) (rs : List ResultVar) (es ty : Nat) (x' d : DV) : Aim := {
  Qe e σ := bodyQ (calls P gs) P rs (PtrK es ty x' d) (fun _ _ => False) e σ
  Q vs lh nid := vs = [.d d, .d x']
  Bk _ _ _ := False
  QP d' σ' := LeaveW (calls P gs) P rs (PtrK es ty x' d) (fun _ _ => False) σ'.dfs (some d') σ' }

theorem aimP_q {rs : List ResultVar} {es ty : Nat} {x' d : DV} {vs : List AV} {lh : LM} {nid : Nat} : (aimP P gs rs es ty x' d).Q vs lh nid = (vs = [.d d, .d x']) := rfl

theorem endB_ok {es ty : Nat} {d : DV} {l : List Nat} {o : Option LB} (h : Sat P gs A (endB es ty d l o)) : l = [] ∧ ∃ e x, o = some ⟨[e], es, ty, true, true⟩ ∧ flatD e = some x ∧ A.Q [.d d, .d x] [] 0 := by
  unfold endB at h
  split at h
  · rename_i e es' ty'
    split at h
    · rename_i hc
      rw [Bool.and_eq_true, Nat.beq_eq, Nat.beq_eq] at hc
      obtain ⟨rfl, rfl⟩ := hc
      split at h
      · rename_i x hx; exact ⟨rfl, e, x, rfl, hx, h⟩
      · exact h.elim
    · exact h.elim
  · exact h.elim

theorem endP (hT : TabOk P T) {rs : List ResultVar} {es ty : Nat} {x' d : DV} : EndOk P gs (aimP P gs rs es ty x' d) (kEndP std T es ty rs) := by
  intro Bk e s hs
  have main : Sat P gs { aimP P gs rs es ty x' d with Bk := Bk } (resK std T s rs fun vs => match frz s.lh.get 8 (tupA vs) with | some d => endB es ty d (reach s.lh.get 8 (tupA vs)) (s.lh.get 0) | none => .bad) →
      LeaveW (calls P gs) P rs (PtrK es ty x' d) (fun _ _ => False) s.st.dfs none s.st := by
    intro hs
    obtain ⟨vs, h1, h2⟩ := resK_ok hT hs
    split at h2
    · rename_i d' hz
      obtain ⟨h3, e, x, h4, h5, h6⟩ := endB_ok h2
      have h6 : [AV.d d', AV.d x] = [AV.d d, AV.d x'] := h6
      simp only [List.cons.injEq, AV.d.injEq, and_true] at h6
      obtain ⟨rfl, rfl⟩ := h6
      refine ⟨tupA vs, ?_, hz, h3, e, h4, h5⟩
      simp only [resA, h1, Option.map_some]; rfl
    · exact h2.elim
  cases e with
  | normal => exact main hs
  | ret => exact main hs
  | _ => exact hs.elim

/-- THE CONTRACT OUT OF THE TREE, with a pointer. -/
theorem ptr_of_tree (hm : P.follows .mixedOrders = true) {f : FuncId} {code : Code} {rs : Array ResultVar} {n : Nat} (hf : FnIs P f code rs n) {es ty : Nat} {x x' d : DV} {args : List DV} (hn : args.length + 1 ≤ n) (hl : args.length + 1 < 5461) (hF : SFok P gs F H) (hT : TabOk P T) {lv : Nat → List Nat × List Nat}
    (h : ∀ (I : SI) (F' : SF), I = std → F' = F → Sat P gs (aimP P gs rs.toList es ty x' d) (execT I F' H T lv code (ssOf (.loc 0 es 0 0 :: args.map .d) [(0, some ⟨[.d x], es, ty, true, true⟩)] 1) [] (kEndP I T es ty rs.toList))) : PtrCall P gs f es ty x args x' d := by
  refine ptr_of_body hm hf hn ?_
  have hst : (⟨envA (.loc 0 es 0 0 :: args.map .d), oneB ⟨[.d x], es, ty, true, true⟩, 1, []⟩ : St) = (ssOf (.loc 0 es 0 0 :: args.map .d) [(0, some ⟨[.d x], es, ty, true, true⟩)] 1).st := by
    rw [ssOf_st (by simpa using hl)]
    have : (LM.get [(0, some (⟨[.d x], es, ty, true, true⟩ : LB))]) = oneB ⟨[.d x], es, ty, true, true⟩ := by
      funext b
      simp only [LM.get, oneB]
      by_cases hb : b = 0
      · subst hb; rfl
      · rw [if_neg hb, if_neg (fun h => hb h.symm)]
    rw [this]
  rw [hst]
  exact execT_ok hF hT code _ [] _ (fun e s hs => endP hT (aimP P gs rs.toList es ty x' d).Bk e s hs) (h std F rfl rfl)

/-- A function with a pointer that is known by its results. -/
structure HEnt where
  f : Nat
  es : Nat
  ty : Nat
  ok : DV → List DV → Bool
  res : DV → List DV → DV
  out : DV → List DV → DV

def HEntOk (P : Program) (gs : List Nat) (e : HEnt) : Prop := ∀ x ds, e.ok x ds = true → PtrCall P gs e.f e.es e.ty x ds (e.out x ds) (e.res x ds)

/-- What calls with a pointer do, as names. -/
structure SG where
  ok : FuncId → DV → List DV → Bool
  res : FuncId → DV → List DV → DV
  out : FuncId → DV → List DV → DV

def hOk : List HEnt → Nat → DV → List DV → Bool
  | [], _, _, _ => false
  | e :: r, f, x, ds => if e.f = f then e.ok x ds else hOk r f x ds
def hRes : List HEnt → Nat → DV → List DV → DV
  | [], _, _, _ => .inil
  | e :: r, f, x, ds => if e.f = f then e.res x ds else hRes r f x ds
def hOut : List HEnt → Nat → DV → List DV → DV
  | [], _, _, _ => .inil
  | e :: r, f, x, ds => if e.f = f then e.out x ds else hOut r f x ds
def sgOf (l : List HEnt) : SG := ⟨hOk l, hRes l, hOut l⟩

def hpB (G : SG) (es ty : Nat) (f : FuncId) (lh : LM) (nid b : Nat) : Option LB → Option (List DV) → Option (Bool × RS)
  | some ⟨[e], es2, ty2, true, true⟩, some ds => match flatD e with
    | some x => if (Nat.beq es2 es && Nat.beq ty2 ty) = true then some (G.ok f x ds, ⟨.d (G.res f x ds), lh.set b (some ⟨[.d (G.out f x ds)], es, ty, true, true⟩), nid⟩) else none
    | none => none
  | _, _ => none

def hpT (G : SG) (es ty : Nat) (f : FuncId) (lh : LM) (nid : Nat) : List AV → Option (Bool × RS)
  | .loc b es' 0 0 :: rest => if Nat.beq es' es = true then hpB G es ty f lh nid b (lh.get b) (allD rest) else none
  | _ => none

def shP : List (Nat × Nat × Nat) → SG → SH
  | [], _, _ => none
  | (g, es, ty) :: r, G, f => if Nat.beq f g = true then some (hpT G es ty f) else shP r G f

inductive AllH (P : Program) (gs : List Nat) : List (Nat × Nat × Nat) → List HEnt → Prop where
  | nil : AllH P gs [] []
  | cons {e : HEnt} {s : List (Nat × Nat × Nat)} {l : List HEnt} (h : HEntOk P gs e) (t : AllH P gs s l) : AllH P gs ((e.f, e.es, e.ty) :: s) (e :: l)

theorem allH_look {s : List (Nat × Nat × Nat)} {l : List HEnt} (h : AllH P gs s l) (G : SG) : ∀ f g, shP s G f = some g → ∃ e : HEnt, HEntOk P gs e ∧ e.f = f ∧ g = hpT G e.es e.ty f ∧ ∀ x ds, hOk l f x ds = e.ok x ds ∧ hRes l f x ds = e.res x ds ∧ hOut l f x ds = e.out x ds := by
  induction h with
  | nil => intro f g h; cases h
  | cons h t ih =>
    rename_i e s l
    intro f g hk
    simp only [shP] at hk
    split at hk
    · rename_i hf
      have hf := Nat.eq_of_beq_eq_true hf
      subst hf
      exact ⟨e, h, rfl, (Option.some.inj hk).symm, fun x ds => by simp [hOk, hRes, hOut]⟩
    · rename_i hf
      have hf : ¬ e.f = f := fun hc => hf (by rw [hc]; exact Nat.beq_refl f)
      obtain ⟨e', q1, q2, q3, q4⟩ := ih f g hk
      exact ⟨e', q1, q2, q3, fun x ds => by simp only [hOk, hRes, hOut, if_neg hf]; exact q4 x ds⟩

theorem sfOkH {l : List Ent} {s : List (Nat × Nat × Nat)} {hs : List HEnt} (h : AllOk P gs l) (hh : AllH P gs s hs) : SFok P gs (sfOf l) (shP s (sgOf hs)) :=
  ⟨fun _ _ h => h, rowF_ok, lookOk_ok h, (fun _ _ h => nomatch h), (fun _ _ h => nomatch h), fun f g lh nid args r hf hg => by
    obtain ⟨e, q1, rfl, rfl, q4⟩ := allH_look hh (sgOf hs) f g hf
    unfold hpT at hg
    split at hg
    · rename_i b es' rest
      split at hg
      · rename_i hes
        have hes := Nat.eq_of_beq_eq_true hes
        subst hes
        unfold hpB at hg
        split at hg
        · rename_i e1 es2 ty2 ds hb hd
          split at hg
          · rename_i x hx
            split at hg
            · rename_i hc
              rw [Bool.and_eq_true, Nat.beq_eq, Nat.beq_eq] at hc
              obtain ⟨rfl, rfl⟩ := hc
              simp only [Option.some.injEq, Prod.mk.injEq] at hg
              obtain ⟨hok, rfl⟩ := hg
              have hok : hOk hs e.f x ds = true := hok
              obtain ⟨a1, a2, a3⟩ := q4 x ds
              rw [a1] at hok
              have hp := q1 x ds hok
              have hm := allD_map hd
              subst hm
              have := hcall_of_ptr hp (nid := nid) hb hx
              have hl : (lh.set b (some ⟨[.d ((sgOf hs).out e.f x ds)], e.es, e.ty, true, true⟩)).get = upd lh.get b (some ⟨[.d (e.out x ds)], e.es, e.ty, true, true⟩) := by
                funext j; rw [LM.get_set]; simp only [sgOf, a3]; rfl
              simp only [hl]
              simp only [sgOf, a2]
              exact .inl this
            · cases hg
          · cases hg
        · cases hg
      · cases hg
    · cases hg⟩
end
end Go.Proofs.Am

set_option linter.unusedVariables false
namespace Go.Proofs.Am
open Go Go.RowKit
theorem smp : type_of% (And.intro @rowF_map (And.intro @rowOkF_map (And.intro @ib_add (And.intro @ib_sub (And.intro @ib_mul (And.intro @ib_eql (And.intro @ib_neq (And.intro @ib_lss (And.intro @ib_leq (And.intro @ib_gtr (And.intro @ib_geq (And.intro @sb_eql (And.intro @sb_neq (And.intro @sb_lss (And.intro @sb_gtr (And.intro @eqI_eq (And.intro @ltI_eq (And.intro @leI_eq (And.intro @eqB_eq (And.intro @isIK_int (And.intro @isIK_ite (And.intro @isStrD_ite (And.intro @asInt_ite (And.intro @sat_req (And.intro @sat_ite (And.intro @sat_ret (And.intro @sat_back (And.intro @aimF_q (And.intro @aimR_q (And.intro @into_q (And.intro @zJ1 (And.intro @binV_add (And.intro @binV_sub (And.intro @binV_mul (And.intro @binV_eql (And.intro @binV_neq (And.intro @binV_lss (And.intro @binV_leq (And.intro @binV_gtr (And.intro @binV_geq (And.intro @binV_seql (And.intro @binV_sneq (And.intro @bbinV_eql (And.intro @bbinV_neq (And.intro @unV_not (And.intro @unV_neg (And.intro @convV_int (And.intro @asBool_ite (And.intro @isBoolD_ite (And.intro @isBUD_ite (And.intro @grdD_ite (And.intro @grdD_bool (And.intro @grdD_tup (And.intro @isBUD_tup (And.intro @isBUD_bool (And.intro @isBoolD_tup (And.intro @isBoolD_bool (And.intro @asBool_tup (And.intro @zH2 (And.intro @isIntD_int (And.intro @isStrD_str (And.intro @asInt_int (And.intro @asStr_str (And.intro @lstD_sim (And.intro @lstD_snil (And.intro @isSlD_sim (And.intro @isSlD_snil (And.intro @isSnil_sim (And.intro @isSnil_snil (And.intro @Option.isSome_some.{0} (And.intro @Option.getD_some.{0} (And.intro @true_and (And.intro @and_true (And.intro @pick_or (And.intro @pick_and (And.intro @pick_or' (And.intro @pick_and' (And.intro @Bool.not_not (And.intro @ite_bool (And.intro @dlV_cell (And.intro @zI5 (And.intro @cells_str (And.intro @cells_int (And.intro @cells_bool (And.intro @cells_sim (And.intro @cells_snil (And.intro @List.getD_cons_zero.{0} (And.intro @List.getD_cons_succ.{0} (And.intro @beq_tt (And.intro @beq_ft (And.intro @ite_same (And.intro @imp_true (And.intro @aimP_q (And.intro @one_int (And.intro @zI9 (And.intro @one_str (And.intro @one_sim (And.intro @one_snil (And.intro @one_fn (And.intro @Int.toNat_natCast (And.intro @Nat.zero_add (And.intro @Int.toNat_zero (And.intro @natCast_fold (And.intro @Int.ofNat_eq_natCast (And.intro @zJ0 (And.intro @beq_self_eq_true.{0} (And.intro @zH5 (And.intro @bel_d (And.intro @bel7_d (And.intro @bel_aggd (And.intro @List.all_cons.{0} (And.intro @List.all_nil.{0} (And.intro @Bool.and_self (And.intro @Bool.and_true (@Bool.true_and))))))))))))))))))))))))))))))))))))))))))))))))))))))))))))))))))))))))))))))))))))))))))))))))))))))))))))))))))) :=
  And.intro @rowF_map (And.intro @rowOkF_map (And.intro @ib_add (And.intro @ib_sub (And.intro @ib_mul (And.intro @ib_eql (And.intro @ib_neq (And.intro @ib_lss (And.intro @ib_leq (And.intro @ib_gtr (And.intro @ib_geq (And.intro @sb_eql (And.intro @sb_neq (And.intro @sb_lss (And.intro @sb_gtr (And.intro @eqI_eq (And.intro @ltI_eq (And.intro @leI_eq (And.intro @eqB_eq (And.intro @isIK_int (And.intro @isIK_ite (And.intro @isStrD_ite (And.intro @asInt_ite (And.intro @sat_req (And.intro @sat_ite (And.intro @sat_ret (And.intro @sat_back (And.intro @aimF_q (And.intro @aimR_q (And.intro @into_q (And.intro @zJ1 (And.intro @binV_add (And.intro @binV_sub (And.intro @binV_mul (And.intro @binV_eql (And.intro @binV_neq (And.intro @binV_lss (And.intro @binV_leq (And.intro @binV_gtr (And.intro @binV_geq (And.intro @binV_seql (And.intro @binV_sneq (And.intro @bbinV_eql (And.intro @bbinV_neq (And.intro @unV_not (And.intro @unV_neg (And.intro @convV_int (And.intro @asBool_ite (And.intro @isBoolD_ite (And.intro @isBUD_ite (And.intro @grdD_ite (And.intro @grdD_bool (And.intro @grdD_tup (And.intro @isBUD_tup (And.intro @isBUD_bool (And.intro @isBoolD_tup (And.intro @isBoolD_bool (And.intro @asBool_tup (And.intro @zH2 (And.intro @isIntD_int (And.intro @isStrD_str (And.intro @asInt_int (And.intro @asStr_str (And.intro @lstD_sim (And.intro @lstD_snil (And.intro @isSlD_sim (And.intro @isSlD_snil (And.intro @isSnil_sim (And.intro @isSnil_snil (And.intro @Option.isSome_some.{0} (And.intro @Option.getD_some.{0} (And.intro @true_and (And.intro @and_true (And.intro @pick_or (And.intro @pick_and (And.intro @pick_or' (And.intro @pick_and' (And.intro @Bool.not_not (And.intro @ite_bool (And.intro @dlV_cell (And.intro @zI5 (And.intro @cells_str (And.intro @cells_int (And.intro @cells_bool (And.intro @cells_sim (And.intro @cells_snil (And.intro @List.getD_cons_zero.{0} (And.intro @List.getD_cons_succ.{0} (And.intro @beq_tt (And.intro @beq_ft (And.intro @ite_same (And.intro @imp_true (And.intro @aimP_q (And.intro @one_int (And.intro @zI9 (And.intro @one_str (And.intro @one_sim (And.intro @one_snil (And.intro @one_fn (And.intro @Int.toNat_natCast (And.intro @Nat.zero_add (And.intro @Int.toNat_zero (And.intro @natCast_fold (And.intro @Int.ofNat_eq_natCast (And.intro @zJ0 (And.intro @beq_self_eq_true.{0} (And.intro @zH5 (And.intro @bel_d (And.intro @bel7_d (And.intro @bel_aggd (And.intro @List.all_cons.{0} (And.intro @List.all_nil.{0} (And.intro @Bool.and_self (And.intro @Bool.and_true (@Bool.true_and))))))))))))))))))))))))))))))))))))))))))))))))))))))))))))))))))))))))))))))))))))))))))))))))))))))))))))))))))
end Go.Proofs.Am

set_option linter.unusedVariables false
set_option linter.unusedSimpArgs false
namespace Go.Proofs.Am
open Go Go.RowKit

/-- What a call comes to. -/
inductive Oc where
  | ok (d : DV)
  | pan (d : DV)

def Oc.isOk : Oc → Bool
  | .ok _ => true
  | .pan _ => false
def Oc.isPan : Oc → Bool
  | .ok _ => false
  | .pan _ => true
def Oc.val : Oc → DV
  | .ok d => d
  | .pan d => d
def OcCall (P : Program) (gs : List Nat) (f : FuncId) (args : List DV) : Oc → Prop
  | .ok d => PureCall P gs f args (dRet d)
  | .pan d => PanicCall P gs f args d

section
variable {P : Program} {gs : List Nat} {T : Nat → Option TRow} {F : SF} {H : SH} {A : Aim}

def aimO (P : Program) (gs : List Nat) (rs : List ResultVar) (o : Oc) : Aim := {
  Qe e σ := bodyQ (calls P gs) P rs (fun v σ => ∃ d, o = .ok d ∧ RetOk σ v (dRet d)) (fun d _ => o = .pan d) e σ
  Q vs lh nid := ∃ d, o = .ok d ∧ vs = [.d d]
  Bk _ _ _ := False
  QP d' σ' := LeaveW (calls P gs) P rs (fun v σ => ∃ d, o = .ok d ∧ RetOk σ v (dRet d)) (fun d _ => o = .pan d) σ'.dfs (some d') σ' }

/-- The same, what is handed back being frozen outside of the tree. -/
def aimOR (P : Program) (gs : List Nat) (rs : List ResultVar) (o : Oc) : Aim :=
  { aimO P gs rs o with Q := fun vs lh nid => ∃ d, o = .ok d ∧ frz lh.get 8 (tupA vs) = some d }

theorem aimO_q {rs : List ResultVar} {o : Oc} {vs : List AV} {lh : LM} {nid : Nat} : (aimO P gs rs o).Q vs lh nid = ∃ d, o = .ok d ∧ vs = [.d d] := rfl
theorem aimOR_q {rs : List ResultVar} {o : Oc} {vs : List AV} {lh : LM} {nid : Nat} : (aimOR P gs rs o).Q vs lh nid = ∃ d, o = .ok d ∧ frz lh.get 8 (tupA vs) = some d := rfl
theorem sat_pan {rs : List ResultVar} {o : Oc} {d : DV} : Sat P gs (aimO P gs rs o) (.pan d) = (o = .pan d) := by
  apply propext
  constructor
  · intro h
    exact h ⟨fun _ => .undef, fun _ => none, 0, []⟩ rfl
  · intro h σ hσ
    show LeaveW (calls P gs) P rs _ _ σ.dfs (some d) σ
    rw [hσ]
    exact h
theorem sat_panR {rs : List ResultVar} {o : Oc} {d : DV} : Sat P gs (aimOR P gs rs o) (.pan d) = (o = .pan d) := sat_pan (P := P) (gs := gs) (rs := rs)
theorem sat_pan_into {ι : Type} {D : Nat} {V : ι → List AV} {B : ι → LM} {μ : ι → Nat} {i : ι} {d : DV} : Sat P gs (A.into D V B μ i) (.pan d) = Sat P gs A (.pan d) := rfl
theorem sat_panF {rs : List ResultVar} {x d : DV} : Sat P gs (aimF P gs rs x) (.pan d) = False := by
  apply propext
  constructor
  · intro h
    exact h ⟨fun _ => .undef, fun _ => none, 0, []⟩ rfl
  · intro h; exact h.elim

theorem endO (hT : TabOk P T) {rs : List ResultVar} {o : Oc} : EndOk P gs (aimO P gs rs o) (kEndF std T rs) := by
  intro Bk e s hs
  have main : Sat P gs { aimO P gs rs o with Bk := Bk } (resK std T s rs fun vs => match frz s.lh.get 8 (tupA vs) with | some d => .fin (.ret [.d d] [] 0) | none => .bad) →
      LeaveW (calls P gs) P rs (fun v σ => ∃ d, o = .ok d ∧ RetOk σ v (dRet d)) (fun d _ => o = .pan d) s.st.dfs none s.st := by
    intro hs
    obtain ⟨vs, h1, h2⟩ := resK_ok hT hs
    split at h2
    · rename_i d' hz
      obtain ⟨d, hd, h2⟩ : ∃ d, o = .ok d ∧ [AV.d d'] = [AV.d d] := h2
      simp only [List.cons.injEq, AV.d.injEq, and_true] at h2
      subst h2
      refine ⟨tupA vs, ?_, d', hd, .imm _ _ hz⟩
      simp only [resA, h1, Option.map_some]; rfl
    · exact h2.elim
  cases e with
  | normal => exact main hs
  | ret => exact main hs
  | _ => exact hs.elim

theorem endOR (hT : TabOk P T) {rs : List ResultVar} {o : Oc} : EndOk P gs (aimOR P gs rs o) (kEnd std T rs) := by
  intro Bk e s hs
  have main : Sat P gs { aimOR P gs rs o with Bk := Bk } (resK std T s rs fun vs => .fin (.ret vs s.lh s.nid)) →
      LeaveW (calls P gs) P rs (fun v σ => ∃ d, o = .ok d ∧ RetOk σ v (dRet d)) (fun d _ => o = .pan d) s.st.dfs none s.st := by
    intro hs
    obtain ⟨vs, h1, h2⟩ := resK_ok hT hs
    obtain ⟨d, hd, h2⟩ : ∃ d, o = .ok d ∧ frz s.lh.get 8 (tupA vs) = some d := h2
    refine ⟨tupA vs, ?_, d, hd, .imm _ _ h2⟩
    simp only [resA, h1, Option.map_some]; rfl
  cases e with
  | normal => exact main hs
  | ret => exact main hs
  | _ => exact hs.elim

theorem oc_of_body (hm : P.follows .mixedOrders = true) {f : FuncId} {code : Code} {rs : Array ResultVar} {n : Nat} (hf : FnIs P f code rs n) {args : List DV} (hn : args.length ≤ n) {o : Oc}
    (h : BodyW (calls P gs) P code rs.toList (fun v σ => ∃ d, o = .ok d ∧ RetOk σ v (dRet d)) (fun d _ => o = .pan d) (st0 args)) : OcCall P gs f args o := by
  cases o with
  | ok d =>
    refine zK7 hm hf hn ?_
    have e1 : (fun v σ => ∃ d', Oc.ok d = .ok d' ∧ RetOk σ v (dRet d')) = fun v σ => RetOk σ v (dRet d) := by
      funext v σ
      apply propext
      constructor
      · rintro ⟨d', h1, h2⟩; cases h1; exact h2
      · intro h; exact ⟨d, rfl, h⟩
    have e2 : (fun (d' : DV) (_ : St) => Oc.ok d = .pan d') = fun _ _ => False := by
      funext d' σ
      apply propext
      constructor
      · intro h; cases h
      · intro h; exact h.elim
    rw [e1, e2] at h
    exact h
  | pan d =>
    refine panic_of_body hm hf hn ?_
    have e1 : (fun v σ => ∃ d', Oc.pan d = .ok d' ∧ RetOk σ v (dRet d')) = fun _ _ => False := by
      funext v σ
      apply propext
      constructor
      · rintro ⟨d', h1, h2⟩; cases h1
      · intro h; exact h.elim
    have e2 : (fun (d' : DV) (_ : St) => Oc.pan d = .pan d') = fun d' _ => d' = d := by
      funext d' σ
      apply propext
      constructor
      · intro h; cases h; rfl
      · intro h; rw [h]
    rw [e1, e2] at h
    exact h

/-- THE CONTRACT OUT OF THE TREE: data, or what is given up with. -/
theorem oc_of_tree (hm : P.follows .mixedOrders = true) {f : FuncId} {code : Code} {rs : Array ResultVar} {n : Nat} (hf : FnIs P f code rs n) {args : List DV} (hn : args.length ≤ n) (hl : args.length < 5461) (hF : SFok P gs F H) (hT : TabOk P T) {lv : Nat → List Nat × List Nat} {o : Oc}
    (h : ∀ (I : SI) (F' : SF), I = std → F' = F → Sat P gs (aimO P gs rs.toList o) (execT I F' H T lv code (ssOf (args.map .d) [] 0) [] (kEndF I T rs.toList))) : OcCall P gs f args o := by
  refine oc_of_body hm hf hn ?_
  have hst : st0 args = (ssOf (args.map .d) [] 0).st := by rw [ssOf_st (by simpa using hl)]; rfl
  rw [hst]
  exact execT_ok hF hT code _ [] _ (fun e s hs => endO hT (aimO P gs rs.toList o).Bk e s hs) (h std F rfl rfl)
theorem oc_of_treeR (hm : P.follows .mixedOrders = true) {f : FuncId} {code : Code} {rs : Array ResultVar} {n : Nat} (hf : FnIs P f code rs n) {args : List DV} (hn : args.length ≤ n) (hl : args.length < 5461) (hF : SFok P gs F H) (hT : TabOk P T) {lv : Nat → List Nat × List Nat} {o : Oc}
    (h : ∀ (I : SI) (F' : SF), I = std → F' = F → Sat P gs (aimOR P gs rs.toList o) (execT I F' H T lv code (ssOf (args.map .d) [] 0) [] (kEnd I T rs.toList))) : OcCall P gs f args o := by
  refine oc_of_body hm hf hn ?_
  have hst : st0 args = (ssOf (args.map .d) [] 0).st := by rw [ssOf_st (by simpa using hl)]; rfl
  rw [hst]
  exact execT_ok hF hT code _ [] _ (fun e s hs => endOR hT (aimOR P gs rs.toList o).Bk e s hs) (h std F rfl rfl)
end
section
variable {P : Program} {gs : List Nat} {T : Nat → Option TRow} {F : SF} {H : SH} {A : Aim}
/-- A row of its own that is handed back. -/
def fRet (es ty : Nat) (l : List DV) : Ret := ⟨.slc 0 es 0 l.length, [⟨l.map .d, es, ty, true, true⟩]⟩
def aimFr (P : Program) (gs : List Nat) (rs : List ResultVar) (es ty : Nat) (l : List DV) : Aim := {
  Qe e σ := bodyQ (calls P gs) P rs (fun v σ => RetOk σ v (fRet es ty l)) (fun _ _ => False) e σ
  Q vs lh nid := ∃ b, vs = [.slc b es 0 l.length] ∧ lh.get b = some ⟨l.map .d, es, ty, true, true⟩
  Bk _ _ _ := False
  QP d' σ' := LeaveW (calls P gs) P rs (fun v σ => RetOk σ v (fRet es ty l)) (fun _ _ => False) σ'.dfs (some d') σ' }
theorem aimFr_q {rs : List ResultVar} {es ty : Nat} {l : List DV} {vs : List AV} {lh : LM} {nid : Nat} : (aimFr P gs rs es ty l).Q vs lh nid = ∃ b, vs = [.slc b es 0 l.length] ∧ lh.get b = some ⟨l.map .d, es, ty, true, true⟩ := rfl
theorem endFr (hT : TabOk P T) {rs : List ResultVar} {es ty : Nat} {l : List DV} : EndOk P gs (aimFr P gs rs es ty l) (kEnd std T rs) := by
  intro Bk e s hs
  have main : Sat P gs { aimFr P gs rs es ty l with Bk := Bk } (resK std T s rs fun vs => .fin (.ret vs s.lh s.nid)) → LeaveW (calls P gs) P rs (fun v σ => RetOk σ v (fRet es ty l)) (fun _ _ => False) s.st.dfs none s.st := by
    intro hs
    obtain ⟨vs, h1, h2⟩ := resK_ok hT hs
    obtain ⟨b, rfl, hb⟩ : ∃ b, vs = [.slc b es 0 l.length] ∧ s.lh.get b = some ⟨l.map .d, es, ty, true, true⟩ := h2
    refine ⟨.slc b es 0 l.length, ?_, ?_⟩
    · simp only [resA, h1, Option.map_some]
    · exact RetOk.fresh (σ := s.st) b es l.length ⟨l.map .d, es, ty, true, true⟩ l hb rfl (frz_map_d _ _ _) (fun hm => by
        obtain ⟨x, hx, hy⟩ := List.mem_flatMap.1 hm
        obtain ⟨d, _, rfl⟩ := List.mem_map.1 hx
        simp [reach] at hy)
  cases e with
  | normal => exact main hs
  | ret => exact main hs
  | _ => exact hs.elim
theorem fr_of_tree (hm : P.follows .mixedOrders = true) {f : FuncId} {code : Code} {rs : Array ResultVar} {n : Nat} (hf : FnIs P f code rs n) {args : List DV} (hn : args.length ≤ n) (hl : args.length < 5461) (hF : SFok P gs F H) (hT : TabOk P T) {lv : Nat → List Nat × List Nat} {es ty : Nat} {l : List DV}
    (h : ∀ (I : SI) (F' : SF), I = std → F' = F → Sat P gs (aimFr P gs rs.toList es ty l) (execT I F' H T lv code (ssOf (args.map .d) [] 0) [] (kEnd I T rs.toList))) : PureCall P gs f args (fRet es ty l) := by
  refine zK7 hm hf hn ?_
  have hst : st0 args = (ssOf (args.map .d) [] 0).st := by rw [ssOf_st (by simpa using hl)]; rfl
  rw [hst]
  exact execT_ok hF hT code _ [] _ (fun e s hs => endFr hT (aimFr P gs rs.toList es ty l).Bk e s hs) (h std F rfl rfl)
end
theorem dec_self {α : Sort _} (a : α) : @decide (a = a) (Classical.propDecidable _) = true := @decide_eq_true _ (Classical.propDecidable _) rfl
theorem oc_ok {P : Program} {gs : List Nat} {f : FuncId} {args : List DV} {o : Oc} (h : OcCall P gs f args o) (ho : o.isOk = true) : PureCall P gs f args (dRet o.val) := by
  cases o with
  | ok d => exact h
  | pan d => cases ho
theorem oc_pan {P : Program} {gs : List Nat} {f : FuncId} {args : List DV} {o : Oc} (h : OcCall P gs f args o) (ho : o.isPan = true) : PanicCall P gs f args o.val := by
  cases o with
  | ok d => cases ho
  | pan d => exact h
theorem smo : type_of% (And.intro @aimO_q (And.intro @aimOR_q (And.intro @sat_pan (And.intro @sat_panR (And.intro @sat_pan_into (And.intro @dec_self.{1} (And.intro @sat_panF @aimFr_q))))))) :=
  And.intro @aimO_q (And.intro @aimOR_q (And.intro @sat_pan (And.intro @sat_panR (And.intro @sat_pan_into (And.intro @dec_self.{1} (And.intro @sat_panF @aimFr_q))))))
end Go.Proofs.Am

set_option linter.unusedVariables false
set_option linter.unusedSimpArgs false
set_option maxRecDepth 100000
namespace Go.Proofs.Sx
open Go Go.Proofs Go.Proofs.Am 
variable {gs : List Nat}

def lv0 : Nat → List Nat × List Nat := fun _ => ([], [])
theorem wrap_pred {n : Nat} (h : 1 ≤ n) (h2 : n ≤ 1152921504606846976) : IntKind.i64.wrap ((n : Int) - 1) = ((n - 1 : Nat) : Int) := by rw [zJ4 (by omega) (by omega)]; omega
theorem zE6 {n : Nat} (h2 : n ≤ 1152921504606846976) : IntKind.i64.wrap ((n : Int) + 1) = ((n + 1 : Nat) : Int) := by rw [zJ4 (by omega) (by omega)]; omega

theorem pc41 (a b c : Int) : PureCall Tryz.prog gs 84 [.int .i64 a, .int .i64 b, .int .i64 c] (dRet (.bool (decide (b ≤ a) && decide (a ≤ c)))) := by
  refine zD0 mixed fn41 (Nat.le_of_ble_eq_true rfl) (Nat.lt_of_succ_le (Nat.le_of_ble_eq_true rfl)) (sfOk .nil) TbOk (lv := lv0) fun I F hI hF => ?_
  refine zE2 fun C hC => ?_
  cbv
  subst hC
  refine ⟨?_⟩
  simp (maxSteps := 30000000) only [hI, hF, std]
  simp only [smp, smo, lookPn, lookPd, sfOfP, lookFo, lookFra, lookFrn, lookFes, lookFty, sfOfF, lookOk, lookRes, sfOf, sgOf, hOk, hRes, hOut, ↓reduceIte, Nat.reduceEqDiff, reduceCtorEq]
  by_cases h : b ≤ a <;> simp [h]
noncomputable def e41 : Ent := ⟨84, fun | [.int .i64 _, .int .i64 _, .int .i64 _] => true | _ => false, fun | [.int .i64 a, .int .i64 b, .int .i64 c] => .bool (decide (b ≤ a) && decide (a ≤ c)) | _ => .inil⟩
open Classical in
theorem ok41 : EntOk Tryz.prog gs e41 := fun ds h => by
  unfold e41 at h ⊢
  simp only at h ⊢
  split at h
  · exact pc41 _ _ _
  · cases h
theorem pc42 (c : Int) : PureCall Tryz.prog gs 109 [.int .u8 c] (dRet (.bool (decide (97 ≤ c) && decide (c ≤ 122)))) := by
  refine zD0 mixed fn42 (Nat.le_of_ble_eq_true rfl) (Nat.lt_of_succ_le (Nat.le_of_ble_eq_true rfl)) (sfOk .nil) TbOk (lv := lv0) fun I F hI hF => ?_
  refine zE2 fun C hC => ?_
  cbv
  subst hC
  refine ⟨?_⟩
  simp (maxSteps := 30000000) only [hI, hF, std]
  simp only [smp, smo, lookPn, lookPd, sfOfP, lookFo, lookFra, lookFrn, lookFes, lookFty, sfOfF, lookOk, lookRes, sfOf, sgOf, hOk, hRes, hOut, ↓reduceIte, Nat.reduceEqDiff, reduceCtorEq]
  by_cases h : 97 ≤ c <;> simp [h]
noncomputable def e42 : Ent := ⟨109, fun | [.int .u8 _] => true | _ => false, fun | [.int .u8 c] => .bool (decide (97 ≤ c) && decide (c ≤ 122)) | _ => .inil⟩
open Classical in
theorem ok42 : EntOk Tryz.prog gs e42 := fun ds h => by
  unfold e42 at h ⊢
  simp only at h ⊢
  split at h
  · exact pc42 _
  · cases h
theorem pc43 (c : Int) : PureCall Tryz.prog gs 110 [.int .u8 c] (dRet (.bool (decide (65 ≤ c) && decide (c ≤ 90)))) := by
  refine zD0 mixed fn43 (Nat.le_of_ble_eq_true rfl) (Nat.lt_of_succ_le (Nat.le_of_ble_eq_true rfl)) (sfOk .nil) TbOk (lv := lv0) fun I F hI hF => ?_
  refine zE2 fun C hC => ?_
  cbv
  subst hC
  refine ⟨?_⟩
  simp (maxSteps := 30000000) only [hI, hF, std]
  simp only [smp, smo, lookPn, lookPd, sfOfP, lookFo, lookFra, lookFrn, lookFes, lookFty, sfOfF, lookOk, lookRes, sfOf, sgOf, hOk, hRes, hOut, ↓reduceIte, Nat.reduceEqDiff, reduceCtorEq]
  by_cases h : 65 ≤ c <;> simp [h]
noncomputable def e43 : Ent := ⟨110, fun | [.int .u8 _] => true | _ => false, fun | [.int .u8 c] => .bool (decide (65 ≤ c) && decide (c ≤ 90)) | _ => .inil⟩
open Classical in
theorem ok43 : EntOk Tryz.prog gs e43 := fun ds h => by
  unfold e43 at h ⊢
  simp only at h ⊢
  split at h
  · exact pc43 _
  · cases h
theorem pc44 (c : Int) : PureCall Tryz.prog gs 111 [.int .u8 c] (dRet (.bool (decide (48 ≤ c) && decide (c ≤ 57)))) := by
  refine zD0 mixed fn44 (Nat.le_of_ble_eq_true rfl) (Nat.lt_of_succ_le (Nat.le_of_ble_eq_true rfl)) (sfOk .nil) TbOk (lv := lv0) fun I F hI hF => ?_
  refine zE2 fun C hC => ?_
  cbv
  subst hC
  refine ⟨?_⟩
  simp (maxSteps := 30000000) only [hI, hF, std]
  simp only [smp, smo, lookPn, lookPd, sfOfP, lookFo, lookFra, lookFrn, lookFes, lookFty, sfOfF, lookOk, lookRes, sfOf, sgOf, hOk, hRes, hOut, ↓reduceIte, Nat.reduceEqDiff, reduceCtorEq]
  by_cases h : 48 ≤ c <;> simp [h]
noncomputable def e44 : Ent := ⟨111, fun | [.int .u8 _] => true | _ => false, fun | [.int .u8 c] => .bool (decide (48 ≤ c) && decide (c ≤ 57)) | _ => .inil⟩
open Classical in
theorem ok44 : EntOk Tryz.prog gs e44 := fun ds h => by
  unfold e44 at h ⊢
  simp only at h ⊢
  split at h
  · exact pc44 _
  · cases h
theorem pc88 (k : Int) : PureCall Tryz.prog gs 83 [.int .i64 k] (dRet (.bool ((decide (1 ≤ k) && decide (k ≤ 6)) || (decide (9 ≤ k) && decide (k ≤ 12)) || decide (k = 14)))) := by
  refine zD0 mixed fn88 (Nat.le_of_ble_eq_true rfl) (Nat.lt_of_succ_le (Nat.le_of_ble_eq_true rfl)) (sfOk (.cons ok41 .nil)) TbOk (lv := lv0) fun I F hI hF => ?_
  refine zE2 fun C hC => ?_
  cbv
  subst hC
  refine ⟨?_⟩
  simp (maxSteps := 30000000) only [hI, hF, std]
  simp only [smp, smo, lookPn, lookPd, sfOfP, lookFo, lookFra, lookFrn, lookFes, lookFty, sfOfF, lookOk, lookRes, sfOf, sgOf, hOk, hRes, hOut, ↓reduceIte, Nat.reduceEqDiff, reduceCtorEq, e41]
  simp
noncomputable def e88 : Ent := ⟨83, fun | [.int .i64 _] => true | _ => false, fun | [.int .i64 k] => .bool ((decide (1 ≤ k) && decide (k ≤ 6)) || (decide (9 ≤ k) && decide (k ≤ 12)) || decide (k = 14)) | _ => .inil⟩
open Classical in
theorem ok88 : EntOk Tryz.prog gs e88 := fun ds h => by
  unfold e88 at h ⊢
  simp only at h ⊢
  split at h
  · exact pc88 _
  · cases h

theorem pc57 (b : Bool) : PureCall Tryz.prog gs 54 [.bool b] (dRet (.int .i64 (if b then 1 else 0))) := by
  refine zD0 mixed fn57 (Nat.le_of_ble_eq_true rfl) (Nat.lt_of_succ_le (Nat.le_of_ble_eq_true rfl)) (sfOk .nil) TbOk (lv := lv0) fun I F hI hF => ?_
  refine zE2 fun C hC => ?_
  cbv
  subst hC
  refine ⟨?_⟩
  simp (maxSteps := 30000000) only [hI, hF, std]
  simp only [smp, smo, lookPn, lookPd, sfOfP, lookFo, lookFra, lookFrn, lookFes, lookFty, sfOfF, lookOk, lookRes, sfOf, sgOf, hOk, hRes, hOut, ↓reduceIte, Nat.reduceEqDiff, reduceCtorEq]
  cases b <;> simp
noncomputable def e57 : Ent := ⟨54, fun | [.bool _] => true | _ => false, fun | [.bool b] => .int .i64 (if b then 1 else 0) | _ => .inil⟩
open Classical in
theorem ok57 : EntOk Tryz.prog gs e57 := fun ds h => by
  unfold e57 at h ⊢
  simp only at h ⊢
  split at h
  · exact pc57 _
  · cases h

/-- A name's byte behind another. -/
def NameB (s : ByteArray) (i : Nat) : Prop :=
  (48 ≤ byt s i ∧ byt s i ≤ 57) ∨ (97 ≤ byt s i ∧ byt s i ≤ 122) ∨ (65 ≤ byt s i ∧ byt s i ≤ 90) ∨ byt s i = 95 ∨ (byt s i = 45 ∧ byt s (i - 1) ≠ 45)
structure NameP (s : ByteArray) : Prop where
  pos : 1 ≤ s.size
  most : s.size ≤ 32
  first : (97 ≤ byt s 0 ∧ byt s 0 ≤ 122) ∨ (65 ≤ byt s 0 ∧ byt s 0 ≤ 90)
  last : byt s (s.size - 1) ≠ 45
  all : ∀ i, 1 ≤ i → i < s.size → NameB s i
open Classical in
noncomputable def nameOk (s : ByteArray) : Bool := decide (NameP s)
theorem nameOk_false (s : ByteArray) : (false = nameOk s) = ¬ NameP s := by simp [nameOk, eq_comm]
theorem nameOk_true (s : ByteArray) : (true = nameOk s) = NameP s := by simp [nameOk, eq_comm]
def lv25 : Nat → List Nat × List Nat
  | 4 => ([0, 3], [])
  | _ => ([], [])
theorem pc25 (s : ByteArray) : PureCall Tryz.prog gs 86 [.str s] (dRet (.bool (nameOk s))) := by
  refine zD0 mixed fn25 (Nat.le_of_ble_eq_true rfl) (Nat.lt_of_succ_le (Nat.le_of_ble_eq_true rfl)) (sfOk (.cons ok41 (.cons ok42 (.cons ok43 (.cons ok44 .nil))))) TbOk (lv := lv25) fun I F hI hF => ?_
  refine zE2 fun C hC => ?_
  cbv
  subst hC
  refine ⟨?_⟩
  simp (maxSteps := 30000000) only [hI, hF, std]
  simp only [smp, smo, lookPn, lookPd, sfOfP, lookFo, lookFra, lookFrn, lookFes, lookFty, sfOfF, lookOk, lookRes, sfOf, sgOf, hOk, hRes, hOut, ↓reduceIte, Nat.reduceEqDiff, reduceCtorEq, e41, e42, e43, e44]
  by_cases h1 : 1 ≤ s.size ∧ s.size ≤ 32
  · have w := wrap_pred h1.1 (by omega)
    simp [nameOk_false, w]
    repeat' (first | apply And.intro | intro _)
    all_goals first | omega | skip
    · rename_i h; obtain ⟨_, _, _, _, _⟩ := h; omega
    · skip
      refine zE1 (kend := fun I => kEndF I Tb [.tmp 2]) hI hF (sfOk (.cons ok41 (.cons ok42 (.cons ok43 (.cons ok44 .nil))))) TbOk (by exact fun Bk e s h => endF TbOk Bk e s h) (lv := lv25) 0 (fun i : {i : Nat // 1 ≤ i ∧ i ≤ s.size ∧ ∀ j, 1 ≤ j → j < i → NameB s j} => [.d (.str s), .d (.int .i64 (i.1 : Int))]) (fun i : {i : Nat // 1 ≤ i ∧ i ≤ s.size ∧ ∀ j, 1 ≤ j → j < i → NameB s j} => []) (fun i : {i : Nat // 1 ≤ i ∧ i ≤ s.size ∧ ∀ j, 1 ≤ j → j < i → NameB s j} => s.size - i.1) [] (⟨1, by omega, by omega, fun j _ _ => by omega⟩ : {i : Nat // 1 ≤ i ∧ i ≤ s.size ∧ ∀ j, 1 ≤ j → j < i → NameB s j}) (by rfl) (by rfl) ?_ ?_ fun i => ?_
      · rfl
      · rfl
      obtain ⟨i, hi1, hi2, hi3⟩ := i
      refine zE2 fun C hC => ?_
      cbv
      subst hC
      refine ⟨?_⟩
      simp (maxSteps := 30000000) only [hI, hF, std]
      have w2 := wrap_pred hi1 (by omega)
      have w3 := zE6 (n := i) (by omega)
      simp only [smp, smo, lookPn, lookPd, sfOfP, lookFo, lookFra, lookFrn, lookFes, lookFty, sfOfF, lookOk, lookRes, sfOf, sgOf, hOk, hRes, hOut, ↓reduceIte, Nat.reduceEqDiff, reduceCtorEq, e41, e42, e43, e44]
      simp [nameOk_false, nameOk_true, w2, w3]
      repeat' (first | apply And.intro | intro _)
      all_goals first | omega | skip
      · rename_i h; obtain ⟨_, _, _, _, h⟩ := h
        have := h i hi1 (by omega)
        unfold NameB at this; omega
      · refine ⟨i + 1, by omega, ⟨by omega, by omega, fun j h1 h2 => ?_⟩, rfl⟩
        by_cases hj : j = i
        · subst hj; unfold NameB; omega
        · exact hi3 j h1 (by omega)
      · exact ⟨h1.1, h1.2, by omega, by omega, fun j h1 h2 => hi3 j h1 (by omega)⟩
  · have h2 : ¬ NameP s := fun h => h1 ⟨h.1, h.2⟩
    have : (1 : Int) ≤ s.size → ¬ (s.size : Int) ≤ 32 := fun a b => h1 (by omega)
    simp [nameOk_false, h2]
    omega
noncomputable def e25 : Ent := ⟨86, fun | [.str _] => true | _ => false, fun | [.str s] => .bool (nameOk s) | _ => .inil⟩
open Classical in
theorem ok25 : EntOk Tryz.prog gs e25 := fun ds h => by
  unfold e25 at h ⊢
  simp only at h ⊢
  split at h
  · exact pc25 _
  · cases h

theorem pc60 (s t : ByteArray) (hs : s.size ≤ 1152921504606846976) : PureCall Tryz.prog gs 88 [.str s, .str t] (dRet (.bool (decide (t.size ≤ s.size) && decide (s.extract (s.size - t.size) s.size = t)))) := by
  refine zD0 mixed fn60 (Nat.le_of_ble_eq_true rfl) (Nat.lt_of_succ_le (Nat.le_of_ble_eq_true rfl)) (sfOk .nil) TbOk (lv := lv0) fun I F hI hF => ?_
  refine zE2 fun C hC => ?_
  cbv
  subst hC
  refine ⟨?_⟩
  simp (maxSteps := 30000000) only [hI, hF, std]
  simp only [smp, smo, lookPn, lookPd, sfOfP, lookFo, lookFra, lookFrn, lookFes, lookFty, sfOfF, lookOk, lookRes, sfOf, sgOf, hOk, hRes, hOut, ↓reduceIte, Nat.reduceEqDiff, reduceCtorEq]
  by_cases h : t.size ≤ s.size
  · have w : IntKind.i64.wrap ((s.size : Int) - t.size) = ((s.size - t.size : Nat) : Int) := by rw [zJ4 (by omega) (by omega)]; omega
    simp [h, w, subD, loN, hiN, intO, asInt_int, asStr_str, isIntD_int, isStrD_str]
  · simp [h]
open Classical in
noncomputable def e60 : Ent := ⟨88, fun | [.str s, .str t] => decide (s.size ≤ 1152921504606846976) | _ => false, fun | [.str s, .str t] => .bool (decide (t.size ≤ s.size) && decide (s.extract (s.size - t.size) s.size = t)) | _ => .inil⟩
open Classical in
theorem ok60 : EntOk Tryz.prog gs e60 := fun ds h => by
  unfold e60 at h ⊢
  simp only at h ⊢
  split at h
  · exact pc60 _ _ (of_decide_eq_true h)
  · cases h
theorem pc38 (s t : ByteArray) (hs : s.size ≤ 1152921504606846976) : PureCall Tryz.prog gs 61 [.str s, .str t] (dRet (.bool (decide (t.size ≤ s.size) && decide (s.extract (s.size - t.size) s.size = t)))) := by
  refine zD0 mixed fn38 (Nat.le_of_ble_eq_true rfl) (Nat.lt_of_succ_le (Nat.le_of_ble_eq_true rfl)) (sfOk (.cons ok60 .nil)) TbOk (lv := lv0) fun I F hI hF => ?_
  refine zE2 fun C hC => ?_
  cbv
  subst hC
  refine ⟨?_⟩
  simp (maxSteps := 30000000) only [hI, hF, std]
  simp only [smp, smo, lookPn, lookPd, sfOfP, lookFo, lookFra, lookFrn, lookFes, lookFty, sfOfF, lookOk, lookRes, sfOf, sgOf, hOk, hRes, hOut, ↓reduceIte, Nat.reduceEqDiff, reduceCtorEq, e60]
  simp [hs]
open Classical in
noncomputable def e38 : Ent := ⟨61, fun | [.str s, .str t] => decide (s.size ≤ 1152921504606846976) | _ => false, fun | [.str s, .str t] => .bool (decide (t.size ≤ s.size) && decide (s.extract (s.size - t.size) s.size = t)) | _ => .inil⟩
open Classical in
theorem ok38 : EntOk Tryz.prog gs e38 := fun ds h => by
  unfold e38 at h ⊢
  simp only at h ⊢
  split at h
  · exact pc38 _ _ (of_decide_eq_true h)
  · cases h
end Go.Proofs.Sx

namespace Go.Proofs
open Go.Shelf
def Tryz.lays106_ren : Go.Shelf.Ren := ⟨fun | 106 => 106 | 213 => 133 | 265 => 149 | n => n, fun | 9 => 9 | 3 => 3 | n => n, fun | n => n⟩
theorem Tryz.lays106 : Go.Proofs.Lays.n106 Tryz.prog Tryz.lays106_ren := {
  mixed := by kernel_rfl
  f106 := Tryz.func106.trans (congrArg some (by kernel_rfl))
  f213 := Tryz.func133.trans (congrArg some (by kernel_rfl))
  f265 := Tryz.func149.trans (congrArg some (by kernel_rfl))
  t3 := Tryz.underlying3
  a3 := Tryz.isAgg3
  z3 := Tryz.sizeOf3
  v3 := Tryz.zeroValue3
  t9 := Tryz.underlying9
  a9 := Tryz.isAgg9
  z9 := Tryz.sizeOf9
  v9 := Tryz.zeroValue9 }
open Go.RowKit in
/-- strings.Compare: "Compare returns an integer comparing two strings lexicographically. The result will be 0 if a == b, -1 if a < b, and +1 if a > b.": IT RETURNS 'Lib.compareBytes a b'; the world is as it was. (LAID: no walk: one application.) -/
theorem Tryz.strings_Compare (a b : ByteArray) (w : World) :
    Calls Tryz.prog 106 #[.string a, .string b] w fun e w' => e = .returned (.int .i64 (Lib.compareBytes a.data.toList b.data.toList)) ∧ w' = w := Any.strings_Compare Tryz.lays106 a b w
def Tryz.lays144_ren : Go.Shelf.Ren := ⟨fun | 144 => 62 | 143 => 89 | 219 => 112 | 217 => 135 | 225 => 136 | 224 => 137 | 267 => 138 | 266 => 151 | 314 => 152 | n => n, fun | 9 => 9 | 4 => 4 | 3 => 3 | 5 => 5 | 46 => 136 | 146 => 155 | 51 => 154 | n => n, fun | 1 => 0 | n => n⟩
theorem Tryz.lays144 : Go.Proofs.Lays.n144 Tryz.prog Tryz.lays144_ren := {
  mixed := by kernel_rfl
  f143 := Tryz.func89.trans (congrArg some (by kernel_rfl))
  f144 := Tryz.func62.trans (congrArg some (by kernel_rfl))
  f217 := Tryz.func135.trans (congrArg some (by kernel_rfl))
  f219 := Tryz.func112.trans (congrArg some (by kernel_rfl))
  f224 := Tryz.func137.trans (congrArg some (by kernel_rfl))
  f225 := Tryz.func136.trans (congrArg some (by kernel_rfl))
  f266 := Tryz.func151.trans (congrArg some (by kernel_rfl))
  f267 := Tryz.func138.trans (congrArg some (by kernel_rfl))
  f314 := Tryz.func152.trans (congrArg some (by kernel_rfl))
  t3 := Tryz.underlying3
  a3 := Tryz.isAgg3
  z3 := Tryz.sizeOf3
  v3 := Tryz.zeroValue3
  t4 := Tryz.underlying4
  a4 := Tryz.isAgg4
  z4 := Tryz.sizeOf4
  v4 := Tryz.zeroValue4
  t5 := Tryz.underlying5
  a5 := Tryz.isAgg5
  z5 := Tryz.sizeOf5
  v5 := Tryz.zeroValue5
  t9 := Tryz.underlying9
  a9 := Tryz.isAgg9
  z9 := Tryz.sizeOf9
  v9 := Tryz.zeroValue9
  t46 := Tryz.underlying136
  a46 := Tryz.isAgg136
  z46 := Tryz.sizeOf136
  v46 := Tryz.zeroValue136
  t51 := Tryz.underlying154
  a51 := Tryz.isAgg154
  z51 := Tryz.sizeOf154
  v51 := Tryz.zeroValue154
  t146 := Tryz.underlying155
  a146 := Tryz.isAgg155
  z146 := Tryz.sizeOf155
  v146 := Tryz.zeroValue155
  g1 := by kernel_rfl }
open Go.RowKit Go.Lib in
/-- strings.Contains: "Contains reports whether substr is within s.": IT RETURNS 'Lib.contains s substr'; the world is as it was. (LAID: no walk: one application.) -/
theorem Tryz.strings_Contains (s sub : ByteArray) (m : Int) (w : World) (hs : s.size < 4294967281) (hm : w.cell? ⟨0, 0, none⟩ = some (.int .i64 m)) :
    Calls Tryz.prog 62 #[.string s, .string sub] w fun e w' => e = .returned (.bool (Lib.contains s.data.toList sub.data.toList)) ∧ w' = w := Any.strings_Contains Tryz.lays144 s sub m w hs hm
end Go.Proofs

set_option linter.unusedVariables false
set_option linter.unusedSimpArgs false
set_option maxRecDepth 100000
namespace Go.Proofs.Sx
open Go Go.Proofs Go.Proofs.Am 
variable {gs : List Nat}

/-- A contract that leaves the world alone and hands back a number or a bool. -/
theorem pure_of_calls {f : FuncId} {args : List DV} {d : DV} {x : Value} (hent : enterOk Tryz.prog f = true) (hd : scalar0 d = true)
    (h : ∀ (w : World) (A : Nat → Prop) (vals : Array Value), vals.size = args.length → (∀ i, i < args.length → DRep w A (args.getD i .inil) (vals.getD i undef)) → GInt gs w →
      DRep w A d x ∧ Calls Tryz.prog f vals w fun e w' => e = .returned x ∧ w' = w) : PureCall Tryz.prog gs f args (dRet d) := by
  refine ⟨hent, fun w A vals hA hl hr hG => ?_⟩
  obtain ⟨h1, h2⟩ := h w A vals hl hr hG
  refine h2.mono fun e w' hq => ?_
  obtain ⟨rfl, rfl⟩ := hq
  exact ⟨x, rfl, A, fun _ => none, ⟨rfl, rfl, rfl, Nat.le_refl _, fun _ _ => rfl⟩, fun g h => h, fun g h => .inl h, hA, .d _ _ h1, (fun b k h => by simp [dRet] at h), (fun b q b' q' h => by cases h), (fun b q h => by cases h)⟩

theorem two_str {w : World} {A : Nat → Prop} {a b : ByteArray} {vals : Array Value} (hl : vals.size = 2) (hr : ∀ i, i < 2 → DRep w A ([DV.str a, .str b].getD i .inil) (vals.getD i undef)) : vals = #[.string a, .string b] := by
  have h0 := hr 0 (by omega)
  have h1 := hr 1 (by omega)
  simp only [List.getD_cons_zero, List.getD_cons_succ] at h0 h1
  apply Array.ext (by simpa using hl)
  intro i hi hi2
  have hi3 : i < 2 := by simpa using hi2
  have e : vals.getD i undef = vals[i] := by simp [Array.getD, hi]
  rcases (by omega : i = 0 ∨ i = 1) with rfl | rfl
  · rw [← e]; generalize vals.getD 0 undef = v at h0; cases h0; rfl
  · rw [← e]; generalize vals.getD 1 undef = v at h1; cases h1; rfl

theorem pc85 (a b : ByteArray) : PureCall Tryz.prog gs 106 [.str a, .str b] (dRet (.int .i64 (Lib.compareBytes a.data.toList b.data.toList))) := by
  refine pure_of_calls (by kernel_rfl) rfl fun w A vals hl hr hG => ⟨.int _ _, ?_⟩
  rw [two_str hl hr]
  exact Tryz.strings_Compare a b w
noncomputable def e85 : Ent := ⟨106, fun | [.str _, .str _] => true | _ => false, fun | [.str a, .str b] => .int .i64 (Lib.compareBytes a.data.toList b.data.toList) | _ => .inil⟩
open Classical in
theorem ok85 : EntOk Tryz.prog [0] e85 := fun ds h => by
  unfold e85 at h ⊢
  simp only at h ⊢
  split at h
  · exact pc85 _ _
  · cases h
theorem pc39 (a b : ByteArray) (h : a.size < 4294967281) : PureCall Tryz.prog [0] 62 [.str a, .str b] (dRet (.bool (Lib.contains a.data.toList b.data.toList))) := by
  refine pure_of_calls (by kernel_rfl) rfl fun w A vals hl hr hG => ⟨.bool _, ?_⟩
  rw [two_str hl hr]
  obtain ⟨m, hm⟩ := hG 0 (by simp)
  exact Tryz.strings_Contains a b m w h hm
open Classical in
noncomputable def e39 : Ent := ⟨62, fun | [.str a, .str b] => decide (a.size < 4294967281) | _ => false, fun | [.str a, .str b] => .bool (Lib.contains a.data.toList b.data.toList) | _ => .inil⟩
theorem ok39 : EntOk Tryz.prog [0] e39 := fun ds h => by
  unfold e39 at h ⊢
  simp only at h ⊢
  split at h
  · exact pc39 _ _ (of_decide_eq_true h)
  · cases h

theorem idx_cons (b : UInt8) (l sub : List UInt8) : (0 ≤ Lib.index (b :: l) sub) ↔ (sub.isPrefixOf (b :: l) = true ∨ 0 ≤ Lib.index l sub) := by
  have hge := Lib.index_ge l sub
  rw [Lib.index]
  split
  · rename_i h; simp [h]
  · rename_i h
    split
    · rename_i h2; simp only [beq_iff_eq] at h2; simp [h, h2]
    · rename_i h2; simp only [beq_iff_eq] at h2; simp [h]; omega

theorem contains_dd : ∀ (l : List UInt8), Lib.contains l [45, 45] = true ↔ ∃ i : Nat, l[i]? = some 45 ∧ l[i + 1]? = some 45
  | [] => by simp [Lib.contains, Lib.index]
  | b :: l => by
    have ih := contains_dd l
    simp only [Lib.contains, decide_eq_true_eq] at ih ⊢
    rw [idx_cons, ih]
    constructor
    · rintro (h | ⟨i, h1, h2⟩)
      · refine ⟨0, ?_⟩
        cases l with
        | nil => simp [List.isPrefixOf] at h
        | cons c l =>
          simp only [List.isPrefixOf, Bool.and_true, Bool.and_eq_true, beq_iff_eq] at h
          simp [← h.1, ← h.2]
      · exact ⟨i + 1, by simpa using h1, by simpa using h2⟩
    · rintro ⟨i, h1, h2⟩
      cases i with
      | zero =>
        left
        cases l with
        | nil => simp at h2
        | cons c l => simp at h1 h2; simp [List.isPrefixOf, h1, h2]
      | succ i => right; exact ⟨i, by simpa using h1, by simpa using h2⟩

theorem byt_iff (s : ByteArray) (i : Nat) (h : i < s.size) (n : UInt8) : byt s i = n.toNat ↔ s.data.toList[i]? = some n := by
  have h' : i < s.data.toList.length := by simpa using h
  simp only [byt, List.getD, List.getElem?_eq_getElem h', Option.getD_some, Option.some.injEq]
  constructor
  · intro h; exact UInt8.toNat_inj.1 (by exact_mod_cast h)
  · intro h; rw [h]

theorem byt_lt (s : ByteArray) (i : Nat) : 0 ≤ byt s i ∧ byt s i ≤ 255 := by
  have : (s.data.toList.getD i 0).toNat < 256 := (s.data.toList.getD i 0).toNat_lt
  unfold byt; omega

theorem contains_byt (s : ByteArray) : Lib.contains s.data.toList [45, 45] = true ↔ ∃ i, i + 1 < s.size ∧ byt s i = 45 ∧ byt s (i + 1) = 45 := by
  rw [contains_dd]
  constructor
  · rintro ⟨i, h1, h2⟩
    have hi : i + 1 < s.size := by
      have := (List.getElem?_eq_some_iff.1 h2).1
      simpa using this
    exact ⟨i, hi, (byt_iff s i (by omega) 45).2 h1, (byt_iff s (i + 1) hi 45).2 h2⟩
  · rintro ⟨i, hi, h1, h2⟩
    exact ⟨i, (byt_iff s i (by omega) 45).1 h1, (byt_iff s (i + 1) hi 45).1 h2⟩

theorem last_byt (s : ByteArray) (h : 1 ≤ s.size) : s.extract (s.size - 1) s.size = ⟨#[45]⟩ ↔ byt s (s.size - 1) = 45 := by
  rw [show (45 : Int) = ((45 : UInt8).toNat : Int) from rfl, byt_iff s _ (by omega)]
  constructor
  · intro he
    have h2 : (s.extract (s.size - 1) s.size).data.toList = [45] := by rw [he]
    rw [ByteArray.data_extract] at h2
    have h3 : ((s.data.extract (s.size - 1) s.size).toList)[0]? = some 45 := by rw [h2]; rfl
    simp only [Array.toList_extract, List.extract_eq_take_drop] at h3
    rw [List.getElem?_take] at h3
    split at h3
    · simpa using h3
    · cases h3
  · intro he
    apply ByteArray.ext
    rw [ByteArray.data_extract]
    apply Array.ext'
    have hl : s.data.toList.length = s.size := by simp
    simp only [Array.toList_extract, List.extract_eq_take_drop]
    have : s.size - (s.size - 1) = 1 := by omega
    rw [this]
    have hd : s.data.toList.drop (s.size - 1) = [45] := by
      apply List.ext_getElem?
      intro i
      rw [List.getElem?_drop]
      cases i with
      | zero => simpa using he
      | succ i => rw [List.getElem?_eq_none (by omega)]; simp
    rw [hd]; rfl

/-- The program's test of a name's byte. -/
def ByteP (s : ByteArray) (i : Nat) : Prop :=
  (97 ≤ byt s i ∧ byt s i ≤ 122) ∨ (65 ≤ byt s i ∧ byt s i ≤ 90) ∨ (i ≠ 0 ∧ (byt s i = 45 ∨ byt s i = 95 ∨ (48 ≤ byt s i ∧ byt s i ≤ 57)))
theorem nameP_iff (s : ByteArray) : NameP s ↔ (1 ≤ s.size ∧ s.size ≤ 32) ∧ byt s (s.size - 1) ≠ 45 ∧ ¬ Lib.contains s.data.toList [45, 45] = true ∧ ∀ i, i < s.size → ByteP s i := by
  rw [contains_byt]
  constructor
  · rintro ⟨h1, h2, h3, h4, h5⟩
    refine ⟨⟨h1, h2⟩, h4, ?_, fun i hi => ?_⟩
    · rintro ⟨i, hi, ha, hb⟩
      have := h5 (i + 1) (by omega) hi
      unfold NameB at this
      simp only [Nat.add_sub_cancel] at this
      omega
    · unfold ByteP
      rcases Nat.eq_zero_or_pos i with rfl | hp
      · omega
      · have := h5 i hp hi
        unfold NameB at this
        omega
  · rintro ⟨⟨h1, h2⟩, h3, h4, h5⟩
    refine ⟨h1, h2, ?_, h3, fun i hi hlt => ?_⟩
    · have := h5 0 (by omega); unfold ByteP at this; omega
    · have := h5 i hlt
      unfold ByteP at this
      unfold NameB
      have h6 : byt s i = 45 → byt s (i - 1) ≠ 45 := fun ha hb => h4 ⟨i - 1, by omega, hb, by rw [show i - 1 + 1 = i by omega]; exact ha⟩
      omega
theorem nameOk_f (s : ByteArray) : nameOk s = false ↔ ¬ NameP s := by simp [nameOk]
theorem nameOk_t (s : ByteArray) : nameOk s = true ↔ NameP s := by simp [nameOk]
def lv21 : Nat → List Nat × List Nat
  | 4 => ([0, 23, 24, 25], [0])
  | _ => ([], [])
theorem pc21 (s : ByteArray) (hs : s.size ≤ 1048576) : PureCall Tryz.prog [0] 44 [.str s] (dRet (.bool (nameOk s))) := by
  refine zD0 mixed fn21 (Nat.le_of_ble_eq_true rfl) (Nat.lt_of_succ_le (Nat.le_of_ble_eq_true rfl)) (sfOk (.cons ok38 (.cons ok39 .nil))) TbOk (lv := lv21) fun I F hI hF => ?_
  refine zE2 fun C hC => ?_
  cbv
  subst hC
  refine ⟨?_⟩
  simp (maxSteps := 30000000) only [hI, hF, std]
  simp only [smp, smo, lookPn, lookPd, sfOfP, lookFo, lookFra, lookFrn, lookFes, lookFty, sfOfF, lookOk, lookRes, sfOf, sgOf, hOk, hRes, hOut, ↓reduceIte, Nat.reduceEqDiff, reduceCtorEq, e38, e39]
  have hs1 : s.size ≤ 1152921504606846976 := by omega
  have hs2 : s.size < 4294967281 := by omega
  by_cases h1 : 1 ≤ s.size ∧ s.size ≤ 32
  · have h1' : (1 : Int) ≤ s.size ∧ (s.size : Int) ≤ 32 := by omega
    have hh : (⟨#[45]⟩ : ByteArray).size = 1 := rfl
    by_cases h2 : byt s (s.size - 1) = 45
    · have hn : nameOk s = false := by rw [nameOk_f, nameP_iff]; exact fun h => h.2.1 h2
      simp [hs1, hs2, h1', hn, h1, h2, hh, last_byt]
    · by_cases h3 : Lib.contains s.data.toList [45, 45] = true
      · have hn : nameOk s = false := by rw [nameOk_f, nameP_iff]; exact fun h => h.2.2.1 h3
        simp [hs1, hs2, h1', hn, h1, h2, h3, hh, last_byt]
      · have h3' : Lib.contains s.data.toList [45, 45] = false := by simpa using h3
        simp [hs1, hs2, h1', h1, h2, h3', hh, last_byt]
        refine ⟨fun h => by omega, fun x hx => List.all_eq_true.1 (bytesA_bel s 1) x hx, ?_⟩
        refine zE1 (kend := fun I => kEndF I Tb [.tmp 2]) hI hF (sfOk (.cons ok38 (.cons ok39 .nil))) TbOk (by exact fun Bk e s h => endF TbOk Bk e s h) (lv := lv21) 0 (fun i : {i : Nat // i ≤ s.size ∧ ∀ j, j < i → ByteP s j} => [.d (.str s), .slc 0 1 0 s.size, .d (.int .i64 (s.size : Int)), .d (.int .i64 (i.1 : Int))]) (fun i : {i : Nat // i ≤ s.size ∧ ∀ j, j < i → ByteP s j} => [(0, some ⟨bytesA s, 1, 5, true, false⟩)]) (fun i : {i : Nat // i ≤ s.size ∧ ∀ j, j < i → ByteP s j} => s.size - i.1) [0] (⟨0, by omega, fun j h => by omega⟩ : {i : Nat // i ≤ s.size ∧ ∀ j, j < i → ByteP s j}) (by rfl) (by rfl) ?_ ?_ fun i => ?_
        · rfl
        · rfl
        obtain ⟨i, hi1, hi2⟩ := i
        refine zE2 fun C hC => ?_
        generalize hgen0 : bytesA s = gen0
        generalize hgen1 : DV.int .i64 (i : Int) = gen1
        generalize hgen2 : DV.int .i64 (s.size : Int) = gen2
        generalize hgen3 : s.size = gen3
        generalize hgen4 : DV.str s = gen4
        cbv
        subst hgen0
        subst hgen1
        subst hgen2
        subst hgen3
        subst hgen4
        subst hC
        refine ⟨?_⟩
        simp (maxSteps := 30000000) only [hI, hF, std]
        have w3 := zE6 (n := i) (by omega)
        simp only [smp, smo, lookPn, lookPd, sfOfP, lookFo, lookFra, lookFrn, lookFes, lookFty, sfOfF, lookOk, lookRes, sfOf, sgOf, hOk, hRes, hOut, ↓reduceIte, Nat.reduceEqDiff, reduceCtorEq, e38, e39]
        by_cases hlt : i < s.size
        · have g1 := dgetA_bytes s i hlt
          have g2 := isDat_bytes s i hlt
          have g3 := List.all_eq_true.1 (bytesA_bel s 1)
          simp only [hlt, g1, g2, w3, bytesA_len, bytesA_bel, smp, smo, lookPn, lookPd, sfOfP, lookFo, lookFra, lookFrn, lookFes, lookFty, sfOfF, lookOk, lookRes, sfOf, sgOf, hOk, hRes, hOut, ↓reduceIte, Nat.reduceEqDiff, reduceCtorEq, Nat.zero_add, Int.toNat_natCast]
          simp [hlt, nameOk_f]
          repeat' (first | apply And.intro | intro _)
          all_goals first | omega | skip
          · rename_i h
            have := ((nameP_iff s).1 h).2.2.2 i hlt
            unfold ByteP at this
            omega
          · refine ⟨i + 1, by omega, ⟨by omega, fun j hj => ?_⟩, by first | rfl | simp⟩
            by_cases hji : j = i
            · subst hji; unfold ByteP; omega
            · exact hi2 j (by omega)
        · simp [hlt, nameOk_t]
          exact (nameP_iff s).2 ⟨h1, h2, h3, fun j hj => hi2 j (by omega)⟩
  · have h2 : nameOk s = false := by rw [nameOk_f, nameP_iff]; exact fun h => h1 h.1
    have h1' : (1 : Int) ≤ s.size → ¬ (s.size : Int) ≤ 32 := fun a b => h1 (by omega)
    simp [h2, hs1, hs2]
    repeat' (first | apply And.intro | intro _)
    all_goals first | omega | skip
open Classical in
noncomputable def e21 : Ent := ⟨44, fun | [.str s] => decide (s.size ≤ 1048576) | _ => false, fun | [.str s] => .bool (nameOk s) | _ => .inil⟩
open Classical in
theorem ok21 : EntOk Tryz.prog [0] e21 := fun ds h => by
  unfold e21 at h ⊢
  simp only at h ⊢
  split at h
  · exact pc21 _ (of_decide_eq_true h)
  · cases h
end Go.Proofs.Sx
