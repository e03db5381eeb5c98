/- Code walked over data as it stands. -/
import Derived.Test.YtmjkaekhjmlnbaaGreatDoorAmSymOk
set_option linter.unusedVariables false
set_option linter.unusedSimpArgs false
namespace Go.Proofs.Am
open Go Go.RowKit

/-- Slots, as a tree. -/
inductive EM where
  | nil
  | node (v : AV) (a b c d : EM)

def EM.get : EM → Nat → AV
  | .nil, _ => .undef
  | .node v a b c d, n => match n with
    | 0 => v
    | m + 1 => match m % 4 with
      | 0 => a.get (m / 4)
      | 1 => b.get (m / 4)
      | 2 => c.get (m / 4)
      | _ => d.get (m / 4)

def EM.put : Nat → EM → Nat → AV → EM
  | 0, e, _, _ => e
  | k + 1, .nil, n, x => match n with
    | 0 => .node x .nil .nil .nil .nil
    | m + 1 => match m % 4 with
      | 0 => .node .undef (EM.put k .nil (m / 4) x) .nil .nil .nil
      | 1 => .node .undef .nil (EM.put k .nil (m / 4) x) .nil .nil
      | 2 => .node .undef .nil .nil (EM.put k .nil (m / 4) x) .nil
      | _ => .node .undef .nil .nil .nil (EM.put k .nil (m / 4) x)
  | k + 1, .node v a b c d, n, x => match n with
    | 0 => .node x a b c d
    | m + 1 => match m % 4 with
      | 0 => .node v (EM.put k a (m / 4) x) b c d
      | 1 => .node v a (EM.put k b (m / 4) x) c d
      | 2 => .node v a b (EM.put k c (m / 4) x) d
      | _ => .node v a b c (EM.put k d (m / 4) x)

def capE : Nat → Nat
  | 0 => 0
  | k + 1 => 1 + 4 * capE k

theorem mod4 (m : Nat) : m % 4 = 0 ∨ m % 4 = 1 ∨ m % 4 = 2 ∨ m % 4 = 3 := by omega

theorem EM.get_put (x : AV) : ∀ (k : Nat) (e : EM) (n j : Nat), n < capE k → (EM.put k e n x).get j = if j = n then x else e.get j
  | 0, e, n, j, h => by simp [capE] at h
  | k + 1, e, n, j, h => by
    simp only [capE] at h
    have ih := EM.get_put x k
    cases n with
    | zero => cases e <;> cases j <;> simp [EM.put, EM.get] <;> (split <;> rfl)
    | succ m =>
      have hm : m / 4 < capE k := by omega
      cases j with
      | zero => cases e <;> rcases mod4 m with h4 | h4 | h4 | h4 <;> simp [EM.put, EM.get, h4]
      | succ j =>
        by_cases he : j % 4 = m % 4
        · have hjm : (j + 1 = m + 1) = (j / 4 = m / 4) := by apply propext; omega
          simp only [hjm]
          cases e <;> rcases mod4 m with h4 | h4 | h4 | h4 <;> (rw [h4] at he; simp only [EM.put, EM.get, h4, he, ih _ _ _ hm])
        · rw [if_neg (by omega)]
          cases e <;> rcases mod4 m with h4 | h4 | h4 | h4 <;> rcases mod4 j with h5 | h5 | h5 | h5 <;> first
            | (exact absurd (h5.trans h4.symm) he)
            | simp only [EM.put, EM.get, h4, h5]

/-- Local blocks, as a list. -/
abbrev LM := List (Nat × Option LB)

def LM.get : LM → Nat → Option LB
  | [], _ => none
  | (k, x) :: r, b => if k = b then x else LM.get r b

def LM.set : LM → Nat → Option LB → LM
  | [], b, y => [(b, y)]
  | (k, x) :: r, b, y => if k = b then (k, y) :: r else (k, x) :: LM.set r b y

theorem LM.get_set (b : Nat) (y : Option LB) : ∀ (l : LM) (j : Nat), (l.set b y).get j = if j = b then y else l.get j
  | [], j => by simp only [LM.set, LM.get]; by_cases h : b = j <;> simp [h, eq_comm]
  | (k, x) :: r, j => by
    simp only [LM.set]
    split
    · rename_i h; subst h
      simp only [LM.get]
      by_cases h : k = j
      · simp [h]
      · simp [h, Ne.symm h]
    · rename_i h
      simp only [LM.get, LM.get_set b y r j]
      by_cases h1 : k = j
      · simp only [h1, if_true]; rw [if_neg (by omega)]
      · simp [h1]

def LM.app : LM → List (Nat × Option LB) → LM
  | l, [] => l
  | l, (b, y) :: r => LM.app (l.set b y) r

theorem LM.get_app : ∀ (c : List (Nat × Option LB)) (l : LM), (l.app c).get = applyChg l.get c
  | [], l => rfl
  | (b, y) :: r, l => by
    have : (l.set b y).get = upd l.get b y := by funext j; rw [LM.get_set]; rfl
    simp only [LM.app]
    rw [LM.get_app r, this]; rfl

/-- A state of the walk, as data. -/
structure SS where
  env : EM
  lh : LM
  nid : Nat
  /-- The slot, and one, of the last test; 0: it has been written since. -/
  kt : Nat
  kb : Bool

def SS.st (s : SS) : St := ⟨s.env.get, s.lh.get, s.nid, []⟩

def clr (dst : Option Tmp) (kt : Nat) : Nat := match dst with | none => kt | some t => if kt = t + 1 then 0 else kt

def evE (E : EM) : Operand → AV
  | .tmp t => E.get t
  | .const v => match constD v with | some d => .d d | none => .undef
  | .global _ => .undef
  | .func f => .d (.fn f [])

theorem SS.eval_st (s : SS) : s.st.eval = evE s.env := by
  funext o; cases o <;> rfl

/-- What calls on data hand back, as names. -/
structure SF where
  ok : FuncId → List DV → Bool
  res : FuncId → List DV → DV

/-- A call's outcome with local blocks. -/
structure RS where
  v : AV
  lh : LM
  nid : Nat

/-- Calls with local blocks. -/
abbrev SH := FuncId → Option (LM → Nat → List AV → Option (Bool × RS))

/-- Where a walk ends: at the function's end, or back at the head of a loop. -/
inductive Leaf where
  | ret (vs : List AV) (lh : LM) (nid : Nat)
  | back (id : Nat) (vs : List AV) (blks : LM)

/-- What is left of the code around. -/
inductive Fm where
  | seq (b : Code)
  | block (id : Nat)
  | scope
  | back (id : Nat) (ts bs : List Nat) (nid : Nat)

inductive Tree where
  | fin (l : Leaf)
  | ite (b : Bool) (x y : Tree)
  | req (b : Bool) (x : Tree)
  | loop (c : Code) (ts : List Nat) (vs : List AV) (blks : LM) (nid : Nat) (na : Nat) (stk : List Fm)
  | bad

def EM.of : List Nat → List AV → EM → EM
  | t :: ts, v :: vs, E => EM.of ts vs (EM.put 7 E t v)
  | _, _, E => E

def dRet (d : DV) : Ret := ⟨.d d, []⟩

def putS (E : EM) (dst : Option Tmp) (v : AV) (k : EM → Tree) : Tree :=
  match dst with
  | none => k E
  | some t => if t < 5461 then k (EM.put 7 E t v) else .bad

def callT (F : SF) (H : SH) (lh : LM) (nid : Nat) (f : FuncId) (args : List AV) (k : RS → Tree) : Tree :=
  match H f with
  | some g => match g lh nid args with
    | some (b, r) => .req b (k r)
    | none => .bad
  | none => match args.mapM (frz lh.get 8) with
    | some ds => .req (F.ok f ds) (k (if args.all isD then ⟨.d (F.res f ds), lh, nid⟩ else ⟨.d (F.res f ds), lh.app (deaden lh.get (args.flatMap (reach lh.get 8))), nid⟩))
    | none => .bad

def tmT (F : SF) (H : SH) : TM → LM → Nat → (RS → Tree) → Tree
  | .val v, lh, nid, k => k ⟨v, lh, nid⟩
  | .pure r, lh, _, k => k ⟨r.v, lh.app r.chg, r.nid⟩
  | .get b f, lh, nid, k => match lh.get b with | some x => tmT F H (f x) lh nid k | none => .bad
  | .call f args, lh, nid, k => callT F H lh nid f args k
  | .req b m, lh, nid, k => .req b (tmT F H m lh nid k)
  | .ite b x y, lh, nid, k => .ite b (tmT F H x lh nid k) (tmT F H y lh nid k)
  | .pan _, _, _, _ => .bad
  | .fail, _, _, _ => .bad

/-- An operation that makes data alone and changes nothing. -/
def simpleT (I : SI) (F : SF) (H : SH) : TM → LM → Option (Bool × AV)
  | .val v, _ => some (true, v)
  | .get b f, lh => match lh.get b with | some x => simpleT I F H (f x) lh | none => none
  | .call f args, _ => match H f with
    | some _ => none
    | none => match allD args with | some ds => some (F.ok f ds, .d (F.res f ds)) | none => none
  | .req b m, lh => match simpleT I F H m lh with | some (c, x) => some (I.and b c, x) | none => none
  | _, _ => none

/-- What was made under a guard, as it is under that guard: slot by slot. -/
def gE (p : Nat × Bool × AV × Bool) : AV := .tup [.loc p.1 (cond p.2.1 1 0) 0 0, p.2.2.1]

def findG : List AV → Nat → Bool → Option AV
  | [], _, _ => none
  | .tup [.loc j' w' _ _, x] :: r, j, w => if j' = j then (if w' = cond w 1 0 then some x else findG r j w) else findG r j w
  | _ :: r, j, w => findG r j w

def lookG (G : EM) (j : Nat) (w : Bool) (t : Nat) : Option AV :=
  match G.get t with
  | .tup es => findG es j w
  | _ => none

def evG (G : EM) (j : Nat) (w : Bool) (E : EM) (o : Operand) : AV :=
  match o with
  | .tmp t => match lookG G j w t with
    | some x => x
    | none => E.get t
  | o => evE E o

/-- The slots that a region has written so far, up to hi, and what is known under guards: slots are written in their order, or all is forgotten. -/
structure GS where
  G : EM
  hi : Nat

def GS.wr (g : GS) (dst : Option Tmp) : GS :=
  match dst with
  | none => g
  | some t => if g.hi < t then ⟨g.G, t⟩ else ⟨.nil, g.hi⟩

def GS.add (g : GS) (dst : Option Tmp) (d : Nat) (L : List (Nat × Bool × AV × Bool)) : GS :=
  match dst with
  | none => g
  | some t => if g.hi < t then (if d ≤ g.hi then (if t < 5461 then ⟨EM.put 7 g.G t (.tup (L.map gE)), t⟩ else ⟨.nil, t⟩) else ⟨.nil, t⟩) else ⟨.nil, g.hi⟩

/-- What was made under a guard, as it is elsewhere. -/
def selV (I : SI) (g : Bool) (x : AV) : AV := match x with | .d z => .d (I.sel g z (.tup [])) | v => I.selA g v

/-- What was made under a guard, as it is under the guards around: slot, value, what is to be shown. -/
def levT (I : SI) (ops : Array Oper) (G : EM) : Nat → Nat → Bool → AV → Bool → List (Nat × Bool × AV × Bool)
  | 0, j, w, x, b => [(j, w, x, b)]
  | n + 1, j, w, x, b => (j, w, x, b) :: match (ops[j]?).bind (·.guard) with
    | none => []
    | some (j', w') => match (ops[j]?).bind (·.dst) with
      | some d => (match lookG G j' w' d with
        | some (.d xj) => levT I ops G n j' w' (selV I (I.grd xj w) x) (I.imp (I.grd xj w) b)
        | _ => [])
      | none => []

def lastT : List (Nat × Bool × AV × Bool) → (Nat × Bool × AV × Bool) → (Nat × Bool × AV × Bool)
  | [], d => d
  | p :: r, _ => lastT r p

def regTT (I : SI) (F : SF) (H : SH) (T : Nat → Option TRow) (ops : Array Oper) : List Oper → SS → GS → (SS → Tree) → Tree
  | [], σ, _, k => k σ
  | o :: rest, σ, ge, k => match dfrOf (evE σ.env) o.op with
    | some _ => .bad
    | none => match o.guard with
      | none => tmT F H (opT I T σ.nid (evE σ.env) o.op) σ.lh σ.nid fun r => putS σ.env o.dst r.v fun E => regTT I F H T ops rest ⟨E, r.lh, r.nid, clr o.dst σ.kt, σ.kb⟩ (ge.wr o.dst) k
      | some (j, want) => match (ops[j]?).bind (·.dst) with
        | some d => (match σ.env.get d with
          | .d y => .req (I.isBU y) (match simpleT I F H (opT I T σ.nid (evG ge.G j want σ.env) o.op) σ.lh with
            | some (b, x) => (match lastT (levT I ops ge.G 8 j want x b) (j, want, x, b) with
              | (jt, wt, xt, bt) => match (ops[jt]?).bind (·.dst) with
                | some dt => (match σ.env.get dt with
                  | .d yt => .req (I.imp (I.grd yt wt) bt) (putS σ.env o.dst (selV I (I.grd yt wt) xt) fun E => regTT I F H T ops rest ⟨E, σ.lh, σ.nid, clr o.dst σ.kt, σ.kb⟩
                      (ge.add o.dst d (levT I ops ge.G 8 j want x b)) k)
                  | _ => .bad)
                | none => .bad)
            | none => .ite (I.grd y want) (tmT F H (opT I T σ.nid (evE σ.env) o.op) σ.lh σ.nid fun r => putS σ.env o.dst r.v fun E => regTT I F H T ops rest ⟨E, r.lh, r.nid, clr o.dst σ.kt, σ.kb⟩ (ge.wr o.dst) k)
                (putS σ.env o.dst (.d (.tup [])) fun E => regTT I F H T ops rest ⟨E, σ.lh, σ.nid, clr o.dst σ.kt, σ.kb⟩ (ge.wr o.dst) k))
          | _ => .bad)
        | none => .bad

def callD (F : SF) (H : SH) (lh : LM) (nid : Nat) (f : FuncId) (args : List AV) (k : OpR → List Nat → Tree) : Tree :=
  match H f with
  | some _ => .bad
  | none => match args.mapM (frz lh.get 8) with
    | some ds => .req (F.ok f ds) (k (if args.all isD then ⟨.d (F.res f ds), [], nid⟩ else ⟨.d (F.res f ds), deaden lh.get (args.flatMap (reach lh.get 8)), nid⟩) (args.flatMap (reach lh.get 8)))
    | none => .bad

def tmD (F : SF) (H : SH) : TM → LM → Nat → (OpR → List Nat → Tree) → Tree
  | .val v, _, nid, k => k ⟨v, [], nid⟩ []
  | .pure r, _, _, k => k r []
  | .get b f, lh, nid, k => match lh.get b with | some x => tmD F H (f x) lh nid (fun r rs => k r (b :: rs)) | none => .bad
  | .call f args, lh, nid, k => callD F H lh nid f args k
  | .req b m, lh, nid, k => .req b (tmD F H m lh nid k)
  | .ite b x y, lh, nid, k => .ite b (tmD F H x lh nid k) (tmD F H y lh nid k)
  | .pan _, _, _, _ => .bad
  | .fail, _, _, _ => .bad

def regDT (I : SI) (F : SF) (H : SH) (T : Nat → Option TRow) (ops : Array Oper) (n0 : Nat) : List Oper → Nat → SS → (SS → List TE → Tree) → Tree
  | [], _, σ, k => k σ []
  | o :: rest, i, σ, k => match o.guard with
    | none => tmD F H (opT I T (n0 + i) (evE σ.env) o.op) σ.lh (n0 + i) fun r rs => if r.nid ≤ n0 + i + 1 then
        putS σ.env o.dst r.v fun E => regDT I F H T ops n0 rest (i + 1) ⟨E, σ.lh.app r.chg, σ.nid, clr o.dst σ.kt, σ.kb⟩ fun σ' tr => k σ' (⟨rs, r.chg.map (·.1)⟩ :: tr) else .bad
    | some (j, want) => match (ops[j]?).bind (·.dst) with
      | some d => (match σ.env.get d with
        | .d y => .req (I.isBU y) (.ite (I.grd y want) (tmD F H (opT I T (n0 + i) (evE σ.env) o.op) σ.lh (n0 + i) fun r rs => if r.nid ≤ n0 + i + 1 then
              putS σ.env o.dst r.v fun E => regDT I F H T ops n0 rest (i + 1) ⟨E, σ.lh.app r.chg, σ.nid, clr o.dst σ.kt, σ.kb⟩ fun σ' tr => k σ' (⟨rs, r.chg.map (·.1)⟩ :: tr) else .bad)
            (putS σ.env o.dst (.d (.tup [])) fun E => regDT I F H T ops n0 rest (i + 1) ⟨E, σ.lh, σ.nid, clr o.dst σ.kt, σ.kb⟩ fun σ' tr => k σ' (te0 :: tr)))
        | _ => .bad)
      | none => .bad

def seqT (k : Exit → SS → Tree) (b : SS → Tree) (e : Exit) (σ : SS) : Tree := match e with | .normal => b σ | e => k e σ
def blockT (id : Nat) (k : Exit → SS → Tree) (e : Exit) (σ : SS) : Tree := match e with | .exit id' => if id' = id then k .normal σ else k (.exit id') σ | e => k e σ
def scopeT (k : Exit → SS → Tree) (e : Exit) (σ : SS) : Tree := match e with | .goto _ => .bad | e => k e σ

/-- The first region's number in a loop names the loop. -/
def rid : Code → Nat
  | .region id _ _ => id
  | .seq a _ => rid a
  | .block _ c | .loop c | .scope c => rid c
  | _ => 0

/-- In the list of what is kept of blocks, a number 10000 + t stands for the block that slot t leads to, whatever its name. -/
def accS : List Nat → List Nat
  | [] => []
  | b :: r => if 10000 ≤ b then (b - 10000) :: accS r else accS r
def blkS : List Nat → List Nat
  | [] => []
  | b :: r => if 10000 ≤ b then blkS r else b :: blkS r

def idxA : List Nat → Nat → Nat → Option Nat
  | [], _, _ => none
  | a :: r, t, j => if a = t then some j else idxA r t (j + 1)

/-- The block that a value leads to. -/
def blkA : AV → Option Nat
  | .slc b _ _ _ => some b
  | .loc b _ _ _ => some b
  | _ => none

/-- The same value, its block's name being another. -/
def setA (q : Nat) : AV → AV
  | .slc _ es off len => .slc q es off len
  | .loc _ es i fo => .loc q es i fo
  | v => v

/-- A slot at the head of a loop. -/
def headA (m : Nat) (as : List Nat) (t : Nat) (v : AV) : AV := match idxA as t 0 with | some j => setA (m + j) v | none => v

def slotOk (m : Nat) (v : AV) : Bool := match blkA v with | some _ => true | none => bel m 8 v

/-- The blocks that the slots lead to, by their new names. -/
def headB (E : EM) (lh : LM) (m : Nat) : List Nat → Nat → LM
  | [], _ => []
  | t :: r, j => (m + j, (blkA (E.get t)).bind lh.get) :: headB E lh m r (j + 1)

def distB (E : EM) (bs : List Nat) : List Nat → List Nat → Bool
  | [], _ => true
  | t :: r, seen => match blkA (E.get t) with
    | some b => !(bs.contains b) && !(seen.contains b) && distB E bs r (b :: seen)
    | none => distB E bs r seen

/-- May these slots and blocks be kept, names from m on being given again? -/
def okS (ts as bs : List Nat) (m : Nat) (σ : SS) : Bool :=
  (ts.all fun t => decide (t < 5461) && (if (idxA as t 0).isSome then slotOk m (σ.env.get t) else bel m 8 (σ.env.get t))) && (as.isEmpty || bs.all fun b => decide (b < m)) && distB σ.env bs as []

def okB1 (I : SI) (m : Nat) (o : Option LB) (r : Bool) : Bool := match o with | some k => I.and (I.allBel m k.els) r | none => r

def okB (I : SI) (nid : Nat) (σ : SS) : List Nat → Bool
  | [] => true
  | b :: r => okB1 I nid (σ.lh.get b) (okB I nid σ r)

def okBA (I : SI) (nid : Nat) (σ : SS) : List Nat → Bool
  | [] => true
  | t :: r => okB1 I nid ((blkA (σ.env.get t)).bind σ.lh.get) (okBA I nid σ r)

def keepT (I : SI) (ts bs : List Nat) (m : Nat) (σ : SS) (t : Tree) : Tree :=
  if okS ts (accS bs) (blkS bs) m σ = true then .req (I.and (okB I m σ (blkS bs)) (okBA I m σ (accS bs))) t else .bad

def headVs (ts bs : List Nat) (m : Nat) (E : EM) : List AV := ts.map fun t => headA m (accS bs) t (E.get t)
def headBs (bs : List Nat) (m : Nat) (σ : SS) : LM := (blkS bs).map (fun b => (b, σ.lh.get b)) ++ headB σ.env σ.lh m (accS bs) 0

/-- Back at the head of a loop. -/
def kBack (I : SI) (D : Nat) (ts bs : List Nat) (m : Nat) (s : SS) : Tree := keepT I ts bs m s (.fin (.back D (headVs ts bs m s.env) (headBs bs m s)))

/-- lv: which slots and which local blocks are kept at which loop. -/
def execT (I : SI) (F : SF) (H : SH) (T : Nat → Option TRow) (lv : Nat → List Nat × List Nat) : Code → SS → List Fm → (Exit → SS → Tree) → Tree
  | .skip, σ, _, k => k .normal σ
  | .label _, σ, _, k => k .normal σ
  | .region _ ops false, σ, _, k => regTT I F H T ops ops.toList σ ⟨.nil, 0⟩ (k .normal)
  | .region _ ops true, σ, _, k => regDT I F H T ops σ.nid ops.toList 0 σ fun σ' tr =>
      if ((loose ops).all fun p => indepB (tr.getD p.1 te0) (tr.getD p.2 te0)) = true then k .normal ⟨σ'.env, σ'.lh, σ.nid + ops.size, σ'.kt, σ'.kb⟩ else .bad
  | .seq a b, σ, stk, k => execT I F H T lv a σ (.seq b :: stk) (seqT k fun σ' => execT I F H T lv b σ' stk k)
  | .cond c a b, σ, stk, k => match evE σ.env c with
    | .d y => (match c with
      | .tmp t => if σ.kt = t + 1 then .req (I.isB y σ.kb) (match σ.kb with | true => execT I F H T lv a σ stk k | false => execT I F H T lv b σ stk k)
          else if t < 5461 then .req (I.isBool y) (.ite (I.bool y) (execT I F H T lv a ⟨EM.put 7 σ.env t (.d (.bool true)), σ.lh, σ.nid, t + 1, true⟩ stk k) (execT I F H T lv b ⟨EM.put 7 σ.env t (.d (.bool false)), σ.lh, σ.nid, t + 1, false⟩ stk k))
          else .bad
      | _ => .req (I.isBool y) (.ite (I.bool y) (execT I F H T lv a σ stk k) (execT I F H T lv b σ stk k)))
    | _ => .bad
  | .block id c, σ, stk, k => execT I F H T lv c σ (.block id :: stk) (blockT id k)
  | .loop c, σ, stk, _ => keepT I (lv (rid c)).1 (lv (rid c)).2 σ.nid σ (.loop c (lv (rid c)).1 (headVs (lv (rid c)).1 (lv (rid c)).2 σ.nid σ.env) (headBs (lv (rid c)).2 σ.nid σ) σ.nid (accS (lv (rid c)).2).length stk)
  | .scope c, σ, stk, k => execT I F H T lv c σ (.scope :: stk) (scopeT k)
  | .exit id, σ, _, k => k (.exit id) σ
  | .ret, σ, _, k => k .ret σ
  | _, _, _, _ => .bad

/-- What is left, taken up. -/
def resT (I : SI) (F : SF) (H : SH) (T : Nat → Option TRow) (lv : Nat → List Nat × List Nat) (kend : Exit → SS → Tree) : List Fm → Exit → SS → Tree
  | [] => kend
  | .seq b :: r => seqT (resT I F H T lv kend r) fun σ' => execT I F H T lv b σ' r (resT I F H T lv kend r)
  | .block id :: r => blockT id (resT I F H T lv kend r)
  | .scope :: r => scopeT (resT I F H T lv kend r)
  | .back D ts bs nid :: r => seqT (resT I F H T lv kend r) (kBack I D ts bs nid)

/-- What is left, as a walk. -/
def WPstk (E : CallE) (P : Program) (Qe : Exit → St → Prop) (Bk : Nat → List AV → LM → Prop) (QP : DV → St → Prop) : List Fm → Exit → St → Prop
  | [] => Qe
  | .seq b :: r => seqQ (WPstk E P Qe Bk QP r) fun σ => WP E P b (WPstk E P Qe Bk QP r) QP σ
  | .block id :: r => blockQ id (WPstk E P Qe Bk QP r)
  | .scope :: r => noGotoQ (WPstk E P Qe Bk QP r)
  | .back D ts bs nid :: r => seqQ (WPstk E P Qe Bk QP r) fun σ => ∃ vs blks, Bk D vs blks ∧ Forg nid σ (SS.st ⟨EM.of ts vs .nil, blks, nid + (accS bs).length, 0, true⟩)

/-- What a tree is to show. -/
structure Aim where
  Qe : Exit → St → Prop
  Q : List AV → LM → Nat → Prop
  Bk : Nat → List AV → LM → Prop
  QP : DV → St → Prop

/-- What a tree says. -/
def Sat (P : Program) (gs : List Nat) (A : Aim) : Tree → Prop
  | .fin (.ret vs lh nid) => A.Q vs lh nid
  | .fin (.back D vs blks) => A.Bk D vs blks
  | .ite b x y => (b = true → Sat P gs A x) ∧ (b = false → Sat P gs A y)
  | .req b x => b = true ∧ Sat P gs A x
  | .loop c ts vs blks nid na stk => ∃ n, iterN nid (fun Q' σ' => WP (calls P gs) P c Q' A.QP σ') (WPstk (calls P gs) P A.Qe A.Bk A.QP stk) n (SS.st ⟨EM.of ts vs .nil, blks, nid + na, 0, true⟩)
  | .bad => False

structure SFok (P : Program) (gs : List Nat) (F : SF) (H : SH) : Prop where
  pure : ∀ f ds, F.ok f ds = true → PureCall P gs f ds (dRet (F.res f ds))
  call : ∀ f g lh nid args r, H f = some g → g lh nid args = some (true, r) → HCall P gs f args lh.get nid ⟨r.v, r.lh.get, r.nid⟩

end Go.Proofs.Am
