/- The walk as a program: calls on given data are run. -/
import Derived.Test.YtmjkaekhjmlnbaaGreatDoorAmFun
set_option linter.unusedVariables false
set_option linter.unusedSimpArgs false
namespace Go.Proofs.Am
open Go Go.RowKit

inductive Out where
  | fin (e : Exit) (σ : St)
  | pan (d : DV) (σ : St)
  | stuck

inductive COut where
  | ok (r : Res)
  | pan (d : DV) (r : Res)
  | stuck

def eq0 : DV → DV → Bool
  | .int k n, .int k' n' => decide (k = k') && n == n'
  | .bool b, .bool b' => b == b'
  | .str s, .str s' => s.data.toList == s'.data.toList
  | .pnil, .pnil | .snil, .snil | .fnil, .fnil | .inil, .inil => true
  | _, _ => false

def eqs0 : List DV → List DV → Bool
  | [], [] => true
  | x :: l, y :: r => eq0 x y && eqs0 l r
  | _, _ => false

def eq1 : DV → DV → Bool
  | .agg l, .agg r => eqs0 l r
  | .tup l, .tup r => eqs0 l r
  | x, y => eq0 x y

/-- Are two data without memory the same? -/
def scalarEq : DV → DV → Bool
  | .iface t x, .iface t' y => t == t' && eq1 x y
  | x, y => eq1 x y

theorem eq0_eq {x y : DV} (h : eq0 x y = true) : x = y := by
  unfold eq0 at h
  split at h <;> first | rfl | (cases h; done) | skip
  · simp only [Bool.and_eq_true, decide_eq_true_eq, beq_iff_eq] at h; rw [h.1, h.2]
  · simp only [beq_iff_eq] at h; rw [h]
  · rename_i s s'
    simp only [beq_iff_eq] at h
    obtain ⟨⟨a⟩⟩ := s
    obtain ⟨⟨b⟩⟩ := s'
    simp only at h
    rw [h]

theorem eqs0_eq : ∀ {l r : List DV}, eqs0 l r = true → l = r
  | [], [], _ => rfl
  | [], _ :: _, h => by simp [eqs0] at h
  | _ :: _, [], h => by simp [eqs0] at h
  | x :: l, y :: r, h => by
    simp only [eqs0, Bool.and_eq_true] at h
    rw [eq0_eq h.1, eqs0_eq h.2]

theorem eq1_eq {x y : DV} (h : eq1 x y = true) : x = y := by
  unfold eq1 at h
  split at h
  · rw [eqs0_eq h]
  · rw [eqs0_eq h]
  · exact eq0_eq h

theorem scalarEq_eq {x y : DV} (h : scalarEq x y = true) : x = y := by
  unfold scalarEq at h
  split at h
  · simp only [Bool.and_eq_true, beq_iff_eq] at h; rw [h.1, eq1_eq h.2]
  · exact eq1_eq h

/-- How calls are answered. -/
structure Runs where
  call : (Nat → Option LB) → Nat → FuncId → List AV → COut
  pure : FuncId → List DV → Option Ret
  pan : FuncId → List DV → Option DV

def scalarRet (p : Ret) : Bool := match p with | ⟨.d d, []⟩ => scalarD d | _ => false

def pureRes (lh : Nat → Option LB) (nid : Nat) (args : List AV) (p : Ret) : OpR :=
  if (args.all isD || scalarRet p) = true then p.op nid else ⟨(p.op nid).v, deaden lh (args.flatMap (reach lh 8)) ++ (p.op nid).chg, (p.op nid).nid⟩

def opRun (R : Runs) : BM → (Nat → Option LB) → COut
  | .pure r, lh => .ok (r.res lh)
  | .get b k, lh => match lh b with | some x => opRun R (k x) lh | none => .stuck
  | .call nid f args, lh => R.call lh nid f args
  | .pan nid d, lh => .pan d ⟨.undef, lh, nid⟩
  | .fail, _ => .stuck

def opRunD (R : Runs) : BM → (Nat → Option LB) → Option (OpR × List Nat)
  | .pure r, _ => some (r, [])
  | .get b k, lh => match lh b with | some x => (opRunD R (k x) lh).map fun p => (p.1, b :: p.2) | none => none
  | .call nid f args, lh => match args.mapM (frz lh 8) with
    | some ds => (R.pure f ds).map fun p => (pureRes lh nid args p, args.flatMap (reach lh 8))
    | none => none
  | _, _ => none

def regT (R : Runs) (P : Program) (ops : Array Oper) : List Oper → St → Out
  | [], σ => .fin .normal σ
  | o :: rest, σ => match guardA ops σ.env o with
    | some true => match dfrOf σ.eval o.op with
      | some d => regT R P ops rest { σ with env := putE σ.env o.dst .undef, dfs := d :: σ.dfs }
      | none => match opRun R (opB P σ.nid σ.eval o.op) σ.lh with
        | .ok r => regT R P ops rest (σ.app o.dst r)
        | .pan d r => .pan d { σ with lh := r.lh, nid := r.nid }
        | .stuck => .stuck
    | some false => regT R P ops rest { σ with env := putE σ.env o.dst (.d (.tup [])) }
    | none => .stuck

def regD (R : Runs) (P : Program) (ops : Array Oper) (n0 : Nat) : List Oper → Nat → St → Option (St × List TE)
  | [], _, σ => some (σ, [])
  | o :: rest, i, σ => match guardA ops σ.env o with
    | some true => match opRunD R (opB P (n0 + i) σ.eval o.op) σ.lh with
      | some (r, rs) => if r.nid ≤ n0 + i + 1 then
          (regD R P ops n0 rest (i + 1) { env := putE σ.env o.dst r.v, lh := applyChg σ.lh r.chg, nid := σ.nid, dfs := σ.dfs }).map fun p => (p.1, ⟨rs, r.chg.map (·.1)⟩ :: p.2) else none
      | none => none
    | some false => (regD R P ops n0 rest (i + 1) { σ with env := putE σ.env o.dst (.d (.tup [])) }).map fun p => (p.1, te0 :: p.2)
    | none => none

/-- The operation that gives up, the first one in the order of the text. -/
def findP (R : Runs) (P : Program) (ops : Array Oper) (n0 : Nat) : List Oper → Nat → St → Option (Nat × DV)
  | [], _, _ => none
  | o :: rest, i, σ => match guardA ops σ.env o with
    | some true => match opRunD R (opB P (n0 + i) σ.eval o.op) σ.lh with
      | some (r, _) => findP R P ops n0 rest (i + 1) { env := putE σ.env o.dst r.v, lh := applyChg σ.lh r.chg, nid := σ.nid, dfs := σ.dfs }
      | none => match opB P (n0 + i) σ.eval o.op with
        | .call _ f args => match args.mapM (frz σ.lh 8) with
          | some ds => (R.pan f ds).map fun d => (i, d)
          | none => none
        | _ => none
    | some false => findP R P ops n0 rest (i + 1) { σ with env := putE σ.env o.dst (.d (.tup [])) }
    | none => none

def skipsOf (ops : Array Oper) (p : Nat) : List Nat :=
  ops.toList.zipIdx.foldl (fun D (q : Oper × Nat) => if (q.2 != p && (direct q.1 p || D.any (direct q.1))) = true then q.2 :: D else D) []

def regDP (R : Runs) (P : Program) (ops : Array Oper) (n0 p : Nat) (d : DV) (D : List Nat) : List Oper → Nat → St → Option (List TE)
  | [], _, _ => some []
  | o :: rest, i, σ =>
    if D.contains i = true then (regDP R P ops n0 p d D rest (i + 1) σ).map fun tr => te0 :: tr
    else if i = p then match guardA ops σ.env o, opB P (n0 + i) σ.eval o.op with
      | some true, .call nid f args => if nid = n0 + i then match args.mapM (frz σ.lh 8) with
        | some ds => match R.pan f ds with
          | some d' => if scalarD d = true ∧ scalarEq d d' = true then (regDP R P ops n0 p d D rest (i + 1) { σ with env := putE σ.env o.dst .undef }).map fun tr => ⟨args.flatMap (reach σ.lh 8), []⟩ :: tr else none
          | none => none
        | none => none else none
      | _, _ => none
    else match guardA ops σ.env o with
      | some true => match opRunD R (opB P (n0 + i) σ.eval o.op) σ.lh with
        | some (r, rs) => if r.nid ≤ n0 + i + 1 then
            (regDP R P ops n0 p d D rest (i + 1) { env := putE σ.env o.dst r.v, lh := applyChg σ.lh r.chg, nid := σ.nid, dfs := σ.dfs }).map fun tr => ⟨rs, r.chg.map (·.1)⟩ :: tr else none
        | none => none
      | some false => (regDP R P ops n0 p d D rest (i + 1) { σ with env := putE σ.env o.dst (.d (.tup [])) }).map fun tr => te0 :: tr
      | none => none

def indepB (x y : TE) : Bool := (y.writes.all fun b => !x.reads.contains b && !x.writes.contains b) && x.writes.all fun b => !y.reads.contains b

def iter (body : St → Out) : Nat → St → Out
  | 0, _ => .stuck
  | n + 1, σ => match body σ with
    | .fin .normal σ' => iter body n σ'
    | o => o

def exec (R : Runs) (P : Program) (lb : Nat) : Code → St → Out
  | .skip, σ | .label _, σ => .fin .normal σ
  | .region _ ops false, σ => regT R P ops ops.toList σ
  | .region _ ops true, σ => match regD R P ops σ.nid ops.toList 0 σ with
    | some (σ', tr) => if ((loose ops).all fun p => indepB (tr.getD p.1 te0) (tr.getD p.2 te0)) = true then .fin .normal { σ' with nid := σ.nid + ops.size } else .stuck
    | none => match findP R P ops σ.nid ops.toList 0 σ with
      | some (p, d) => if skipOk ops p (skipsOf ops p) = true then
          match regDP R P ops σ.nid p d (skipsOf ops p) ops.toList 0 σ with
          | some tr => if ((loose ops).all fun p => indepB (tr.getD p.1 te0) (tr.getD p.2 te0)) = true then .pan d (dropped σ (ops.toList.filterMap (·.dst)) (tr.flatMap (·.writes)) (σ.nid + ops.size)) else .stuck
          | none => .stuck
        else .stuck
      | none => .stuck
  | .seq a b, σ => match exec R P lb a σ with
    | .fin .normal σ' => exec R P lb b σ'
    | o => o
  | .cond c a b, σ => match σ.eval c with
    | .d (.bool true) => exec R P lb a σ
    | .d (.bool false) => exec R P lb b σ
    | _ => .stuck
  | .block id c, σ => match exec R P lb c σ with
    | .fin (.exit id') σ' => if id' = id then .fin .normal σ' else .fin (.exit id') σ'
    | o => o
  | .loop c, σ => iter (exec R P lb c) lb σ
  | .scope c, σ => match exec R P lb c σ with
    | .fin (.goto _) _ => .stuck
    | o => o
  | .exit id, σ => .fin (.exit id) σ
  | .ret, σ => .fin .ret σ
  | _, _ => .stuck

/-- The same for deferred calls. -/
inductive OutS where
  | fin (e : Exit) (σ : St) (pn : Option DV)
  | stuck

def regTS (R : Runs) (P : Program) (ops : Array Oper) : List Oper → St → Option DV → OutS
  | [], σ, pn => .fin .normal σ pn
  | o :: rest, σ, pn => match guardA ops σ.env o with
    | some true => if isRecover o.op = true then regTS R P ops rest { σ with env := putE σ.env o.dst (.d (match pn with | some d => d | none => .inil)) } none
        else match opRun R (opB P σ.nid σ.eval o.op) σ.lh with
          | .ok r => regTS R P ops rest (σ.app o.dst r) pn
          | _ => .stuck
    | some false => regTS R P ops rest { σ with env := putE σ.env o.dst (.d (.tup [])) } pn
    | none => .stuck

def Out.withPn (o : Out) (pn : Option DV) : OutS := match o with | .fin e σ => .fin e σ pn | _ => .stuck

def execS (R : Runs) (P : Program) (lb : Nat) : Code → St → Option DV → OutS
  | .seq a b, σ, pn => match execS R P lb a σ pn with
    | .fin .normal σ' pn' => execS R P lb b σ' pn'
    | o => o
  | .cond c a b, σ, pn => match σ.eval c with
    | .d (.bool true) => execS R P lb a σ pn
    | .d (.bool false) => execS R P lb b σ pn
    | _ => .stuck
  | .region id ops d, σ, pn => if hasRec (.region id ops d) = true then (if d = false then regTS R P ops ops.toList σ pn else .stuck) else (exec R P lb (.region id ops d) σ).withPn pn
  | c, σ, pn => (exec R P lb c σ).withPn pn

inductive BOut where
  | ret (v : AV) (σ : St)
  | pan (d : DV) (σ : St)
  | stuck

def fnOk (P : Program) (f : FuncId) (nargs : Nat) : Option (Code × Array ResultVar × Nat) :=
  match P.funcs[f]? with
  | some fn => match fn.body with
    | some code => if enterOk P f = true ∧ codeOk fn.ntmps code = true ∧ nargs ≤ fn.ntmps then some (code, fn.results, fn.ntmps) else none
    | none => none
  | none => none

def leave (R : Runs) (P : Program) (lb : Nat) (rs : List ResultVar) : List (FuncId × List AV) → Option DV → St → BOut
  | [], none, σ => match resA P rs σ with | some v => .ret v σ | none => .stuck
  | [], some d, σ => .pan d σ
  | (f, args) :: ds, pn, σ => match fnOk P f args.length with
    | some (code, rs', n) => match execS R P lb code ⟨envA args, σ.lh, σ.nid, []⟩ pn with
      | .fin .normal σ' pn' | .fin .ret σ' pn' => match σ'.dfs, resA P rs'.toList σ' with
        | [], some _ => leave R P lb rs ds pn' { σ with lh := σ'.lh, nid := σ'.nid }
        | _, _ => .stuck
      | _ => .stuck
    | none => .stuck

def bodyRun (R : Runs) (P : Program) (lb : Nat) (code : Code) (rs : List ResultVar) (σ : St) : BOut :=
  match exec R P lb code σ with
  | .fin .normal σ' | .fin .ret σ' => leave R P lb rs σ'.dfs none σ'
  | .pan d σ' => leave R P lb rs σ'.dfs (some d) σ'
  | _ => .stuck

def retOf (v : AV) (σ : St) : Option Ret :=
  match v with
  | .slc b es 0 len => match σ.lh b with
    | some k => if k.live = true ∧ (k.els.flatMap (reach σ.lh 7)).contains b = false then (k.els.mapM (frz σ.lh 7)).map fun ds => ⟨.slc 0 es 0 len, [{ k with els := ds.map .d }]⟩ else none
    | none => none
  | v => (frz σ.lh 8 v).map fun d => ⟨.d d, []⟩

/-- What is known of functions without being run. -/
abbrev Prims := FuncId → Option (List DV → Option Ret)

def runs (P : Program) (prim : Prims) (lb : Nat) : Nat → Runs
  | 0 => ⟨fun _ _ _ _ => .stuck, fun _ _ => none, fun _ _ => none⟩
  | n + 1 =>
    { call := fun lh nid f args => match prim f with
        | some g => match args.mapM (frz lh 8) with
          | some ds => match g ds with
            | some p => .ok ((pureRes lh nid args p).res lh)
            | none => .stuck
          | none => .stuck
        | none => match fnOk P f args.length with
          | some (code, rs, _) => match bodyRun (runs P prim lb n) P lb code rs.toList ⟨envA args, lh, nid, []⟩ with
            | .ret v σ => .ok ⟨v, σ.lh, σ.nid⟩
            | .pan d σ => .pan d ⟨.undef, σ.lh, σ.nid⟩
            | .stuck => .stuck
          | none => .stuck
      pure := fun f ds => match prim f with
        | some g => g ds
        | none => match fnOk P f ds.length with
          | some (code, rs, _) => match bodyRun (runs P prim lb n) P lb code rs.toList (st0 ds) with
            | .ret v σ => retOf v σ
            | _ => none
          | none => none
      pan := fun f ds => match prim f with
        | some _ => none
        | none => match fnOk P f ds.length with
          | some (code, rs, _) => match bodyRun (runs P prim lb n) P lb code rs.toList (st0 ds) with
            | .pan d σ => some d
            | _ => none
          | none => none }
end Go.Proofs.Am
