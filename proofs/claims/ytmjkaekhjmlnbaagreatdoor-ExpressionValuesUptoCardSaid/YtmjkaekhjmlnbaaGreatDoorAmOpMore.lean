/- All operations, continued. -/
import Derived.Test.YtmjkaekhjmlnbaaGreatDoorAmOpAll
set_option linter.unusedVariables false
set_option linter.unusedSimpArgs false
namespace Go.Proofs.Am
open Go Go.RowKit

section
variable {P : Program} {gs : List Nat} {c : Ctx} {A : Nat → Prop} {ρ : Nat → Option BR} {σ : St} {a : Act} {w : World}

theorem allD_rep : ∀ {l : List AV} {ds : List DV}, allD l = some ds → l = ds.map .d
  | [], ds, h => by simp only [allD, Option.some.injEq] at h; subst h; rfl
  | .d v :: r, ds, h => by
    simp only [allD, Option.map_eq_some_iff] at h
    obtain ⟨ds', h1, rfl⟩ := h
    rw [allD_rep h1]; rfl
  | .loc .. :: r, ds, h => by simp [allD] at h
  | .slc .. :: r, ds, h => by simp [allD] at h
  | .agg .. :: r, ds, h => by simp [allD] at h
  | .tup .. :: r, ds, h => by simp [allD] at h
  | .fn .. :: r, ds, h => by simp [allD] at h
  | .iface .. :: r, ds, h => by simp [allD] at h
  | .undef :: r, ds, h => by simp [allD] at h

theorem evals_get (hS : Sim c A ρ σ a w) (caps : Array Operand) (i : Nat) (h : i < caps.size) : ARep w A ρ ((caps.toList.map σ.eval).getD i .undef) ((caps.map a.eval).getD i undef) := by
  have e1 : (caps.toList.map σ.eval).getD i .undef = σ.eval caps[i] := by simp [List.getD, h]
  have e2 : (caps.map a.eval).getD i undef = a.eval caps[i] := by simp [Array.getD, h]
  rw [e1, e2]; exact eval_rep hS _

theorem op_makeFunc (hc : CtxOk gs c) (hS : Sim c A ρ σ a w) {o : Oper} (hd : ∀ d, o.dst = some d → d < c.n) (f : FuncId) (first caps : Array Operand) (hop : o.op = .makeFunc (.func f) first caps) : OpGoal P gs c A ρ σ a w o := by
  intro tx K KP next Q h hfr hF hn hp
  simp only [hop, opB] at h
  have hex : execOp a.eval o = (do pure (.value (← Instr.makeFunc (.func f) (first.map a.eval) (caps.map a.eval)))) := by
    rw [op_eq hop]; simp only [execOp]
  split at h
  · rename_i h0
    have hf : first.map a.eval = #[] := by
      apply Array.ext (by simp [h0])
      intro i h1 h2; simp at h2
    have hrun : (Instr.makeFunc (.func f) (first.map a.eval) (caps.map a.eval)).run P w = .ok (.func (.func f) #[] (caps.map a.eval)) w := by rw [hf]; rfl
    split at h
    · rename_i ds hds
      have e := allD_rep hds
      have hl : ds.length = caps.size := by have := congrArg List.length e; simp at this; exact this.symm
      refine wp_val hS hd hex ⟨_, hrun, .d _ _ (.fn f ds _ (by simp [hl]) (fun i hi => ?_))⟩ h hn
      have := evals_get hS caps i (by omega)
      rw [e, getD_map_d _ _ hi] at this
      exact this.ofD
    · refine wp_val hS hd hex ⟨_, hrun, .fn f _ _ (by simp) (fun i hi => ?_)⟩ h hn
      exact evals_get hS caps i (by simpa using hi)
  · exact h.elim

theorem op_makeSlice (hc : CtxOk gs c) (hS : Sim c A ρ σ a w) {o : Oper} (hd : ∀ d, o.dst = some d → d < c.n) (t : TypeId) (l cc : Operand) (hop : o.op = .makeSlice t l cc) : OpGoal P gs c A ρ σ a w o := by
  intro tx K KP next Q h hfr hF hn hp
  simp only [hop, opB] at h
  have hex : execOp a.eval o = (do pure (.value (← Instr.makeSlice t (a.eval l) (a.eval cc)))) := by
    rw [op_eq hop]; simp only [execOp]
  split at h
  · rename_i e n m hu hl hm
    obtain ⟨ti, ht, h⟩ := ofO_inv h
    split at h
    · rename_i hc2
      obtain ⟨h1, h2, h3, h4⟩ := hc2
      have r1 := eval_rep hS l
      have r2 := eval_rep hS cc
      rw [hl] at r1; rw [hm] at r2
      have r1 := r1.ofD
      have r2 := r2.ofD
      have hy := makeSlice_sound (P := P) hS (hfr _ h 0 (by simp [OpR.res])) hu ht h1 h2 h3 h4
      generalize a.eval l = lv at r1 hex
      generalize a.eval cc = cv at r2 hex
      cases r1; cases r2
      exact wp_yields hd hex hy (fun x A' ρ' w' q hh => hn _ x A' ρ' w' h q hh)
    · exact h.elim
  · exact h.elim

theorem op_slice (hc : CtxOk gs c) (hS : Sim c A ρ σ a w) {o : Oper} (hd : ∀ d, o.dst = some d → d < c.n) (t : TypeId) (x : Operand) (lo hi : Option Operand) (hop : o.op = .slice t x lo hi none) : OpGoal P gs c A ρ σ a w o := by
  intro tx K KP next Q h hfr hF hn hp
  simp only [hop, opB] at h
  obtain ⟨v, hv, h⟩ := ofO_inv h
  have hex : execOp a.eval o = (do pure (.value (← Instr.sliceAt t (a.eval x) (lo.map a.eval) (hi.map a.eval) none))) := by
    rw [op_eq hop]; simp only [execOp, Option.map_none]
  exact wp_val hS hd hex (sliceA_sound (P := P) (eval_rep hS x) (opt_rep hS lo) (opt_rep hS hi) hv) h hn

theorem op_fieldAddr (hc : CtxOk gs c) (hS : Sim c A ρ σ a w) {o : Oper} (hd : ∀ d, o.dst = some d → d < c.n) (s : TypeId) (x : Operand) (f : Nat) (hop : o.op = .fieldAddr s x f) : OpGoal P gs c A ρ σ a w o := by
  intro tx K KP next Q h hfr hF hn hp
  simp only [hop, opB] at h
  obtain ⟨v, hv, h⟩ := ofO_inv h
  exact wp_val hS hd (s := Instr.fieldAt s (a.eval x) f) (by rw [op_eq hop]; simp only [execOp]) (fieldAddr_sound (P := P) (eval_rep hS x) hv) h hn

theorem op_indexAddr (hc : CtxOk gs c) (hS : Sim c A ρ σ a w) {o : Oper} (hd : ∀ d, o.dst = some d → d < c.n) (t : TypeId) (x i : Operand) (hop : o.op = .indexAddr t x i) : OpGoal P gs c A ρ σ a w o := by
  intro tx K KP next Q h hfr hF hn hp
  simp only [hop, opB] at h
  obtain ⟨v, hv, h⟩ := ofO_inv h
  exact wp_val hS hd (s := Instr.indexAt t (a.eval x) (a.eval i)) (by rw [op_eq hop]; simp only [execOp]) (indexAddr_sound (P := P) (eval_rep hS x) (eval_rep hS i) hv) h hn

theorem op_index (hc : CtxOk gs c) (hS : Sim c A ρ σ a w) {o : Oper} (hd : ∀ d, o.dst = some d → d < c.n) (t : TypeId) (x i : Operand) (hop : o.op = .index t x i) : OpGoal P gs c A ρ σ a w o := by
  intro tx K KP next Q h hfr hF hn hp
  simp only [hop, opB] at h
  have hex : execOp a.eval o = (do pure (.value (← Instr.index t (a.eval x) (a.eval i)))) := by rw [op_eq hop]; simp only [execOp]
  split at h
  · rename_i s k n hu hx hi
    have r1 := eval_rep hS x
    have r2 := eval_rep hS i
    rw [hx] at r1; rw [hi] at r2
    have r1 := r1.ofD
    have r2 := r2.ofD
    split at h
    · rename_i hb
      generalize a.eval x = xv at r1 hex
      generalize a.eval i = iv at r2 hex
      cases r1; cases r2
      have hlt : n.toNat < s.size := by omega
      refine wp_val hS hd hex ⟨.int .u8 (s.data.toList.getD n.toNat 0).toNat, ?_, .d _ _ (.int _ _)⟩ h hn
      have e : s[n.toNat]? = some (s.data.toList.getD n.toNat 0) := by
        have hl : n.toNat < s.data.toList.length := by simpa using hlt
        have : s.data.toList.getD n.toNat 0 = s[n.toNat] := by simp [List.getD, List.getElem?_eq_getElem hl]; rfl
        rw [this]; simp [hlt]
      simp [Instr.index, asIntOf, run_underlying hu, hb.1, e]
    · exact h.elim
  · exact h.elim

theorem op_extract (hc : CtxOk gs c) (hS : Sim c A ρ σ a w) {o : Oper} (hd : ∀ d, o.dst = some d → d < c.n) (x : Operand) (i : Nat) (hop : o.op = .extract x i) : OpGoal P gs c A ρ σ a w o := by
  intro tx K KP next Q h hfr hF hn hp
  simp only [hop, opB] at h
  have hex : execOp a.eval o = (do pure (.value (← Instr.extract (a.eval x) i))) := by rw [op_eq hop]; simp only [execOp]
  have r1 := eval_rep hS x
  split at h
  · rename_i vs hx
    rw [hx] at r1
    obtain ⟨v, hv, h⟩ := ofO_inv h
    generalize a.eval x = xv at r1 hex
    cases r1 with
    | tup _ xs hl hh =>
      obtain ⟨hi, e⟩ := List.getElem?_eq_some_iff.1 hv
      refine wp_val hS hd hex ⟨xs.getD i undef, ?_, ?_⟩ h hn
      · have : i < xs.size := by omega
        simp [Instr.extract, Array.getD, this]
      · have := hh i hi
        have e2 : vs.getD i .undef = v := by simp [List.getD, hv]
        rw [e2] at this; exact this
  · rename_i vs hx
    rw [hx] at r1
    have r1 := r1.ofD
    obtain ⟨v, hv, h⟩ := ofO_inv h
    generalize a.eval x = xv at r1 hex
    cases r1 with
    | tup _ xs hl hh =>
      obtain ⟨hi, e⟩ := List.getElem?_eq_some_iff.1 hv
      refine wp_val hS hd hex ⟨xs.getD i undef, ?_, ?_⟩ h hn
      · have : i < xs.size := by omega
        simp [Instr.extract, Array.getD, this]
      · have := hh i hi
        have e2 : vs.getD i .inil = v := by simp [List.getD, hv]
        rw [e2] at this; exact .d _ _ this
  · exact h.elim

theorem op_len (hc : CtxOk gs c) (hS : Sim c A ρ σ a w) {o : Oper} (hd : ∀ d, o.dst = some d → d < c.n) (args : Array Operand) (ts : Array TypeId) (hop : o.op = .call { callee := .builtin .len, args, argTypes := ts }) : OpGoal P gs c A ρ σ a w o := by
  intro tx K KP next Q h hfr hF hn hp
  simp only [hop, opB] at h
  split at h
  · rename_i hsz
    obtain ⟨v, hv, h⟩ := ofO_inv h
    have e1 := one_arg (.tmp 0) hsz.1
    have e2 := one_arg (0 : TypeId) hsz.2
    have hex : execOp a.eval o = (do pure (.value (← Builtin.len_ #[ts.getD 0 0] o.type #[a.eval (args.getD 0 (.tmp 0))]))) := by
      rw [op_eq hop]
      simp only [execOp, resolve, invoke, builtin, pure_bind]
      rw [e1, e2]
      simp
    obtain ⟨y, hy, hyd⟩ := len_sound (P := P) (t := ts.getD 0 0) (ty := o.type) (eval_rep hS (args.getD 0 (.tmp 0))) hv
    exact wp_val hS hd hex ⟨y, hy, .d _ _ hyd⟩ h hn
  · exact h.elim

theorem op_append (hc : CtxOk gs c) (hS : Sim c A ρ σ a w) {o : Oper} (hd : ∀ d, o.dst = some d → d < c.n) (args : Array Operand) (ts : Array TypeId) (hop : o.op = .call { callee := .builtin .append, args, argTypes := ts }) : OpGoal P gs c A ρ σ a w o := by
  intro tx K KP next Q h hfr hF hn hp
  simp only [hop, opB] at h
  split at h
  · rename_i hsz
    have e1 := two_args (.tmp 0) hsz.1
    have e2 := two_args (0 : TypeId) hsz.2
    split at h
    · rename_i e e' hu hu'
      obtain ⟨ti, ht, h⟩ := ofO_inv h
      have hex : execOp a.eval o = (do pure (.value (← Builtin.append_ #[ts.getD 0 0, ts.getD 1 0] o.type #[a.eval (args.getD 0 (.tmp 0)), a.eval (args.getD 1 (.tmp 0))]))) := by
        rw [op_eq hop]
        simp only [execOp, resolve, invoke, builtin, pure_bind]
        rw [e1, e2]
        simp
      obtain ⟨r, hK, hy⟩ := appendB_sound (P := P) (ty := o.type) hS hfr hu hu' ht (eval_rep hS (args.getD 0 (.tmp 0))) (eval_rep hS (args.getD 1 (.tmp 0))) h
      exact wp_yields hd hex hy (fun x A' ρ' w' q hh => hn _ x A' ρ' w' hK q hh)
    · exact h.elim
  · exact h.elim

theorem run_callFunc {f : FuncId} (h : enterOk P f = true) (args : Array Value) (w : World) : (callFunc f args).run P w = .ok (.enter f args) w := by
  unfold enterOk at h
  cases hf : P.funcs[f]? with
  | none => simp [hf] at h
  | some fn =>
    simp only [hf, Bool.and_eq_true, Bool.not_eq_true', beq_eq_false_iff_ne] at h
    obtain ⟨h1, h2⟩ := h
    have h3 : fn.body.isNone = false := by cases hb : fn.body <;> simp_all
    have h4 : fn.body ≠ none := fun e => by simp [e] at h2
    simp [callFunc, hf, h1, h4]

theorem op_call (hc : CtxOk gs c) (hS : Sim c A ρ σ a w) {o : Oper} (hd : ∀ d, o.dst = some d → d < c.n) (fv : Operand) (args : Array Operand) (ts : Array TypeId) (hop : o.op = .call { callee := .value fv, args, argTypes := ts }) : OpGoal P gs c A ρ σ a w o := by
  intro tx K KP next Q h hfr hF hn hp
  simp only [hop, opB] at h
  have r1 := eval_rep hS fv
  have go : ∀ (f : FuncId) (caps : Array Value) (capsA : List AV), a.eval fv = .func (.func f) #[] caps → caps.size = capsA.length → (∀ i, i < capsA.length → ARep w A ρ (capsA.getD i .undef) (caps.getD i undef)) →
      wpB (calls P gs) tx (.call σ.nid f (args.toList.map σ.eval ++ capsA)) σ.lh K KP → o.wp P a w next Q := fun f caps capsA hev hcl hcr h => by
    obtain ⟨l1, l2⟩ := args_rep (vs := args) hS hcl hcr
    obtain ⟨hent, hcalls⟩ := call_sound (P := P) hc hS l1 l2 hd (K := K) (KP := KP) h (next := next) (Q := Q) hfr hF hn hp
    unfold Oper.wp
    have hex : (execOp a.eval o).run P w = .ok (.enter f (args.map a.eval ++ caps)) w := by
      rw [op_eq hop]
      simp only [execOp, resolve, hev, Deferred.ofValue, pure_bind, invoke]
      rw [Array.empty_append]
      exact run_callFunc hent _ w
    rw [hex, Oper.upon_enter]
    refine hcalls.mono fun e w' he => ?_
    cases e <;> exact he
  split at h
  · rename_i f caps hev
    rw [hev] at r1
    have r1 := r1.ofD
    generalize hv : a.eval fv = v at r1
    cases r1 with
    | fn _ _ vals hl hh =>
      refine go f vals (caps.map .d) hv (by simpa using hl) (fun i hi => ?_) h
      have hi' : i < caps.length := by simpa using hi
      rw [getD_map_d _ _ hi']; exact .d _ _ (hh i hi')
  · rename_i f caps hev
    rw [hev] at r1
    generalize hv : a.eval fv = v at r1
    cases r1 with
    | fn _ _ vals hl hh => exact go f vals caps hv hl hh h
  · exact h.elim

theorem op_typeAssert (hc : CtxOk gs c) (hS : Sim c A ρ σ a w) {o : Oper} (hd : ∀ d, o.dst = some d → d < c.n) (x : Operand) (xt t : TypeId) (ok : Bool) (hop : o.op = .typeAssert x xt t ok) : OpGoal P gs c A ρ σ a w o := by
  intro tx K KP next Q h hfr hF hn hp
  simp only [hop, opB] at h
  have hex : execOp a.eval o = (do pure (.value (← Instr.typeAssert (a.eval x) xt t ok))) := by rw [op_eq hop]; simp only [execOp]
  have r1 := eval_rep hS x
  split at h
  · exact h.elim
  · rename_i ud u d hni hu hx
    rw [hx] at r1
    have r1 := r1.ofD
    obtain ⟨ti, ht, hq⟩ := ofO_inv h
    obtain ⟨ii, u2, z, hii, hu2, hz, hzd, hsz, _, _, hzl⟩ := tinfo_parts ht
    generalize a.eval x = xv at r1 hex
    cases r1 with
    | iface _ _ y hy =>
      have two : ∀ (d1 d2 : DV) (v1 v2 : Value), DRep w A d1 v1 → DRep w A d2 v2 → DRep w A (.tup [d1, d2]) (.tuple #[v1, v2]) := fun d1 d2 v1 v2 q1 q2 =>
        .tup _ _ rfl (fun i hi => by
          have : i = 0 ∨ i = 1 := by simp at hi; omega
          rcases this with rfl | rfl
          · exact q1
          · exact q2)
      split at hq
      · rename_i hut
        subst hut
        refine wp_val hS hd hex (v := .d (if ok then .tup [d, .bool true] else d)) ⟨if ok then .tuple #[y, .bool true] else y, ?_, ?_⟩ hq hn
        · cases ud <;> first | exact absurd rfl (hni _) | (cases ok <;> simp [Instr.typeAssert, run_underlying hu])
        · cases ok
          · exact .d _ _ hy
          · exact .d _ _ (two _ _ _ _ hy (.bool true))
      · rename_i hut
        split at hq
        · rename_i hok
          subst hok
          refine wp_val hS hd hex ⟨.tuple #[z, .bool false], ?_, .d _ _ (two _ _ _ _ (zeroD_rep hzd w A) (.bool false))⟩ hq hn
          cases ud <;> first | exact absurd rfl (hni _) | simp [Instr.typeAssert, run_underlying hu, hut, zeroValue, run_typeInfo' hii, hz]
        · exact hq.elim
  · exact h.elim
end
end Go.Proofs.Am
