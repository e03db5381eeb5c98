/- Regions in the order of the text. -/
import Derived.Test.YtmjkaekhjmlnbaaGreatDoorAmOpX
import Derived.Tactics
set_option linter.unusedVariables false
set_option linter.unusedSimpArgs false
namespace Go.Proofs.Am
open Go Go.RowKit

/-- Is an operation to be carried out? -/
def guardA (ops : Array Oper) (env : Nat → AV) (o : Oper) : Option Bool :=
  match o.guard with
  | none => some true
  | some (j, want) => match (ops[j]?).bind (·.dst) with
    | none => none
    | some d => match env d with
      | .d (.bool b) => some (b == want)
      | .d (.tup []) => some false
      | _ => none

def dstOk (n : Nat) (o : Oper) : Bool := match o.dst with | some d => decide (d < n) | none => true

/-- A call that is put off. -/
def dfrOf (ev : Operand → AV) : Op → Option (FuncId × List AV)
  | .defer { callee := .value fv, args, .. } => match ev fv with
    | .d (.fn f caps) => some (f, args.toList.map ev ++ caps.map .d)
    | .fn f caps => some (f, args.toList.map ev ++ caps)
    | _ => none
  | _ => none

/-- The walk through operations, in the order of the text. -/
def wpT (E : CallE) (P : Program) (ops : Array Oper) : List Oper → St → (St → Prop) → (DV → St → Prop) → Prop
  | [], σ, K, _ => K σ
  | o :: rest, σ, K, KP => match guardA ops σ.env o with
    | some true => match dfrOf σ.eval o.op with
      | some d => wpT E P ops rest { σ with env := putE σ.env o.dst .undef, dfs := d :: σ.dfs } K KP
      | none => wpB E true (opB P σ.nid σ.eval o.op) σ.lh (fun r => wpT E P ops rest (σ.app o.dst r) K KP) (fun d r => KP d { σ with lh := r.lh, nid := r.nid })
    | some false => wpT E P ops rest { σ with env := putE σ.env o.dst (.d (.tup [])) } K KP
    | none => False

section
variable {P : Program} {gs : List Nat} {c : Ctx} {A : Nat → Prop} {ρ : Nat → Option BR} {σ : St} {a : Act} {w : World}

theorem guard_sound (hS : Sim c A ρ σ a w) {ops : Array Oper} {o : Oper} {g : Bool} (h : guardA ops σ.env o = some g) : Region.wanted o (yielded ops a.tmps) = g := by
  unfold guardA at h
  unfold Region.wanted
  split at h
  · rename_i hg; rw [hg]; simpa using h
  · rename_i j want hg
    rw [hg]
    split at h
    · cases h
    · rename_i d hd
      have hr := hS.env d
      have key : ∀ v, a.tmps.getD d undef = v → v ≠ undef → yielded ops a.tmps j = match v with | .bool b => some b | _ => none := fun v hv hne => by
        have hlt : d < a.tmps.size := by
          rcases Nat.lt_or_ge d a.tmps.size with h | h
          · exact h
          · exfalso; apply hne; rw [← hv, Array.getD, dif_neg (by omega)]
        have : a.tmps[d]? = some v := by rw [← hv]; simp [Array.getD, hlt]
        simp only [yielded, hd, Option.bind_some, this]
        cases v <;> rfl
      split at h
      · rename_i b he
        rw [he] at hr
        have hr := hr.ofD
        generalize hv : a.tmps.getD d undef = v at hr
        cases hr
        simp only
        rw [key _ hv (by simp [undef])]
        cases h
        simp
      · rename_i he
        rw [he] at hr
        have hr := hr.ofD
        generalize hv : a.tmps.getD d undef = v at hr
        cases hr with
        | tup _ vs hl hh =>
          have hv0 : vs = #[] := by apply Array.ext (by simpa using hl); intro i h1 h2; simp at h2
          subst hv0
          cases h
          simp only
          have : yielded ops a.tmps j = none := by
            simp only [yielded, hd, Option.bind_some]
            rcases Nat.lt_or_ge d a.tmps.size with h | h
            · have : a.tmps[d]? = some (.tuple #[]) := by rw [← hv]; simp [Array.getD, h]
              rw [this]
            · simp [Array.getElem?_eq_none h]
          rw [this]; rfl
      · cases h

/-- The end of a walk stands for the end of the model's. -/
def QC (c : Ctx) (Q : Exit → St → Prop) (QP : DV → St → Prop) : Exit → Act → World → Prop
  | .panic chain, a, w => ∃ d x σ A ρ, chain = [{ v := x, recovered := false }] ∧ QP d σ ∧ Sim c A ρ σ a w ∧ DRep w A d x ∧ Fr c ρ σ.nid
  | e, a, w => ∃ σ A ρ, Q e σ ∧ Sim c A ρ σ a w ∧ Fr c ρ σ.nid

theorem dfr_sound (hS : Sim c A ρ σ a w) {o : Oper} (hd : ∀ d, o.dst = some d → d < c.n) {d : FuncId × List AV} (h : dfrOf σ.eval o.op = some d) {next : Act → World → Prop} {Q : Exit → Act → World → Prop}
    (hn : ∀ a', Sim c A ρ { σ with env := putE σ.env o.dst .undef, dfs := d :: σ.dfs } a' w → next a' w) : o.wp P a w next Q := by
  cases hop : o.op with
  | «defer» cl =>
    obtain ⟨callee, args, ts⟩ := cl
    rw [hop] at h
    cases callee with
    | value fv =>
      have go : ∀ (f : FuncId) (caps : Array Value) (capsA : List AV), a.eval fv = .func (.func f) #[] caps → caps.size = capsA.length → (∀ i, i < capsA.length → ARep w A ρ (capsA.getD i .undef) (caps.getD i undef)) →
          d = (f, args.toList.map σ.eval ++ capsA) → o.wp P a w next Q := fun f caps capsA hev hcl hcr hde => by
        obtain ⟨l1, l2⟩ := args_rep (vs := args) hS hcl hcr
        unfold Oper.wp
        have hex : (execOp a.eval o).run P w = .ok (.defer { target := .fn (.func f) caps, args := args.map a.eval }) w := by
          rw [op_eq hop]
          simp only [execOp, resolve, hev, Deferred.ofValue, pure_bind]
          rw [Array.empty_append]; rfl
        rw [hex, Oper.upon_defer]
        refine hn _ ?_
        have hS' : Sim c A ρ { σ with dfs := d :: σ.dfs } { a with defers := { target := .fn (.func f) caps, args := args.map a.eval } :: a.defers } w := { hS with defers := by subst hde; exact .cons f _ _ caps _ _ ⟨l1, l2⟩ hS.defers }
        exact hS'.put (.un undef) o.dst hd
      have r1 := eval_rep hS fv
      simp only [dfrOf] at h
      split at h
      · rename_i f caps hev
        rw [hev] at r1
        have r1 := r1.ofD
        generalize hv : a.eval fv = v at r1
        cases r1 with
        | fn _ _ vals hl hh =>
          refine go f vals (caps.map .d) hv (by simpa using hl) (fun i hi => ?_) (by simpa using h.symm)
          have hi' : i < caps.length := by simpa using hi
          rw [getD_map_d _ _ hi']; exact .d _ _ (hh i hi')
      · rename_i f caps hev
        rw [hev] at r1
        generalize hv : a.eval fv = v at r1
        cases r1 with
        | fn _ _ vals hl hh => exact go f vals caps hv hl hh (by simpa using h.symm)
      · cases h
    | _ => simp [dfrOf] at h
  | _ => rw [hop] at h; simp [dfrOf] at h

theorem wpT_sound (hc : CtxOk gs c) {ops : Array Oper} {Q : Exit → St → Prop} {QP : DV → St → Prop} : ∀ (l : List Oper) (σ : St) (A : Nat → Prop) (ρ : Nat → Option BR) (a : Act) (w : World), (∀ o ∈ l, dstOk c.n o = true) →
    wpT (calls P gs) P ops l σ (Q .normal) QP → Sim c A ρ σ a w → Fr c ρ σ.nid → wpList P ops (QC c Q QP) l a w := by
  intro l
  induction l with
  | nil => intro σ A ρ a w _ h hS hF; exact wpList_nil ⟨σ, A, ρ, h, hS, hF⟩
  | cons o rest ih =>
    intro σ A ρ a w hd h hS hF
    have hdo : ∀ d, o.dst = some d → d < c.n := fun d e => by
      have := hd o (by simp); simp only [dstOk, e, decide_eq_true_eq] at this; exact this
    refine wpList_step fun K hK => ?_
    simp only [wpT] at h
    split at h
    · rename_i hg
      rw [guard_sound hS hg, if_pos rfl]
      split at h
      · rename_i d hdf
        exact dfr_sound (P := P) hS hdo hdf (fun a' hS' => hK _ _ (ih _ A ρ a' w (fun o ho => hd o (by simp [ho])) h hS' hF))
      · refine op_sound (P := P) hc hS o hdo true _ _ K (QC c Q QP) h (fun r _ k _ => hF.free _ (by omega)) (fun _ => hF.free) (fun r x A' ρ' w' hr hN hS' => ?_) (fun d r x A' ρ' w' hq hN hS' hx => ?_)
        · exact hK _ _ (ih _ A' ρ' _ w' (fun o ho => hd o (by simp [ho])) hr hS' (hF.step hN))
        · exact ⟨d, x, _, A', ρ', rfl, hq, hS', hx, hF.step hN⟩
    · rename_i hg
      rw [guard_sound hS hg]
      simp only [Bool.false_eq_true, if_false]
      exact hK _ _ (ih _ A ρ _ w (fun o ho => hd o (by simp [ho])) h (hS.put (.d _ _ (.tup [] #[] rfl (fun i hi => by simp at hi))) o.dst hdo) hF)
    · exact h.elim
end
end Go.Proofs.Am
