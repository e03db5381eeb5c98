/- All operations. -/
import Derived.Test.YtmjkaekhjmlnbaaGreatDoorAmOp
set_option linter.unusedVariables false
set_option linter.unusedSimpArgs false
namespace Go.Proofs.Am
open Go Go.RowKit

section
variable {P : Program} {gs : List Nat} {c : Ctx} {A : Nat → Prop} {ρ : Nat → Option BR} {σ : St} {a : Act} {w : World}

theorem ofO_inv {E : CallE} {tx : Bool} {α : Type} {o : Option α} {k : α → BM} {lh : Nat → Option LB} {K : Res → Prop} {KP : DV → Res → Prop} (h : wpB E tx (BM.ofO o k) lh K KP) : ∃ x, o = some x ∧ wpB E tx (k x) lh K KP := by
  cases o with
  | none => exact h.elim
  | some x => exact ⟨x, rfl, h⟩

/-- The value that a plain operation makes. -/
theorem wp_val {o : Oper} (hS : Sim c A ρ σ a w) (hd : ∀ d, o.dst = some d → d < c.n) {s : Sem Value} (ho : execOp a.eval o = (do pure (.value (← s)))) {v : AV}
    (hy : ∃ x, s.run P w = .ok x w ∧ ARep w A ρ v x) {K : Res → Prop} (hK : K ⟨v, σ.lh, σ.nid⟩) {next : Act → World → Prop} {Q : Exit → Act → World → Prop}
    (hn : ∀ r x A' ρ' w', K r → Names ρ ρ' σ.nid r.nid → Sim c A' ρ' (σ.app o.dst r) (a.put o.dst x) w' → next (a.put o.dst x) w') : o.wp P a w next Q :=
  wp_yields hd ho (Yields.just hS hy) (fun x A' ρ' w' q h => hn _ x A' ρ' w' hK q h)

theorem op_eq {o : Oper} {op : Op} (h : o.op = op) : execOp a.eval o = execOp a.eval { o with op := op } := by
  cases o; simp only at h; subst h; rfl

theorem parts_all {parts : Array (Nat × Operand)} (hS : Sim c A ρ σ a w) :
    All2 (fun p q => p.1 = q.1 ∧ ARep w A ρ p.2 q.2) (parts.toList.map fun (i, x) => (i, σ.eval x)) (parts.map fun (i, x) => (i, a.eval x)).toList := by
  rw [Array.toList_map]
  exact All2.map parts.toList fun p hp => ⟨rfl, eval_rep hS p.2⟩

theorem parts_one {parts : Array (Nat × Operand)} (h : (parts.toList.all fun (_, x) => (σ.eval x).cells.all avOne) = true) :
    ∀ p ∈ (parts.toList.map fun (i, x) => (i, σ.eval x)), p.2.cells.all avOne = true := fun p hp => by
  obtain ⟨q, hq, rfl⟩ := List.mem_map.1 hp
  exact List.all_eq_true.1 h q hq

theorem opt_rep (hS : Sim c A ρ σ a w) (x : Option Operand) : match x.map σ.eval, x.map a.eval with | some x, some y => ARep w A ρ x y | none, none => True | _, _ => False := by
  cases x with
  | none => trivial
  | some x => exact eval_rep hS x

theorem two_args {α : Type} [Inhabited α] {xs : Array α} (d : α) (h : xs.size = 2) : xs = #[xs.getD 0 d, xs.getD 1 d] := by
  apply Array.ext (by simp [h])
  intro i h1 h2
  have : i = 0 ∨ i = 1 := by omega
  rcases this with rfl | rfl <;> simp [Array.getD, h]

theorem one_arg {α : Type} {xs : Array α} (d : α) (h : xs.size = 1) : xs = #[xs.getD 0 d] := by
  apply Array.ext (by simp [h])
  intro i h1 h2
  have : i = 0 := by omega
  subst this; simp [Array.getD, h]

/-- What is to be shown of an operation. -/
def OpGoal (P : Program) (gs : List Nat) (c : Ctx) (A : Nat → Prop) (ρ : Nat → Option BR) (σ : St) (a : Act) (w : World) (o : Oper) : Prop :=
  ∀ (tx : Bool) (K : Res → Prop) (KP : DV → Res → Prop) (next : Act → World → Prop) (Q : Exit → Act → World → Prop), wpB (calls P gs) tx (opB P σ.nid σ.eval o.op) σ.lh K KP →
    (∀ r, K r → ∀ k, σ.nid + k < r.nid → ρ (σ.nid + k) = none) → (tx = true → Free ρ σ.nid) →
    (∀ r x A' ρ' w', K r → Names ρ ρ' σ.nid r.nid → Sim c A' ρ' (σ.app o.dst r) (a.put o.dst x) w' → next (a.put o.dst x) w') →
    (∀ d r x A' ρ' w', KP d r → Names ρ ρ' σ.nid r.nid → Sim c A' ρ' { σ with lh := r.lh, nid := r.nid } a w' → DRep w' A' d x → Q (.panic [{ v := x, recovered := false }]) a w') → o.wp P a w next Q

theorem op_move (hc : CtxOk gs c) (hS : Sim c A ρ σ a w) {o : Oper} (hd : ∀ d, o.dst = some d → d < c.n) (x : Operand) (hop : o.op = .move x) : OpGoal P gs c A ρ σ a w o := by
  intro tx K KP next Q h hfr hF hn hp
  simp only [hop, opB] at h
  exact wp_val hS hd (s := pure (a.eval x)) (by rw [op_eq hop]; rfl) ⟨_, rfl, eval_rep hS x⟩ h hn

theorem op_assign (hc : CtxOk gs c) (hS : Sim c A ρ σ a w) {o : Oper} (hd : ∀ d, o.dst = some d → d < c.n) (x : Operand) (hop : o.op = .assign x) : OpGoal P gs c A ρ σ a w o := by
  intro tx K KP next Q h hfr hF hn hp
  simp only [hop, opB] at h
  exact wp_val hS hd (s := pure (a.eval x)) (by rw [op_eq hop]; rfl) ⟨_, rfl, eval_rep hS x⟩ h hn

theorem op_pick (hc : CtxOk gs c) (hS : Sim c A ρ σ a w) {o : Oper} (hd : ∀ d, o.dst = some d → d < c.n) (cc x y : Operand) (hop : o.op = .pick cc x y) : OpGoal P gs c A ρ σ a w o := by
  intro tx K KP next Q h hfr hF hn hp
  simp only [hop, opB] at h
  split at h
  · rename_i t ht
    have hcr := eval_rep hS cc
    rw [ht] at hcr
    have hcr := hcr.ofD
    have hcv : a.eval cc = .bool t := by
      generalize a.eval cc = v at hcr
      cases hcr; rfl
    refine wp_val hS hd (s := pure (if t then a.eval x else a.eval y)) ?_ ⟨_, rfl, ?_⟩ h hn
    · rw [op_eq hop]; simp only [execOp, hcv]; rfl
    · cases t
      · exact eval_rep hS y
      · exact eval_rep hS x
  · exact h.elim

theorem op_alloc (hc : CtxOk gs c) (hS : Sim c A ρ σ a w) {o : Oper} (hd : ∀ d, o.dst = some d → d < c.n) (t : TypeId) (hop : o.op = .alloc t) : OpGoal P gs c A ρ σ a w o := by
  intro tx K KP next Q h hfr hF hn hp
  simp only [hop, opB] at h
  obtain ⟨ti, ht, h⟩ := ofO_inv h
  exact wp_yields hd (s := Instr.alloc t true (.tuple #[])) (by rw [op_eq hop]; rfl) (alloc_sound hS (hfr _ h 0 (by simp [OpR.res])) ht) (fun x A' ρ' w' q hh => hn _ x A' ρ' w' h q hh)

theorem op_box (hc : CtxOk gs c) (hS : Sim c A ρ σ a w) {o : Oper} (hd : ∀ d, o.dst = some d → d < c.n) (t : TypeId) (x : Operand) (hop : o.op = .box t x) : OpGoal P gs c A ρ σ a w o := by
  intro tx K KP next Q h hfr hF hn hp
  simp only [hop, opB] at h
  split at h
  · rename_i h1
    exact wp_yields hd (s := Instr.box t (a.eval x)) (by rw [op_eq hop]; rfl) (box_sound hS (hfr _ h 0 (by simp [OpR.res])) (eval_rep hS x) h1) (fun x A' ρ' w' q hh => hn _ x A' ρ' w' h q hh)
  · exact h.elim

theorem op_build (hc : CtxOk gs c) (hS : Sim c A ρ σ a w) {o : Oper} (hd : ∀ d, o.dst = some d → d < c.n) (t : TypeId) (parts : Array (Nat × Operand)) (hop : o.op = .build t parts) : OpGoal P gs c A ρ σ a w o := by
  intro tx K KP next Q h hfr hF hn hp
  simp only [hop, opB] at h
  obtain ⟨ti, ht, h⟩ := ofO_inv h
  obtain ⟨pl, hpl, h⟩ := ofO_inv h
  split at h
  · rename_i hc2
    obtain ⟨cs, hcs, h⟩ := ofO_inv h
    exact wp_val hS hd (s := Instr.build t (parts.map fun (i, x) => (i, a.eval x))) (by rw [op_eq hop]; rfl) (build_sound ht hc2.2 hpl (parts_all hS) (parts_one hc2.1) hcs) h hn
  · exact h.elim

theorem op_buildSlice (hc : CtxOk gs c) (hS : Sim c A ρ σ a w) {o : Oper} (hd : ∀ d, o.dst = some d → d < c.n) (t : TypeId) (len : Nat) (parts : Array (Nat × Operand)) (hop : o.op = .buildSlice t len parts) : OpGoal P gs c A ρ σ a w o := by
  intro tx K KP next Q h hfr hF hn hp
  simp only [hop, opB] at h
  have hex : execOp a.eval o = (do pure (.value (← Instr.buildSlice t len (parts.map fun (i, x) => (i, a.eval x))))) := by
    rw [op_eq hop]; simp only [execOp]
  generalize hL : (16777216 : Nat) = L at h
  split at h
  · rename_i e hu
    obtain ⟨ti, ht, h⟩ := ofO_inv h
    split at h
    · rename_i hc2
      obtain ⟨els, hels, h⟩ := ofO_inv h
      have hle : len * ti.sz ≤ 16777216 := by rw [hL]; exact hc2.1
      have hy := buildSlice_sound (P := P) hS (hfr _ h 0 (by simp [OpR.res])) hu ht hle hc2.2.1 (parts_all hS) (parts_one hc2.2.2) hels
      exact wp_yields hd hex hy (fun x A' ρ' w' q hh => hn _ x A' ρ' w' h q hh)
    · exact h.elim
  · exact h.elim

theorem op_load (hc : CtxOk gs c) (hS : Sim c A ρ σ a w) {o : Oper} (hd : ∀ d, o.dst = some d → d < c.n) (t : TypeId) (ad : Operand) (hop : o.op = .load t ad) : OpGoal P gs c A ρ σ a w o := by
  intro tx K KP next Q h hfr hF hn hp
  simp only [hop, opB] at h
  obtain ⟨ti, ht, h⟩ := ofO_inv h
  have hex : execOp a.eval o = (do pure (.value (← Instr.loadAt t (a.eval ad)))) := by rw [op_eq hop]; rfl
  split at h
  · rename_i els i fo hev
    obtain ⟨v, hv, h⟩ := ofO_inv h
    have hr := eval_rep hS ad; rw [hev] at hr
    exact wp_val hS hd hex (load_pim_sound ht hr hv) h hn
  · rename_i b es i fo hev
    simp only [wpB] at h
    cases hk : σ.lh b with
    | none => simp [hk] at h
    | some k =>
      simp only [hk] at h
      split at h
      · rename_i hi
        obtain ⟨v, hv, h⟩ := ofO_inv h
        have hr := eval_rep hS ad; rw [hev] at hr
        exact wp_val hS hd hex (load_loc_sound hS ht hr hk hi hv) h hn
      · exact h.elim
  · exact h.elim

theorem op_store (hc : CtxOk gs c) (hS : Sim c A ρ σ a w) {o : Oper} (hd : ∀ d, o.dst = some d → d < c.n) (t : TypeId) (ad x : Operand) (hop : o.op = .store t ad x) : OpGoal P gs c A ρ σ a w o := by
  intro tx K KP next Q h hfr hF hn hp
  simp only [hop, opB] at h
  obtain ⟨ti, ht, h⟩ := ofO_inv h
  split at h
  · rename_i b es i fo hev
    simp only [wpB] at h
    cases hk : σ.lh b with
    | none => simp [hk] at h
    | some k =>
      simp only [hk] at h
      split at h
      · rename_i hc2
        obtain ⟨h1, h2, h3, h4, h5⟩ := hc2
        have hr := eval_rep hS ad; rw [hev] at hr
        obtain ⟨w', q1, q2⟩ := store_sound (P := P) hS ht hr hk h1 h2 (eval_rep hS x) h3 h4 h5
        unfold Oper.wp
        rw [op_eq hop]
        simp only [execOp, Sem.run_bind, q1, Result.andThen_ok, Sem.run_pure, Oper.upon_skip]
        exact hn _ undef A ρ w' h (Names.refl _ _) (q2.put (.un undef) o.dst hd)
      · exact h.elim
  · exact h.elim

theorem op_nilCheck (hc : CtxOk gs c) (hS : Sim c A ρ σ a w) {o : Oper} (hd : ∀ d, o.dst = some d → d < c.n) (x : Operand) (hop : o.op = .nilCheck x) : OpGoal P gs c A ρ σ a w o := by
  intro tx K KP next Q h hfr hF hn hp
  simp only [hop, opB] at h
  have hr := eval_rep hS x
  have hex : ∀ v, (match v with | .pointer none | .nilIface | .nilFunc => False | .func (.method _) _ _ => False | _ => True) → a.eval x = v → execOp a.eval o = (do pure (.value (← (pure v : Sem Value)))) := fun v hv e => by
    rw [op_eq hop]; simp only [execOp, e]
    split <;> simp_all
  split at h
  · rename_i b es i fo hev
    rw [hev] at hr
    cases hr' : a.eval x with
    | pointer p =>
      rw [hr'] at hr
      cases p with
      | none => cases hr
      | some p => exact wp_val hS hd (hex _ trivial hr') ⟨_, rfl, hr⟩ h hn
    | _ => rw [hr'] at hr; cases hr
  · rename_i els i fo hev
    rw [hev] at hr
    cases hr' : a.eval x with
    | pointer p =>
      rw [hr'] at hr
      cases p with
      | none => cases hr.ofD
      | some p => exact wp_val hS hd (hex _ trivial hr') ⟨_, rfl, hr⟩ h hn
    | _ => rw [hr'] at hr; cases hr.ofD
  · rename_i f cs hev
    rw [hev] at hr
    cases hr' : a.eval x with
    | func fn first capt =>
      rw [hr'] at hr
      have hfn : ∃ g, fn = .func g := by cases hr.ofD; exact ⟨_, rfl⟩
      obtain ⟨g, rfl⟩ := hfn
      exact wp_val hS hd (hex _ trivial hr') ⟨_, rfl, hr⟩ h hn
    | _ => rw [hr'] at hr; cases hr.ofD
  · rename_i f cs hev
    rw [hev] at hr
    cases hr' : a.eval x with
    | func fn first capt =>
      rw [hr'] at hr
      have hfn : ∃ g, fn = .func g := by cases hr; exact ⟨_, rfl⟩
      obtain ⟨g, rfl⟩ := hfn
      exact wp_val hS hd (hex _ trivial hr') ⟨_, rfl, hr⟩ h hn
    | _ => rw [hr'] at hr; cases hr
  · exact h.elim

theorem op_unOp (hc : CtxOk gs c) (hS : Sim c A ρ σ a w) {o : Oper} (hd : ∀ d, o.dst = some d → d < c.n) (op : UnOp) (t : TypeId) (x : Operand) (hop : o.op = .unOp op t x) : OpGoal P gs c A ρ σ a w o := by
  intro tx K KP next Q h hfr hF hn hp
  simp only [hop, opB] at h
  obtain ⟨v, hv, h⟩ := ofO_inv h
  obtain ⟨z, hz, hzd⟩ := unD_sound (P := P) (eval_rep hS x) hv
  exact wp_val hS hd (s := Op.unary op (a.eval x)) (by rw [op_eq hop]; rfl) ⟨z, hz, .d _ _ hzd⟩ h hn

theorem op_makeInterface (hc : CtxOk gs c) (hS : Sim c A ρ σ a w) {o : Oper} (hd : ∀ d, o.dst = some d → d < c.n) (t : TypeId) (x : Operand) (hop : o.op = .makeInterface t x) : OpGoal P gs c A ρ σ a w o := by
  intro tx K KP next Q h hfr hF hn hp
  simp only [hop, opB] at h
  split at h
  · exact h.elim
  · rename_i u hu hni
    have hrun : (Instr.makeInterface t (a.eval x)).run P w = .ok (.iface t (a.eval x)) w := by
      simp only [Instr.makeInterface, Sem.run_bind, run_underlying hni, Result.andThen_ok]
      rfl
    have hr := eval_rep hS x
    split at h
    · rename_i v hev
      rw [hev] at hr
      exact wp_val hS hd (s := Instr.makeInterface t (a.eval x)) (by rw [op_eq hop]; rfl) ⟨_, hrun, .d _ _ (.iface t v _ hr.ofD)⟩ h hn
    · exact wp_val hS hd (s := Instr.makeInterface t (a.eval x)) (by rw [op_eq hop]; rfl) ⟨_, hrun, .iface t _ _ hr⟩ h hn
  · exact h.elim

end
end Go.Proofs.Am
