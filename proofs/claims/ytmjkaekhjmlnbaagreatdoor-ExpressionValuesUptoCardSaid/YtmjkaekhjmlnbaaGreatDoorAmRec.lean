/- Deferred calls and recover. -/
import Derived.Test.YtmjkaekhjmlnbaaGreatDoorAmCode
import Derived.Recover
set_option linter.unusedVariables false
set_option linter.unusedSimpArgs false
namespace Go.Proofs.Am
open Go Go.RowKit

def isRecover : Op → Bool
  | .call { callee := .builtin .recover, .. } => true
  | _ => false

def hasRec : Code → Bool
  | .region _ ops _ => ops.toList.any fun o => isRecover o.op
  | .seq a b | .cond _ a b => hasRec a || hasRec b
  | .block _ c | .loop c | .scope c => hasRec c
  | _ => false

/-- The walk through operations of a deferred call; pn: what its caller gives up with. -/
def wpTS (E : CallE) (P : Program) (ops : Array Oper) : List Oper → St → Option DV → (St → Option DV → Prop) → Prop
  | [], σ, pn, K => K σ pn
  | o :: rest, σ, pn, K => match guardA ops σ.env o with
    | some true => if isRecover o.op = true then wpTS E P ops rest { σ with env := putE σ.env o.dst (.d (match pn with | some d => d | none => .inil)) } none K
        else wpB E true (opB P σ.nid σ.eval o.op) σ.lh (fun r => wpTS E P ops rest (σ.app o.dst r) pn K) (fun _ _ => False)
    | some false => wpTS E P ops rest { σ with env := putE σ.env o.dst (.d (.tup [])) } pn K
    | none => False

def seqS (Q : Exit → St → Option DV → Prop) (K : St → Option DV → Prop) : Exit → St → Option DV → Prop
  | .normal, σ, pn => K σ pn
  | e, σ, pn => Q e σ pn

/-- The walk through the code of a deferred call. -/
def WPS (E : CallE) (P : Program) : Code → (Exit → St → Option DV → Prop) → St → Option DV → Prop
  | .seq a b, Q, σ, pn => WPS E P a (seqS Q fun σ' pn' => WPS E P b Q σ' pn') σ pn
  | .cond c a b, Q, σ, pn => match σ.eval c with
    | .d (.bool true) => WPS E P a Q σ pn
    | .d (.bool false) => WPS E P b Q σ pn
    | _ => False
  | .region id ops d, Q, σ, pn => if hasRec (.region id ops d) = true then (d = false ∧ wpTS E P ops ops.toList σ pn (Q .normal))
      else WP E P (.region id ops d) (fun e σ' => Q e σ' pn) (fun _ _ => False) σ
  | c, Q, σ, pn => WP E P c (fun e σ' => Q e σ' pn) (fun _ _ => False) σ

/-- How the caller stands. -/
def ModeRel (c : Ctx) (u : FrameMode) : Option DV → Prop
  | some d => ∃ x, u = .panicking [{ v := x, recovered := false }] ∧ DRep c.w0 c.A0 d x
  | none => u = .returning ∨ ∃ x, u = .panicking [{ v := x, recovered := true }]

/-- The context keeps what may be read apart from what may be written. -/
def Apart (c : Ctx) : Prop := (∀ g, c.A0 g → ¬ c.O0 g) ∧ ∀ g, c.A0 g → g < c.w0.heap.size

section
variable {P : Program} {gs : List Nat} {c : Ctx} {A : Nat → Prop} {ρ : Nat → Option BR} {σ : St} {a : Act} {w : World}

theorem HS.keeps0 {lh : Nat → Option LB} (h : HS c A ρ lh w) (ha : Apart c) : Keeps c.w0 w c.A0 A := fun g hA => ⟨h.up g hA, h.frame g (ha.2 g hA) (ha.1 g hA)⟩

theorem HS.apart {lh : Nat → Option LB} (h : HS c A ρ lh w) (n m : Nat) : Apart (ctx0 w A ρ lh n m) :=
  ⟨fun g hA ho => by obtain ⟨b, r, k, h1, h2, h3, rfl⟩ := ho; exact (h.own b r k h1 h2 h3).1 hA, h.lt⟩

def QS (c : Ctx) (c₀ : Frame) (cs : List Frame) (Q : Exit → St → Option DV → Prop) : Exit → Act → List Frame → World → Prop
  | .panic _, _, _, _ => False
  | e, a, cs', w => ∃ σ A ρ pn u, Q e σ pn ∧ Sim c A ρ σ a w ∧ Fr c ρ σ.nid ∧ cs' = { c₀ with mode := u } :: cs ∧ ModeRel c u pn

theorem recover_op {o : Oper} (h : isRecover o.op = true) : (execOp a.eval o).run P w = .ok .recover w := by
  cases hop : o.op with
  | call cl =>
    obtain ⟨callee, args, ts⟩ := cl
    rw [hop] at h
    cases callee with
    | builtin b =>
      cases b <;> first | (simp [isRecover] at h; done) | (rw [op_eq hop]; simp [execOp, resolve, invoke, builtin])
    | _ => simp [isRecover] at h
  | _ => rw [hop] at h; simp [isRecover] at h

theorem recoverD_some (c₀ : Frame) (cs : List Frame) (x : Value) : recoverD ({ c₀ with mode := .panicking [{ v := x, recovered := false }] } :: cs) = some (x, { c₀ with mode := .panicking [{ v := x, recovered := true }] } :: cs) := rfl
theorem recoverD_ret (c₀ : Frame) (cs : List Frame) : recoverD ({ c₀ with mode := .returning } :: cs) = none := rfl
theorem recoverD_done (c₀ : Frame) (cs : List Frame) (x : Value) : recoverD ({ c₀ with mode := .panicking [{ v := x, recovered := true }] } :: cs) = none := rfl

theorem wpTS_sound (hc : CtxOk gs c) (ha : Apart c) {ops : Array Oper} (c₀ : Frame) (cs : List Frame) {Q : Exit → St → Option DV → Prop} : ∀ (l : List Oper) (i : Nat) (σ : St) (pn : Option DV) (u : FrameMode) (A : Nat → Prop) (ρ : Nat → Option BR) (a : Act) (w : World),
    l = ops.toList.drop i → (∀ o ∈ l, dstOk c.n o = true) → wpTS (calls P gs) P ops l σ pn (Q .normal) → Sim c A ρ σ a w → Fr c ρ σ.nid → ModeRel c u pn →
    wpOpsS P ops (QS c c₀ cs Q) (List.range' i l.length) a ({ c₀ with mode := u } :: cs) w := by
  intro l
  induction l with
  | nil => intro i σ pn u A ρ a w _ _ h hS hF hM; exact ⟨σ, A, ρ, pn, u, h, hS, hF, rfl, hM⟩
  | cons o rest ih =>
    intro i σ pn u A ρ a w hl hd h hS hF hM
    have hdo : ∀ d, o.dst = some d → d < c.n := fun d e => by
      have := hd o (by simp); simp only [dstOk, e, decide_eq_true_eq] at this; exact this
    have ho : ops[i]? = some o := by
      have : (ops.toList.drop i)[0]? = some o := by rw [← hl]; rfl
      simpa using this
    have hl' : rest = ops.toList.drop (i + 1) := by
      have : (ops.toList.drop i).drop 1 = rest := by rw [← hl]; rfl
      rw [← this, List.drop_drop]
    have hd' : ∀ o ∈ rest, dstOk c.n o = true := fun o ho => hd o (by simp [ho])
    simp only [List.length_cons, List.range'_succ, wpOpsS, ho]
    simp only [wpTS] at h
    split at h
    · rename_i hg
      rw [guard_sound hS hg, if_pos rfl]
      split at h
      · rename_i hrec
        rw [recover_op hrec]
        simp only
        cases pn with
        | some d =>
          obtain ⟨x, rfl, hx⟩ := hM
          rw [recoverD_some]
          simp only at h ⊢
          exact ih (i + 1) _ none _ A ρ _ w hl' hd' h (hS.put (.d _ _ (hx.mono (hS.toHS.keeps0 ha))) o.dst hdo) hF (.inr ⟨x, rfl⟩)
        | none =>
          have hn : recoverD ({ c₀ with mode := u } :: cs) = none := by
            rcases hM with rfl | ⟨x, rfl⟩ <;> rfl
          rw [hn]
          simp only at h ⊢
          exact ih (i + 1) _ none u A ρ _ w hl' hd' h (hS.put (.d _ _ .inil) o.dst hdo) hF hM
      · rename_i hnr
        have hop := op_sound (P := P) hc hS o hdo true (fun r => wpTS (calls P gs) P ops rest (σ.app o.dst r) pn (Q .normal)) (fun _ _ => False)
          (fun a' w' => wpOpsS P ops (QS c c₀ cs Q) (List.range' (i + 1) rest.length) a' ({ c₀ with mode := u } :: cs) w') (fun e a' w' => QS c c₀ cs Q e a' ({ c₀ with mode := u } :: cs) w') h (fun r _ k _ => hF.free _ (by omega)) (fun _ => hF.free)
          (fun r x A' ρ' w' hr hN hS' => ih (i + 1) _ pn u A' ρ' _ w' hl' hd' hr hS' (hF.step hN) hM) (fun d r x A' ρ' w' hq => hq.elim)
        unfold Oper.wp at hop
        split
        · rename_i w' hr
          rw [hr] at hop; exact hop.elim
        · exact hop
    · rename_i hg
      rw [guard_sound hS hg]
      simp only [Bool.false_eq_true, if_false]
      exact ih (i + 1) _ pn u A ρ _ w hl' hd' h (hS.put (.d _ _ (.tup [] #[] rfl (fun i hi => by simp at hi))) o.dst hdo) hF hM
    · exact h.elim

theorem WPS_sound (hm : P.follows .mixedOrders = true) (hc : CtxOk gs c) (ha : Apart c) (c₀ : Frame) (cs : List Frame) : ∀ (code : Code) (Q : Exit → St → Option DV → Prop) (σ : St) (pn : Option DV) (u : FrameMode) (A : Nat → Prop) (ρ : Nat → Option BR) (a : Act) (w : World), codeOk c.n code = true →
    WPS (calls P gs) P code Q σ pn → Sim c A ρ σ a w → Fr c ρ σ.nid → ModeRel c u pn → code.wpS P (QS c c₀ cs Q) a ({ c₀ with mode := u } :: cs) w := by
  have plain : ∀ (code : Code) (Q : Exit → St → Option DV → Prop) (σ : St) (pn : Option DV) (u : FrameMode) (A : Nat → Prop) (ρ : Nat → Option BR) (a : Act) (w : World), codeOk c.n code = true →
      WP (calls P gs) P code (fun e σ' => Q e σ' pn) (fun _ _ => False) σ → Sim c A ρ σ a w → Fr c ρ σ.nid → ModeRel c u pn → code.wpS P (QS c c₀ cs Q) a ({ c₀ with mode := u } :: cs) w := fun code Q σ pn u A ρ a w hok h hS hF hM =>
    wpS_of_wp (wp_mono (WP_sound hm hc code _ σ A ρ a w hok h hS hF) fun e a w hq => by
      cases e with
      | panic ch => obtain ⟨d, x, σ', A', ρ', _, hf, _⟩ := hq; exact hf.elim
      | _ => obtain ⟨σ', A', ρ', h1, h2, h3⟩ := hq; exact ⟨σ', A', ρ', pn, u, h1, h2, h3, rfl, hM⟩)
  intro code
  induction code with
  | seq x y ihx ihy =>
    intro Q σ pn u A ρ a w hok h hS hF hM
    simp only [codeOk, Bool.and_eq_true] at hok
    refine wpS_seq ?_
    have := ihx (seqS Q fun σ' pn' => WPS (calls P gs) P y Q σ' pn') σ pn u A ρ a w hok.1 h hS hF hM
    intro b k hb hr
    obtain ⟨e, a', cs', w', hq, harr⟩ := this b k hb hr
    refine ⟨e, a', cs', w', ?_, harr⟩
    cases e with
    | normal => obtain ⟨σ', A', ρ', pn', u', h1, h2, h3, rfl, h5⟩ := hq; exact ihy Q σ' pn' u' A' ρ' a' w' hok.2 h1 h2 h3 h5
    | panic ch => exact hq
    | _ => obtain ⟨σ', A', ρ', pn', u', h1, h2, h3, h4, h5⟩ := hq; exact ⟨σ', A', ρ', pn', u', h1, h2, h3, h4, h5⟩
  | cond cc x y ihx ihy =>
    intro Q σ pn u A ρ a w hok h hS hF hM
    simp only [codeOk, Bool.and_eq_true] at hok
    simp only [WPS] at h
    have hr := eval_rep hS cc
    split at h
    · rename_i he
      rw [he] at hr
      have hr := hr.ofD
      refine wpS_cond (t := true) ?_ (ihx Q σ pn u A ρ a w hok.1 h hS hF hM)
      generalize a.eval cc = v at hr
      cases hr; rfl
    · rename_i he
      rw [he] at hr
      have hr := hr.ofD
      refine wpS_cond (t := false) ?_ (ihy Q σ pn u A ρ a w hok.2 h hS hF hM)
      generalize a.eval cc = v at hr
      cases hr; rfl
    · exact h.elim
  | region id ops d =>
    intro Q σ pn u A ρ a w hok h hS hF hM
    simp only [WPS] at h
    split at h
    · obtain ⟨rfl, h⟩ := h
      simp only [codeOk] at hok
      refine wpS_region ?_
      have := wpTS_sound (P := P) hc ha (ops := ops) c₀ cs ops.toList 0 σ pn u A ρ a w (by simp) (fun o ho => List.all_eq_true.1 hok o ho) h hS hF hM
      rw [Array.length_toList, ← List.range_eq_range'] at this
      exact this
    · exact plain _ Q σ pn u A ρ a w hok h hS hF hM
  | _ => intro Q σ pn u A ρ a w hok h hS hF hM; exact plain _ Q σ pn u A ρ a w hok h hS hF hM
end
#print axioms WPS_sound
end Go.Proofs.Am
