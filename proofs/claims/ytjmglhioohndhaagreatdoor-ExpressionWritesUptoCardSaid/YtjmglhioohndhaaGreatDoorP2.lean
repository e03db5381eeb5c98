/- Regions in the order of the text. -/
import Derived.Test.YtjmglhioohndhaaGreatDoorP1
import Derived.Tactics
import Derived.LoopN
import Derived.Scope
import Derived.Recover

set_option linter.unusedVariables false
set_option linter.unusedSimpArgs false
namespace Go.Proofs.Am
open Go Go.RowKit

/-- Is an operation to be carried out? -/
def guardA (ops : Array Oper) (env : Nat → AV) (o : Oper) : Option Bool :=
  match o.guard with
  | none => some true
  | some (j, want) => match (ops[j]?).bind (·.dst) with
    | none => none
    | some d => match env d with
      | .d (.bool b) => some (b == want)
      | .d (.tup []) => some false
      | _ => none

def dstOk (n : Nat) (o : Oper) : Bool := match o.dst with | some d => decide (d < n) | none => true

/-- A call that is put off. -/
def dfrOf (ev : Operand → AV) : Op → Option (FuncId × List AV)
  | .defer { callee := .value fv, args, .. } => match ev fv with
    | .d (.fn f caps) => some (f, args.toList.map ev ++ caps.map .d)
    | .fn f caps => some (f, args.toList.map ev ++ caps)
    | _ => none
  | _ => none

/-- The walk through operations, in the order of the text. -/
def wpT (E : CallE) (P : Program) (ops : Array Oper) : List Oper → St → (St → Prop) → (DV → St → Prop) → Prop
  | [], σ, K, _ => K σ
  | o :: rest, σ, K, KP => match guardA ops σ.env o with
    | some true => match dfrOf σ.eval o.op with
      | some d => wpT E P ops rest { σ with env := putE σ.env o.dst .undef, dfs := d :: σ.dfs } K KP
      | none => wpB E true (opB P σ.nid σ.eval o.op) σ.lh (fun r => wpT E P ops rest (σ.app o.dst r) K KP) (fun d r => KP d { σ with lh := r.lh, nid := r.nid })
    | some false => wpT E P ops rest { σ with env := putE σ.env o.dst (.d (.tup [])) } K KP
    | none => False

section
variable {P : Program} {gs : List Nat} {c : Ctx} {A : Nat → Prop} {ρ : Nat → Option BR} {σ : St} {a : Act} {w : World}

theorem zJ2 (hS : Sim c A ρ σ a w) {ops : Array Oper} {o : Oper} {g : Bool} (h : guardA ops σ.env o = some g) : Region.wanted o (yielded ops a.tmps) = g := by
  unfold guardA at h
  unfold Region.wanted
  split at h
  · rename_i hg; rw [hg]; simpa using h
  · rename_i j want hg
    rw [hg]
    split at h
    · cases h
    · rename_i d hd
      have hr := hS.env d
      have key : ∀ v, a.tmps.getD d undef = v → v ≠ undef → yielded ops a.tmps j = match v with | .bool b => some b | _ => none := fun v hv hne => by
        have hlt : d < a.tmps.size := by
          rcases Nat.lt_or_ge d a.tmps.size with h | h
          · exact h
          · exfalso; apply hne; rw [← hv, Array.getD, dif_neg (by omega)]
        have : a.tmps[d]? = some v := by rw [← hv]; simp [Array.getD, hlt]
        simp only [yielded, hd, Option.bind_some, this]
        cases v <;> rfl
      split at h
      · rename_i b he
        rw [he] at hr
        have hr := hr.ofD
        generalize hv : a.tmps.getD d undef = v at hr
        cases hr
        simp only
        rw [key _ hv (by simp [undef])]
        cases h
        simp
      · rename_i he
        rw [he] at hr
        have hr := hr.ofD
        generalize hv : a.tmps.getD d undef = v at hr
        cases hr with
        | tup _ vs hl hh =>
          have hv0 : vs = #[] := by apply Array.ext (by simpa using hl); intro i h1 h2; simp at h2
          subst hv0
          cases h
          simp only
          have : yielded ops a.tmps j = none := by
            simp only [yielded, hd, Option.bind_some]
            rcases Nat.lt_or_ge d a.tmps.size with h | h
            · have : a.tmps[d]? = some (.tuple #[]) := by rw [← hv]; simp [Array.getD, h]
              rw [this]
            · simp [Array.getElem?_eq_none h]
          rw [this]; rfl
      · cases h

/-- The end of a walk stands for the end of the model's. -/
def QC (c : Ctx) (Q : Exit → St → Prop) (QP : DV → St → Prop) : Exit → Act → World → Prop
  | .panic chain, a, w => ∃ d x σ A ρ, chain = [{ v := x, recovered := false }] ∧ QP d σ ∧ Sim c A ρ σ a w ∧ DRep w A d x ∧ Fr c ρ σ.nid
  | e, a, w => ∃ σ A ρ, Q e σ ∧ Sim c A ρ σ a w ∧ Fr c ρ σ.nid

theorem dfr_sound (hS : Sim c A ρ σ a w) {o : Oper} (hd : ∀ d, o.dst = some d → d < c.n) {d : FuncId × List AV} (h : dfrOf σ.eval o.op = some d) {next : Act → World → Prop} {Q : Exit → Act → World → Prop}
    (hn : ∀ a', Sim c A ρ { σ with env := putE σ.env o.dst .undef, dfs := d :: σ.dfs } a' w → next a' w) : o.wp P a w next Q := by
  cases hop : o.op with
  | «defer» cl =>
    obtain ⟨callee, args, ts⟩ := cl
    rw [hop] at h
    cases callee with
    | value fv =>
      have go : ∀ (f : FuncId) (caps : Array Value) (capsA : List AV), a.eval fv = .func (.func f) #[] caps → caps.size = capsA.length → (∀ i, i < capsA.length → ARep w A ρ (capsA.getD i .undef) (caps.getD i undef)) →
          d = (f, args.toList.map σ.eval ++ capsA) → o.wp P a w next Q := fun f caps capsA hev hcl hcr hde => by
        obtain ⟨l1, l2⟩ := args_rep (vs := args) hS hcl hcr
        unfold Oper.wp
        have hex : (execOp a.eval o).run P w = .ok (.defer { target := .fn (.func f) caps, args := args.map a.eval }) w := by
          rw [zK0 hop]
          simp only [execOp, resolve, hev, Deferred.ofValue, pure_bind]
          rw [Array.empty_append]; rfl
        rw [hex, Oper.upon_defer]
        refine hn _ ?_
        have hS' : Sim c A ρ { σ with dfs := d :: σ.dfs } { a with defers := { target := .fn (.func f) caps, args := args.map a.eval } :: a.defers } w := { hS with defers := by subst hde; exact .cons f _ _ caps _ _ ⟨l1, l2⟩ hS.defers }
        exact hS'.put (.un undef) o.dst hd
      have r1 := zF7 hS fv
      simp only [dfrOf] at h
      split at h
      · rename_i f caps hev
        rw [hev] at r1
        have r1 := r1.ofD
        generalize hv : a.eval fv = v at r1
        cases r1 with
        | fn _ _ vals hl hh =>
          refine go f vals (caps.map .d) hv (by simpa using hl) (fun i hi => ?_) (by simpa using h.symm)
          have hi' : i < caps.length := by simpa using hi
          rw [zG7 _ _ hi']; exact .d _ _ (hh i hi')
      · rename_i f caps hev
        rw [hev] at r1
        generalize hv : a.eval fv = v at r1
        cases r1 with
        | fn _ _ vals hl hh => exact go f vals caps hv hl hh (by simpa using h.symm)
      · cases h
    | _ => simp [dfrOf] at h
  | _ => rw [hop] at h; simp [dfrOf] at h

theorem wpT_sound (hc : CtxOk gs c) {ops : Array Oper} {Q : Exit → St → Prop} {QP : DV → St → Prop} : ∀ (l : List Oper) (σ : St) (A : Nat → Prop) (ρ : Nat → Option BR) (a : Act) (w : World), (∀ o ∈ l, dstOk c.n o = true) →
    wpT (calls P gs) P ops l σ (Q .normal) QP → Sim c A ρ σ a w → Fr c ρ σ.nid → wpList P ops (QC c Q QP) l a w := by
  intro l
  induction l with
  | nil => intro σ A ρ a w _ h hS hF; exact wpList_nil ⟨σ, A, ρ, h, hS, hF⟩
  | cons o rest ih =>
    intro σ A ρ a w hd h hS hF
    have hdo : ∀ d, o.dst = some d → d < c.n := fun d e => by
      have := hd o (by simp); simp only [dstOk, e, decide_eq_true_eq] at this; exact this
    refine wpList_step fun K hK => ?_
    simp only [wpT] at h
    split at h
    · rename_i hg
      rw [zJ2 hS hg, if_pos rfl]
      split at h
      · rename_i d hdf
        exact dfr_sound (P := P) hS hdo hdf (fun a' hS' => hK _ _ (ih _ A ρ a' w (fun o ho => hd o (by simp [ho])) h hS' hF))
      · refine op_sound (P := P) hc hS o hdo true _ _ K (QC c Q QP) h (fun r _ k _ => hF.free _ (by omega)) (fun _ => hF.free) (fun r x A' ρ' w' hr hN hS' => ?_) (fun d r x A' ρ' w' hq hN hS' hx => ?_)
        · exact hK _ _ (ih _ A' ρ' _ w' (fun o ho => hd o (by simp [ho])) hr hS' (hF.step hN))
        · exact ⟨d, x, _, A', ρ', rfl, hq, hS', hx, hF.step hN⟩
    · rename_i hg
      rw [zJ2 hS hg]
      simp only [Bool.false_eq_true, if_false]
      exact hK _ _ (ih _ A ρ _ w (fun o ho => hd o (by simp [ho])) h (hS.put (.d _ _ (.tup [] #[] rfl (fun i hi => by simp at hi))) o.dst hdo) hF)
    · exact h.elim
end
end Go.Proofs.Am

set_option linter.unusedVariables false
set_option linter.unusedSimpArgs false
namespace Go.Proofs.Am
open Go Go.RowKit

/-- What an operation read and wrote among the local blocks. -/
structure TE where
  reads : List Nat
  writes : List Nat

inductive RunB (E : CallE) : BM → (Nat → Option LB) → List Nat → OpR → Prop where
  | pure (a : OpR) (lh : Nat → Option LB) : RunB E (.pure a) lh [] a
  | get (b : Nat) (k : LB → BM) (lh : Nat → Option LB) (x : LB) (rs : List Nat) (a : OpR) (h : lh b = some x) (t : RunB E (k x) lh rs a) : RunB E (.get b k) lh (b :: rs) a
  | call (nid : Nat) (g : FuncId) (args : List AV) (lh : Nat → Option LB) (r : OpR) (rs : List Nat) (h : E.ok lh nid g args rs r) : RunB E (.call nid g args) lh rs r

/-- The walk of one operation, that notes what it reads. -/
def wpBT (E : CallE) : BM → (Nat → Option LB) → (OpR → List Nat → Prop) → Prop
  | .pure a, _, K => K a []
  | .get b k, lh, K => match lh b with | some x => wpBT E (k x) lh (fun a rs => K a (b :: rs)) | none => False
  | .call nid g args, lh, K => ∃ r rs, E.ok lh nid g args rs r ∧ K r rs
  | _, _, _ => False

theorem wpBT_run {E : CallE} : ∀ (m : BM) (lh : Nat → Option LB) (K : OpR → List Nat → Prop), wpBT E m lh K → ∃ a rs, RunB E m lh rs a ∧ K a rs
  | .pure a, lh, K, h => ⟨a, [], .pure a lh, h⟩
  | .get b k, lh, K, h => by
    simp only [wpBT] at h
    cases hb : lh b with
    | none => simp [hb] at h
    | some x =>
      simp only [hb] at h
      obtain ⟨a, rs, h1, h2⟩ := wpBT_run (k x) lh _ h
      exact ⟨a, b :: rs, .get b k lh x rs a hb h1, h2⟩
  | .call nid g args, lh, K, h => by
    obtain ⟨r, rs, h0, h⟩ := h
    exact ⟨r, rs, .call nid g args lh r rs h0, h⟩
  | .pan _ _, _, _, h => h.elim
  | .fail, _, _, h => h.elim

theorem RunB.wp {E : CallE} {m : BM} {lh : Nat → Option LB} {rs : List Nat} {a : OpR} (h : RunB E m lh rs a) {tx : Bool} {K : Res → Prop} {KP : DV → Res → Prop} (hK : K (a.res lh)) : wpB E tx m lh K KP := by
  induction h with
  | pure a lh => exact hK
  | get b k lh x rs a h t ih => simp only [wpB, h]; exact ih hK
  | call nid g args lh r rs h => exact .inl ⟨r, rs, h, hK⟩

theorem frz_congr {lh lh' : Nat → Option LB} : ∀ (n : Nat) (v : AV), (∀ b ∈ reach lh n v, lh' b = lh b) → frz lh' n v = frz lh n v ∧ reach lh' n v = reach lh n v := by
  intro n
  induction n with
  | zero => intro v _; cases v <;> exact ⟨rfl, rfl⟩
  | succ n ih =>
    have many : ∀ (l : List AV), (∀ b ∈ l.flatMap (reach lh n), lh' b = lh b) → l.mapM (frz lh' n) = l.mapM (frz lh n) ∧ l.flatMap (reach lh' n) = l.flatMap (reach lh n) := fun l => by
      induction l with
      | nil => intro _; exact ⟨rfl, rfl⟩
      | cons x l ihl =>
        intro h
        simp only [List.flatMap_cons, List.mem_append] at h
        obtain ⟨h1, h2⟩ := ih x (fun b hb => h b (.inl hb))
        obtain ⟨h3, h4⟩ := ihl (fun b hb => h b (.inr hb))
        exact ⟨by simp only [List.mapM_cons, h1, h3], by simp only [List.flatMap_cons, h2, h4]⟩
    have part : ∀ (l : List AV) (off len : Nat), (∀ b ∈ l.flatMap (reach lh n), lh' b = lh b) → ((l.drop off).take len).mapM (frz lh' n) = ((l.drop off).take len).mapM (frz lh n) := fun l off len h =>
      (many _ (fun b hb => h b (by
        obtain ⟨x, hx, hb⟩ := List.mem_flatMap.1 hb
        exact List.mem_flatMap.2 ⟨x, List.mem_of_mem_drop (List.mem_of_mem_take hx), hb⟩))).1
    intro v h
    cases v with
    | d v => exact ⟨rfl, rfl⟩
    | undef => exact ⟨rfl, rfl⟩
    | zc => exact ⟨rfl, rfl⟩
    | slc b es off len =>
      have hb := h b (by simp [reach])
      simp only [frz, reach, hb]
      cases hk : lh b with
      | none => exact ⟨rfl, rfl⟩
      | some k =>
        simp only [reach, hk] at h
        have h' := fun b hb => h b (List.mem_cons_of_mem _ hb)
        simp only
        exact ⟨by rw [part k.els off len h'], by rw [(many k.els h').2]⟩
    | loc b es i fo =>
      have hb := h b (by simp [reach])
      simp only [frz, reach, hb]
      cases hk : lh b with
      | none => exact ⟨rfl, rfl⟩
      | some k =>
        simp only [reach, hk] at h
        have h' := fun b hb => h b (List.mem_cons_of_mem _ hb)
        simp only
        exact ⟨by rw [(many k.els h').1], by rw [(many k.els h').2]⟩
    | agg cs => obtain ⟨h1, h2⟩ := many cs h; exact ⟨by simp only [frz, h1], by simp only [reach, h2]⟩
    | tup cs => obtain ⟨h1, h2⟩ := many cs h; exact ⟨by simp only [frz, h1], by simp only [reach, h2]⟩
    | fn f cs => obtain ⟨h1, h2⟩ := many cs h; exact ⟨by simp only [frz, h1], by simp only [reach, h2]⟩
    | iface t v => obtain ⟨h1, h2⟩ := ih v h; exact ⟨by simp only [frz, h1], by simp only [reach, h2]⟩

theorem frz_all {lh lh' : Nat → Option LB} (n : Nat) : ∀ (l : List AV), (∀ b ∈ l.flatMap (reach lh n), lh' b = lh b) → l.mapM (frz lh' n) = l.mapM (frz lh n) ∧ l.flatMap (reach lh' n) = l.flatMap (reach lh n)
  | [], _ => ⟨rfl, rfl⟩
  | x :: l, h => by
    simp only [List.flatMap_cons, List.mem_append] at h
    obtain ⟨h1, h2⟩ := frz_congr n x (fun b hb => h b (.inl hb))
    obtain ⟨h3, h4⟩ := frz_all n l (fun b hb => h b (.inr hb))
    exact ⟨by simp only [List.mapM_cons, h1, h3], by simp only [List.flatMap_cons, h2, h4]⟩

theorem RunB.frame {P : Program} {gs : List Nat} {m : BM} {lh : Nat → Option LB} {rs : List Nat} {a : OpR} (h : RunB (calls P gs) m lh rs a) {lh' : Nat → Option LB}
    (hr : ∀ b ∈ rs, lh' b = lh b) : RunB (calls P gs) m lh' rs a := by
  induction h with
  | pure a lh => exact .pure a lh'
  | get b k lh x rs a h t ih => exact .get b k lh' x rs a (by rw [hr b (by simp)]; exact h) (ih (fun b hb => hr b (by simp [hb])))
  | call nid g args lh r rs h =>
    refine .call nid g args lh' r rs ?_
    obtain ⟨ds, p, h1, h2, h3, h4⟩ := h
    subst h3
    obtain ⟨e1, e2⟩ := frz_all 8 args hr
    refine ⟨ds, p, by rw [e1]; exact h1, h2, e2.symm, ?_⟩
    rcases h4 with h4 | h4
    · exact .inl h4
    · refine .inr ?_
      rw [h4]
      have : deaden lh' (args.flatMap (reach lh 8)) = deaden lh (args.flatMap (reach lh 8)) := List.map_congr_left fun b hb => by rw [hr b hb]
      rw [this]

theorem map_ev {ev ev' : Operand → AV} (l : List Operand) (h : ∀ x ∈ l, ev x = ev' x) : l.map ev = l.map ev' := List.map_congr_left h

theorem map_parts {ev ev' : Operand → AV} (l : List (Nat × Operand)) (h : ∀ p ∈ l, ev p.2 = ev' p.2) : (l.map fun (i, x) => (i, ev x)) = (l.map fun (i, x) => (i, ev' x)) :=
  List.map_congr_left fun p hp => by simp only [h p hp]

theorem all_parts {ev ev' : Operand → AV} (l : List (Nat × Operand)) (h : ∀ p ∈ l, ev p.2 = ev' p.2) : (l.all fun (_, x) => (ev x).cells.all avOne) = (l.all fun (_, x) => (ev' x).cells.all avOne) := by
  induction l with
  | nil => rfl
  | cons p l ih => simp only [List.all_cons, h p (by simp), ih (fun q hq => h q (by simp [hq]))]

theorem opt_ev {ev ev' : Operand → AV} (x : Option Operand) (h : ∀ y ∈ x.toArray, ev y = ev' y) : x.map ev = x.map ev' := by
  cases x with
  | none => rfl
  | some y => simp only [Option.map_some, h y (by simp)]

/-- What an operation's abstract form hangs on. -/
theorem opB_congr (P : Program) (nid : Nat) {ev ev' : Operand → AV} (o : Op) (h : ∀ x ∈ o.operands, ev x = ev' x) : opB P nid ev o = opB P nid ev' o := by
  cases o with
  | build t parts =>
    have hp : ∀ p ∈ parts.toList, ev p.2 = ev' p.2 := fun p hp => h p.2 (by simp only [Op.operands]; simpa using ⟨p.1, by simpa using hp⟩)
    simp only [opB, map_parts _ hp, all_parts _ hp]
  | buildSlice t len parts =>
    have hp : ∀ p ∈ parts.toList, ev p.2 = ev' p.2 := fun p hp => h p.2 (by simp only [Op.operands]; simpa using ⟨p.1, by simpa using hp⟩)
    simp only [opB, map_parts _ hp, all_parts _ hp]
  | makeFunc fn first caps =>
    have hp : ∀ x ∈ caps.toList, ev x = ev' x := fun x hx => h x (by simp only [Op.operands]; simp; exact .inr (by simpa using hx))
    cases fn <;> simp only [opB, map_ev _ hp]
  | slice t x lo hi mx =>
    have h1 := h x (by simp [Op.operands])
    have h2 := opt_ev (ev := ev) (ev' := ev') lo (fun y hy => h y (by simp only [Op.operands, Array.mem_append]; exact .inl (.inl (.inr hy))))
    have h3 := opt_ev (ev := ev) (ev' := ev') hi (fun y hy => h y (by simp only [Op.operands, Array.mem_append]; exact .inl (.inr hy)))
    cases mx with
    | none => simp only [opB, h1, h2, h3]
    | some m =>
      have h4 := h m (by simp [Op.operands])
      simp only [opB, h1, h2, h3, h4]
  | call cl =>
    obtain ⟨callee, args, ts⟩ := cl
    have ha : ∀ x ∈ args.toList, ev x = ev' x := fun x hx => h x (by simp only [Op.operands, Call.operands, Array.mem_append]; exact .inr (by simpa using hx))
    have hg : ∀ i, i < args.size → ev (args.getD i (.tmp 0)) = ev' (args.getD i (.tmp 0)) := fun i hi => ha _ (by simp [Array.getD, hi])
    cases callee with
    | value fv =>
      have hv := h fv (by simp [Op.operands, Call.operands])
      simp only [opB, hv, map_ev _ ha]
    | invoke r m => rfl
    | builtin b =>
      cases b with
      | append =>
        simp only [opB]
        split
        · rename_i hsz
          rw [hg 0 (by omega), hg 1 (by omega)]
        · rfl
      | len =>
        simp only [opB]
        split
        · rename_i hsz
          rw [hg 0 (by omega)]
        · rfl
      | min =>
        simp only [opB]
        split
        · rename_i hsz
          rw [hg 0 (by omega), hg 1 (by omega)]
        · rfl
      | max =>
        simp only [opB]
        split
        · rename_i hsz
          rw [hg 0 (by omega), hg 1 (by omega)]
        · rfl
      | cap =>
        simp only [opB]
        split
        · rename_i hsz
          rw [hg 0 (by omega)]
        · rfl
      | copy =>
        simp only [opB]
        split
        · rename_i hsz
          rw [hg 0 (by omega), hg 1 (by omega)]
        · rfl
      | _ => rfl
  | move x => have h1 := h x (by simp [Op.operands]); simp only [opB, h1]
  | assign x => have h1 := h x (by simp [Op.operands]); simp only [opB, h1]
  | pick a b c => have h1 := h a (by simp [Op.operands]); have h2 := h b (by simp [Op.operands]); have h3 := h c (by simp [Op.operands]); simp only [opB, h1, h2, h3]
  | box t x => have h1 := h x (by simp [Op.operands]); simp only [opB, h1]
  | load t x => have h1 := h x (by simp [Op.operands]); simp only [opB, h1]
  | store t x y => have h1 := h x (by simp [Op.operands]); have h2 := h y (by simp [Op.operands]); simp only [opB, h1, h2]
  | nilCheck x => have h1 := h x (by simp [Op.operands]); simp only [opB, h1]
  | binOp op t x y t' =>
    have h1 := h x (by simp [Op.operands])
    have h2 := h y (by simp [Op.operands])
    cases y <;> simp only [opB, h1, h2]
  | unOp op t x => have h1 := h x (by simp [Op.operands]); simp only [opB, h1]
  | convert s t x => have h1 := h x (by simp [Op.operands]); simp only [opB, h1]
  | makeInterface t x => have h1 := h x (by simp [Op.operands]); simp only [opB, h1]
  | makeSlice t x y => have h1 := h x (by simp [Op.operands]); have h2 := h y (by simp [Op.operands]); simp only [opB, h1, h2]
  | fieldAddr s x f => have h1 := h x (by simp [Op.operands]); simp only [opB, h1]
  | field s x f => have h1 := h x (by simp [Op.operands]); simp only [opB, h1]
  | indexAddr t x i => have h1 := h x (by simp [Op.operands]); have h2 := h i (by simp [Op.operands]); simp only [opB, h1, h2]
  | index t x i => have h1 := h x (by simp [Op.operands]); have h2 := h i (by simp [Op.operands]); simp only [opB, h1, h2]
  | extract x i => have h1 := h x (by simp [Op.operands]); simp only [opB, h1]
  | typeAssert x s t ok => have h1 := h x (by simp [Op.operands]); simp only [opB, h1]
  | panic x => have h1 := h x (by simp [Op.operands]); simp only [opB, h1]
  | _ => rfl

theorem zH1 : ∀ (chg : List (Nat × Option LB)) (lh : Nat → Option LB) (b : Nat), b ∉ chg.map (·.1) → applyChg lh chg b = lh b
  | [], _, _, _ => rfl
  | p :: r, lh, b, h => by
    simp only [List.map_cons, List.mem_cons, not_or] at h
    have := zH1 r (upd lh p.1 p.2) b h.2
    simp only [applyChg, List.foldl_cons] at this ⊢
    rw [this, zI1 _ _ _ _ h.1]

theorem applyChg_in : ∀ (chg : List (Nat × Option LB)) (lh lh' : Nat → Option LB) (b : Nat), b ∈ chg.map (·.1) → applyChg lh chg b = applyChg lh' chg b
  | [], _, _, _, h => by simp at h
  | p :: r, lh, lh', b, h => by
    simp only [applyChg, List.foldl_cons]
    by_cases hr : b ∈ r.map (·.1)
    · exact applyChg_in r (upd lh p.1 p.2) (upd lh' p.1 p.2) b hr
    · have hb : b = p.1 := by simp only [List.map_cons, List.mem_cons] at h; rcases h with h | h; exact h; exact absurd h hr
      have e1 := zH1 r (upd lh p.1 p.2) b hr
      have e2 := zH1 r (upd lh' p.1 p.2) b hr
      simp only [applyChg] at e1 e2
      rw [e1, e2, hb, upd_same, upd_same]

theorem applyChg_comm (lh : Nat → Option LB) (c1 c2 : List (Nat × Option LB)) (h : ∀ b ∈ c1.map (·.1), b ∉ c2.map (·.1)) : applyChg (applyChg lh c1) c2 = applyChg (applyChg lh c2) c1 := by
  funext b
  by_cases h1 : b ∈ c1.map (·.1)
  · rw [zH1 c2 _ b (h b h1)]
    exact applyChg_in c1 _ _ b h1
  · rw [zH1 c1 _ b h1]
    by_cases h2 : b ∈ c2.map (·.1)
    · exact applyChg_in c2 _ _ b h2
    · rw [zH1 c2 _ b h2, zH1 c2 _ b h2, zH1 c1 _ b h1]

/-- One operation of a region, its number giving the name of the block that it makes. -/
inductive StepD (E : CallE) (P : Program) (ops : Array Oper) (n0 : Nat) (pd : Option (Nat × DV)) (i : Nat) (o : Oper) (σ : St) : St → TE → Prop where
  | run (r : OpR) (rs : List Nat) (hg : guardA ops σ.env o = some true) (h : RunB E (opB P (n0 + i) σ.eval o.op) σ.lh rs r) (hn : r.nid ≤ n0 + i + 1) (hi : ∀ d, pd ≠ some (i, d)) :
      StepD E P ops n0 pd i o σ { env := putE σ.env o.dst r.v, lh := applyChg σ.lh r.chg, nid := σ.nid, dfs := σ.dfs } ⟨rs, r.chg.map (·.1)⟩
  | skip (hg : guardA ops σ.env o = some false) (hi : ∀ d, pd ≠ some (i, d)) : StepD E P ops n0 pd i o σ { σ with env := putE σ.env o.dst (.d (.tup [])) } ⟨[], []⟩
  | pan (d : DV) (f : FuncId) (args : List AV) (rs : List Nat) (hpd : pd = some (i, d)) (hg : guardA ops σ.env o = some true) (h : opB P (n0 + i) σ.eval o.op = .call (n0 + i) f args) (hp : E.panD σ.lh f args rs d) :
      StepD E P ops n0 pd i o σ { σ with env := putE σ.env o.dst .undef } ⟨rs, []⟩

/-- Two operations have nothing to do with each other. -/
def Indep (x y : TE) : Prop :=
  (∀ b ∈ y.writes, b ∉ x.reads ∧ b ∉ x.writes) ∧ (∀ b ∈ x.writes, b ∉ y.reads)

theorem eval_putE (σ : St) (dst : Option Tmp) (v : AV) (lh : Nat → Option LB) (nid : Nat) (dfs : List (FuncId × List AV)) (x : Operand) (h : ∀ d, dst = some d → x ≠ .tmp d) : St.eval ⟨putE σ.env dst v, lh, nid, dfs⟩ x = σ.eval x := by
  cases x with
  | tmp t =>
    cases dst with
    | none => rfl
    | some d =>
      simp only [St.eval, putE]
      exact zI1 _ _ _ _ (fun e => h d rfl (by rw [e]))
  | _ => rfl

theorem guardA_putE {ops : Array Oper} {o : Oper} (env : Nat → AV) (dst : Option Tmp) (v : AV) (h : ∀ d, dst = some d → d ∉ o.looksAt ops) : guardA ops (putE env dst v) o = guardA ops env o := by
  cases dst with
  | none => rfl
  | some d =>
    unfold guardA
    cases hg : o.guard with
    | none => rfl
    | some p =>
      obtain ⟨j, want⟩ := p
      simp only
      cases hd : (ops[j]?).bind (·.dst) with
      | none => rfl
      | some d' =>
        simp only [putE]
        have hne : d' ≠ d := fun e => by
          apply h d rfl
          simp only [Oper.looksAt, hg, hd, List.mem_append]
          right; simp [e]
        rw [zI1 _ _ _ _ hne]

theorem putE_comm (env : Nat → AV) (x y : Option Tmp) (v u : AV) (h : ∀ d, x = some d → y ≠ some d) : putE (putE env x v) y u = putE (putE env y u) x v := by
  cases x with
  | none => rfl
  | some d =>
    cases y with
    | none => rfl
    | some e =>
      have hne : d ≠ e := fun q => h d rfl (by rw [q])
      funext j
      simp only [putE, upd]
      by_cases h1 : j = e <;> by_cases h2 : j = d <;> simp_all

section
variable {P : Program} {gs : List Nat} {ops : Array Oper} {n0 : Nat} {pd : Option (Nat × DV)}

theorem StepD.parts {E : CallE} {i : Nat} {o : Oper} {σ σ' : St} {t : TE} (h : StepD E P ops n0 pd i o σ σ' t) : ∃ v chg, σ' = { env := putE σ.env o.dst v, lh := applyChg σ.lh chg, nid := σ.nid, dfs := σ.dfs } ∧ t.writes = chg.map (·.1) ∧
    (∀ τ : St, (∀ x ∈ o.op.operands, τ.eval x = σ.eval x) → guardA ops τ.env o = guardA ops σ.env o → (∀ b ∈ t.reads, τ.lh b = σ.lh b) → E = calls P gs →
      StepD E P ops n0 pd i o τ { env := putE τ.env o.dst v, lh := applyChg τ.lh chg, nid := τ.nid, dfs := τ.dfs } t) := by
  cases h with
  | run r rs hg h hn hi =>
    refine ⟨r.v, r.chg, rfl, rfl, fun τ h1 h2 h3 hE => ?_⟩
    subst hE
    refine .run r rs (h2.trans hg) ?_ hn hi
    rw [opB_congr P (n0 + i) o.op h1]
    exact h.frame h3
  | skip hg hi =>
    refine ⟨.d (.tup []), [], rfl, rfl, fun τ h1 h2 h3 hE => ?_⟩
    exact .skip (h2.trans hg) hi
  | pan d f args rs hpd hg h hp =>
    refine ⟨.undef, [], rfl, rfl, fun τ h1 h2 h3 hE => ?_⟩
    subst hE
    obtain ⟨ds, p1, p2, p3, rfl⟩ := hp
    obtain ⟨e1, e2⟩ := frz_all (lh' := τ.lh) 8 args h3
    exact .pan d f args _ hpd (h2.trans hg) (by rw [opB_congr P (n0 + i) o.op h1]; exact h) ⟨ds, by rw [e1]; exact p1, p2, p3, e2.symm⟩

/-- They may change places. -/
theorem StepD.swap {i j : Nat} {oi oj : Oper} {σ σ1 σ2 : St} {ti tj : TE} (hj : StepD (calls P gs) P ops n0 pd j oj σ σ1 tj) (hi : StepD (calls P gs) P ops n0 pd i oi σ1 σ2 ti) (hap : oi.apart ops oj = true) (hI : Indep ti tj) :
    ∃ σ1', StepD (calls P gs) P ops n0 pd i oi σ σ1' ti ∧ StepD (calls P gs) P ops n0 pd j oj σ1' σ2 tj := by
  obtain ⟨a1, a2, a3⟩ := Oper.apart_spec hap
  obtain ⟨vj, cj, rfl, wj, mj⟩ := hj.parts (gs := gs)
  obtain ⟨vi, ci, rfl, wi, mi⟩ := hi.parts (gs := gs)
  obtain ⟨i1, i2⟩ := hI
  have look : ∀ (o : Oper) (x : Operand) (d : Tmp), x ∈ o.op.operands → x = .tmp d → d ∈ o.looksAt ops := fun o x d hx e => by
    subst e
    exact List.mem_append_left _ (List.mem_filterMap.2 ⟨.tmp d, by simpa using hx, rfl⟩)
  have step1 := mi σ (fun x hx => (eval_putE σ oj.dst vj _ _ _ x (fun d hd e => a3 d hd (look oi x d hx e))).symm) (guardA_putE σ.env oj.dst vj a3).symm
    (fun b hb => (zH1 cj σ.lh b (fun hw => (i1 b (by rw [wj]; exact hw)).1 hb)).symm) rfl
  refine ⟨_, step1, ?_⟩
  have step2 := mj ⟨putE σ.env oi.dst vi, applyChg σ.lh ci, σ.nid, σ.dfs⟩ (fun x hx => eval_putE σ oi.dst vi _ _ _ x (fun d hd e => a1 d hd (look oj x d hx e))) (guardA_putE σ.env oi.dst vi a1)
    (fun b hb => zH1 ci σ.lh b (fun hw => i2 b (by rw [wi]; exact hw) hb)) rfl
  have e1 : putE (putE σ.env oi.dst vi) oj.dst vj = putE (putE σ.env oj.dst vj) oi.dst vi := putE_comm _ _ _ _ _ a2
  have e2 : applyChg (applyChg σ.lh ci) cj = applyChg (applyChg σ.lh cj) ci := (applyChg_comm σ.lh cj ci (fun b hb => by
    rw [← wj] at hb; rw [← wi]; exact (i1 b hb).2)).symm
  simp only [e1, e2] at step2
  exact step2
end
end Go.Proofs.Am

set_option linter.unusedVariables false
set_option linter.unusedSimpArgs false
namespace Go.Proofs.Am
open Go Go.RowKit

inductive PathD (E : CallE) (P : Program) (ops : Array Oper) (n0 : Nat) (pd : Option (Nat × DV)) (tr : Nat → TE) : List Nat → St → St → Prop where
  | nil (σ : St) : PathD E P ops n0 pd tr [] σ σ
  | cons (i : Nat) (o : Oper) (l : List Nat) (σ σ1 σ2 : St) (h : ops[i]? = some o) (s : StepD E P ops n0 pd i o σ σ1 (tr i)) (t : PathD E P ops n0 pd tr l σ1 σ2) : PathD E P ops n0 pd tr (i :: l) σ σ2

def direct (o : Oper) (j : Nat) : Bool := o.after.any fun e => Region.binds .any e && e.on == j

section
variable {P : Program} {gs : List Nat} {ops : Array Oper} {n0 : Nat} {pd : Option (Nat × DV)} {tr : Nat → TE}

theorem PathD.bubble {i : Nat} {oi : Oper} (hi : ops[i]? = some oi) : ∀ (l1 l2 : List Nat) (σ σ' : St), PathD (calls P gs) P ops n0 pd tr (l1 ++ i :: l2) σ σ' →
    (∀ j ∈ l1, ∀ oj, ops[j]? = some oj → oi.apart ops oj = true ∧ Indep (tr i) (tr j)) →
    ∃ σ1, StepD (calls P gs) P ops n0 pd i oi σ σ1 (tr i) ∧ PathD (calls P gs) P ops n0 pd tr (l1 ++ l2) σ1 σ'
  | [], l2, σ, σ', h, _ => by
    cases h with
    | cons _ o _ _ σ1 _ ho s t => rw [hi] at ho; cases ho; exact ⟨σ1, s, t⟩
  | j :: l1, l2, σ, σ', h, hc => by
    cases h with
    | cons _ oj _ _ σa _ ho s t =>
      obtain ⟨σb, s1, t1⟩ := PathD.bubble hi l1 l2 σa σ' t (fun j' hj' => hc j' (by simp [hj']))
      obtain ⟨h1, h2⟩ := hc j (by simp) oj ho
      obtain ⟨σ1, q1, q2⟩ := s.swap s1 h1 h2
      exact ⟨σ1, q1, .cons j oj _ _ σb _ ho q2 t1⟩

/-- The edges lead backwards. -/
def backwards (ops : Array Oper) : Bool := ops.toList.zipIdx.all fun (o, i) => o.after.all fun e => !Region.binds .any e || decide (e.on < i)

theorem backwards_at (h : backwards ops = true) {i : Nat} {o : Oper} (hi : ops[i]? = some o) : ∀ e ∈ o.after, Region.binds .any e = true → e.on < i := fun e he hb => by
  have hm : (o, i) ∈ ops.toList.zipIdx := by
    rw [List.mem_iff_getElem?]
    refine ⟨i, ?_⟩
    rw [List.getElem?_zipIdx]
    simp [hi]
  have := List.all_eq_true.1 h (o, i) hm
  have := Array.all_eq_true_iff_forall_mem.1 this e he
  simpa [hb] using this

theorem ready_mem {listed : Array Bool} {i : Nat} : i ∈ Region.ready .any ops listed ↔ ∃ o, ops[i]? = some o ∧ listed.getD i true = false ∧ ∀ e ∈ o.after, Region.binds .any e = true → listed.getD e.on false = true := by
  unfold Region.ready
  rw [List.mem_filter]
  constructor
  · rintro ⟨h1, h2⟩
    have hlt : i < ops.size := by simpa using h1
    simp only [Bool.and_eq_true, Bool.not_eq_true'] at h2
    refine ⟨ops[i], by simp [hlt], h2.1, fun e he hb => ?_⟩
    have h3 := h2.2
    simp only [Array.getElem?_eq_getElem hlt, Option.map_some, Option.getD_some] at h3
    have := Array.all_eq_true_iff_forall_mem.1 h3 e he
    simpa [hb] using this
  · rintro ⟨o, h1, h2, h3⟩
    have hlt := (Array.getElem?_eq_some_iff.1 h1).1
    refine ⟨by simpa using hlt, ?_⟩
    simp only [h1, h2, Option.map_some, Option.getD_some, Bool.not_false, Bool.true_and]
    exact Array.all_eq_true_iff_forall_mem.2 fun e he => by
      by_cases hb : Region.binds .any e = true
      · simp [hb, h3 e he hb]
      · simp [hb]

variable {c : Ctx}

/-- What is asked of pairs whose order is open. -/
def PairsOk (ops : Array Oper) (tr : Nat → TE) : Prop :=
  ∀ i oi j oj, j < i → ops[i]? = some oi → ops[j]? = some oj → direct oi j = true ∨ (oi.apart ops oj = true ∧ Indep (tr i) (tr j))

theorem sorted_split {l : List Nat} (hs : l.Pairwise (· < ·)) {i : Nat} (hi : i ∈ l) : ∃ l1 l2, l = l1 ++ i :: l2 ∧ ∀ j ∈ l1, j < i := by
  obtain ⟨l1, l2, rfl⟩ := List.append_of_mem hi
  refine ⟨l1, l2, rfl, fun j hj => ?_⟩
  rw [List.pairwise_append] at hs
  exact hs.2.2 j hj i (by simp)

theorem any_sound (hc : CtxOk gs c) (hd : ∀ o ∈ ops.toList, dstOk c.n o = true) (hb : backwards ops = true) (hp : PairsOk ops tr) {Q : Exit → St → Prop} {QP : DV → St → Prop} {σe : St} (hQ : Q .normal { σe with nid := n0 + ops.size }) (hm0 : c.m ≤ n0) :
    ∀ (fuel : Nat) (listed : Array Bool) (l : List Nat) (σ : St) (A : Nat → Prop) (ρ : Nat → Option BR) (a : Act) (w : World), listed.size = ops.size → l.Pairwise (· < ·) → (∀ i, i ∈ l ↔ i < ops.size ∧ listed.getD i true = false) → l.length ≤ fuel →
      PathD (calls P gs) P ops n0 none tr l σ σe → Sim c A ρ σ a w → (∀ b, n0 ≤ b → (∀ j, j < ops.size → j ∉ l → b ≠ n0 + j) → ρ b = none) → (∀ b, b < c.m → ρ b = c.ρ0 b) → wpAny P .any ops (QC c Q QP) fuel listed a w := by
  have fin : ∀ (σ : St) (A : Nat → Prop) (ρ : Nat → Option BR) (a : Act) (w : World), PathD (calls P gs) P ops n0 none tr [] σ σe → Sim c A ρ σ a w → (∀ b, n0 ≤ b → (∀ j, j < ops.size → j ∉ ([] : List Nat) → b ≠ n0 + j) → ρ b = none) → (∀ b, b < c.m → ρ b = c.ρ0 b) → QC c Q QP .normal a w := fun σ A ρ a w hP hS hF hB => by
    cases hP
    exact ⟨_, A, ρ, hQ, { hS with }, ⟨fun b hb => hF b (by simp only at hb; omega) (fun j hj _ => by simp only at hb; omega), by simp only; omega, hB⟩⟩
  have none_ready : ∀ (listed : Array Bool) (l : List Nat), l.Pairwise (· < ·) → (∀ i, i ∈ l ↔ i < ops.size ∧ listed.getD i true = false) → Region.ready .any ops listed = [] → listed.size = ops.size → l = [] := fun listed l hs hm hr hsz => by
    cases l with
    | nil => rfl
    | cons i r =>
      exfalso
      obtain ⟨h1, h2⟩ := (hm i).1 (by simp)
      have hio : ops[i]? = some ops[i] := by simp [h1]
      have : i ∈ Region.ready .any ops listed := ready_mem.2 ⟨ops[i], hio, h2, fun e he hbe => by
        have hlt := backwards_at hb hio e he hbe
        have hnl : e.on ∉ i :: r := fun hin => by
          rcases List.mem_cons.1 hin with h | h
          · omega
          · have := (List.pairwise_cons.1 hs).1 _ h; omega
        have hsz2 : e.on < listed.size := by omega
        have h3 : listed.getD e.on true ≠ false := fun h => hnl ((hm e.on).2 ⟨by omega, h⟩)
        simp only [Array.getD, hsz2, dif_pos] at h3 ⊢
        simpa using h3⟩
      rw [hr] at this; cases this
  intro fuel
  induction fuel with
  | zero =>
    intro listed l σ A ρ a w hsz hs hm hl hP hS hF hB
    have : l = [] := List.eq_nil_of_length_eq_zero (by omega)
    subst this
    refine ⟨?_, fin σ A ρ a w hP hS hF hB⟩
    rw [List.eq_nil_iff_forall_not_mem]
    intro i hi
    obtain ⟨o, h1, h2, _⟩ := ready_mem.1 hi
    have := (hm i).2 ⟨(Array.getElem?_eq_some_iff.1 h1).1, h2⟩
    cases this
  | succ fuel ih =>
    intro listed l σ A ρ a w hsz hs hm hl hP hS hF hB
    refine ⟨fun hr => ?_, fun i hi => ?_⟩
    · have := none_ready listed l hs hm hr hsz
      subst this
      exact fin σ A ρ a w hP hS hF hB
    · obtain ⟨oi, hoi, hun, hre⟩ := ready_mem.1 hi
      have hilt := (Array.getElem?_eq_some_iff.1 hoi).1
      have hil := (hm i).2 ⟨hilt, hun⟩
      obtain ⟨l1, l2, rfl, hlt⟩ := sorted_split hs hil
      obtain ⟨σ1, hstep, hpath⟩ := hP.bubble hoi l1 l2 σ σe (fun j hj oj hoj => by
        rcases hp i oi j oj (hlt j hj) hoi hoj with h | h
        · exfalso
          unfold direct at h
          obtain ⟨x, hx, h2⟩ := Array.any_eq_true.1 h
          simp only [Bool.and_eq_true, beq_iff_eq] at h2
          have h3 := hre oi.after[x] (Array.getElem_mem hx) h2.1
          obtain ⟨h4, h5⟩ := (hm j).1 (by simp [hj])
          rw [h2.2] at h3
          have : j < listed.size := by omega
          simp only [Array.getD, this, dif_pos] at h3 h5
          rw [h3] at h5; cases h5
        · exact h)
      have hdo : ∀ d, oi.dst = some d → d < c.n := fun d e => by
        have := hd oi (by rw [List.mem_iff_getElem?]; exact ⟨i, by simpa using hoi⟩)
        simp only [dstOk, e, decide_eq_true_eq] at this; exact this
      have hni : i ∉ l1 ∧ i ∉ l2 := by
        rw [List.pairwise_append, List.pairwise_cons] at hs
        exact ⟨fun h => by have := hlt i h; omega, fun h => by have := hs.2.1.1 i h; omega⟩
      have rest : ∀ (σ' : St) (A' : Nat → Prop) (ρ' : Nat → Option BR) (a' : Act) (w' : World), PathD (calls P gs) P ops n0 none tr (l1 ++ l2) σ' σe → Sim c A' ρ' σ' a' w' → (∀ b, ¬ (n0 + i ≤ b ∧ b < n0 + i + 1) → ρ' b = ρ b) →
          wpAny P .any ops (QC c Q QP) fuel (listed.setIfInBounds i true) a' w' := fun σ' A' ρ' a' w' hP' hS' hN => by
        refine ih _ (l1 ++ l2) σ' A' ρ' a' w' (by simpa using hsz) ?_ (fun j => ?_) (by simp at hl ⊢; omega) hP' hS' (fun b hb hj => ?_) (fun b hb => by rw [hN b (by omega)]; exact hB b hb)
        · rw [List.pairwise_append, List.pairwise_cons] at hs
          rw [List.pairwise_append]
          exact ⟨hs.1, hs.2.1.2, fun x hx y hy => hs.2.2 x hx y (by simp [hy])⟩
        · have h1 := hm j
          by_cases hji : j = i
          · subst hji
            constructor
            · intro h; rcases List.mem_append.1 h with h | h
              · exact absurd h hni.1
              · exact absurd h hni.2
            · rintro ⟨_, h⟩
              have : j < listed.size := by omega
              simp [Array.getD, this] at h
          · have e1 : (listed.setIfInBounds i true).getD j true = listed.getD j true := by
              simp only [Array.getD_eq_getD_getElem?, Array.getElem?_setIfInBounds]
              rw [if_neg (by omega)]
            rw [e1, ← h1]
            simp [hji]
        · have hbi : b ≠ n0 + i := hj i hilt (by rw [List.mem_append]; exact fun h => h.elim hni.1 hni.2)
          rw [hN b (by omega)]
          exact hF b hb (fun j hjl hjn => hj j hjl (fun h => hjn (by rcases List.mem_append.1 h with h | h <;> simp [h])))
      unfold wpOp
      rw [hoi]
      simp only
      generalize htr : tr i = te at hstep
      cases hstep with
      | run r rs hg h hn hi =>
        have hS' : Sim c A ρ { σ with nid := n0 + i } a w := { hS with }
        rw [zJ2 hS hg, if_pos rfl]
        refine .inl (op_sound (P := P) hc hS' oi hdo false (fun r' => r' = r.res σ.lh) (fun _ _ => False) _ _ (h.wp rfl) (fun r' e k hk => ?_) (fun h => by cases h) (fun r' x A' ρ' w' e hN hS1 => ?_) (fun d r' x A' ρ' w' h => h.elim))
        · subst e
          refine hF _ (by simp only; omega) (fun j hj hjl => ?_)
          simp only [OpR.res] at hk ⊢
          intro e2
          have : j = i := by omega
          exact hjl (by rw [this]; simp)
        · subst e
          refine rest { env := putE σ.env oi.dst r.v, lh := applyChg σ.lh r.chg, nid := σ.nid, dfs := σ.dfs } A' ρ' _ w' hpath ?_ (fun b hb => ?_)
          · exact { hS1 with }
          · exact hN.2 b (by simp only [OpR.res] at hb ⊢; omega)
      | pan d f args rs hpd => cases hpd
      | skip hg hi =>
        rw [zJ2 hS hg]
        simp only [Bool.false_eq_true, if_false]
        exact rest _ A ρ _ w hpath (hS.put (.d _ _ (.tup [] #[] rfl (fun i hi => by simp at hi))) oi.dst hdo) (fun _ _ => rfl)

/-- The slots and the blocks that a region may touch are given up. -/
def dropped (σ : St) (T W : List Nat) (n : Nat) : St :=
  ⟨fun t => if T.contains t then .undef else σ.env t, fun b => if W.contains b then none else σ.lh b, n, σ.dfs⟩

structure Near (σ0 σ : St) (T W : List Nat) : Prop where
  env : ∀ t, T.contains t = false → σ.env t = σ0.env t
  lh : ∀ b, W.contains b = false → σ.lh b = σ0.lh b
  dfs : σ.dfs = σ0.dfs

theorem Near.step {σ0 σ σ' : St} {T W : List Nat} {i : Nat} {o : Oper} {t : TE} {E : CallE} (h : Near σ0 σ T W) (hs : StepD E P ops n0 pd i o σ σ' t) (hT : ∀ d, o.dst = some d → T.contains d = true) (hW : ∀ b ∈ t.writes, W.contains b = true) : Near σ0 σ' T W := by
  have env1 : ∀ v t, T.contains t = false → putE σ.env o.dst v t = σ0.env t := fun v t ht => by
    cases hd : o.dst with
    | none => exact h.env t ht
    | some d =>
      have := hT d hd
      simp only [putE]
      rw [zI1 _ _ _ _ (fun e => by rw [e, this] at ht; cases ht)]
      exact h.env t ht
  cases hs with
  | run r rs hg hr hn hi =>
    refine ⟨fun t ht => env1 _ t ht, fun b hb => ?_, h.dfs⟩
    simp only
    rw [zH1 r.chg σ.lh b (fun hin => by rw [hW b hin] at hb; cases hb)]
    exact h.lh b hb
  | skip hg hi => exact ⟨fun t ht => env1 _ t ht, h.lh, h.dfs⟩
  | pan d f args rs hpd hg hr hp => exact ⟨fun t ht => env1 _ t ht, h.lh, h.dfs⟩

theorem Sim.dropped {A : Nat → Prop} {ρ : Nat → Option BR} {σ0 σ : St} {a : Act} {w : World} {T W : List Nat} (hS : Sim c A ρ σ a w) (hN : Near σ0 σ T W) (n : Nat) : Sim c A ρ (dropped σ0 T W n) a w := by
  have look : ∀ b k, (if W.contains b then none else σ0.lh b) = some k → σ.lh b = some k := fun b k h => by
    cases hw : W.contains b with
    | true => rw [hw] at h; cases h
    | false => rw [hw] at h; rw [hN.lh b hw]; exact h
  have some1 : ∀ b, (if W.contains b then none else σ0.lh b).isSome = true → (σ.lh b).isSome = true := fun b h => by
    obtain ⟨k, hk⟩ := Option.isSome_iff_exists.1 h
    rw [look b k hk]; rfl
  refine { size := hS.size, defers := ?_, env := fun t => ?_, blk := fun b r k h hk => hS.blk b r k h (look b k hk), inj := fun b r b' r' h h' s s' hg => hS.inj b r b' r' h h' (some1 b s) (some1 b' s') hg, own := fun b r k h hk hl => hS.own b r k h (look b k hk) hl, dead := fun b r k h hk hl => hS.dead b r k h (look b k hk) hl, lt := hS.lt, up := hS.up, new := hS.new, os := hS.os, tape := hS.tape, output := hS.output, hsize := hS.hsize, frame := hS.frame }
  · have := hS.defers; rw [hN.dfs] at this; exact this
  · simp only [Am.dropped]
    cases ht : T.contains t with
    | true => simp; exact .un _
    | false => simp only [Bool.false_eq_true, if_false]; rw [← hN.env t ht]; exact hS.env t

theorem anyP_sound (hc : CtxOk gs c) {p : Nat} {dp : DV} (hd : ∀ o ∈ ops.toList, dstOk c.n o = true) (hb : backwards ops = true) (hp : PairsOk ops tr) {D : List Nat} (hDp : p ∉ D) (hD : ∀ i ∈ D, ∀ o, ops[i]? = some o → ∃ j, (j = p ∨ j ∈ D) ∧ j < ops.size ∧ direct o j = true)
    (hND : ∀ i, i < ops.size → i ∉ D → ∀ o, ops[i]? = some o → ∀ j ∈ D, direct o j = false) {T W : List Nat} (hT : ∀ o ∈ ops.toList, ∀ d, o.dst = some d → T.contains d = true) (hW : ∀ i b, b ∈ (tr i).writes → W.contains b = true) {σ0 : St}
    {Q : Exit → St → Prop} {QP : DV → St → Prop} (hQ : QP dp (dropped σ0 T W (n0 + ops.size))) (hm0 : c.m ≤ n0) {σe : St} (hlt : p < ops.size) :
    ∀ (fuel : Nat) (listed : Array Bool) (l : List Nat) (σ : St) (A : Nat → Prop) (ρ : Nat → Option BR) (a : Act) (w : World), listed.size = ops.size → l.Pairwise (· < ·) → p ∈ l → listed.getD p true = false → (∀ i ∈ D, listed.getD i true = false ∨ ops.size ≤ i) → (∀ i, i ∈ l ↔ i < ops.size ∧ i ∉ D ∧ listed.getD i true = false) → l.length ≤ fuel →
      PathD (calls P gs) P ops n0 (some (p, dp)) tr l σ σe → Near σ0 σ T W → Sim c A ρ σ a w → (∀ b, n0 ≤ b → (∀ j, j < ops.size → j ∉ l → b ≠ n0 + j) → ρ b = none) → (∀ b, b < c.m → ρ b = c.ρ0 b) → wpAny P .any ops (QC c Q QP) fuel listed a w := by
  intro fuel
  induction fuel with
  | zero =>
    intro listed l σ A ρ a w hsz hs hpl hpu hDl hm hl hP hN hS hF hB
    have : l = [] := List.eq_nil_of_length_eq_zero (by omega)
    subst this; cases hpl
  | succ fuel ih =>
    intro listed l σ A ρ a w hsz hs hpl hpu hDl hm hl hP hN hS hF hB
    have unl : ∀ j, j < ops.size → listed.getD j false = true → listed.getD j true = true := fun j hj h => by
      have : j < listed.size := by omega
      simp only [Array.getD, this, dif_pos] at h ⊢; exact h
    refine ⟨fun hr => ?_, fun i hi => ?_⟩
    · exfalso
      cases l with
      | nil => cases hpl
      | cons i r =>
        obtain ⟨h1, h1D, h2⟩ := (hm i).1 (by simp)
        have hio : ops[i]? = some ops[i] := by simp [h1]
        have : i ∈ Region.ready .any ops listed := ready_mem.2 ⟨ops[i], hio, h2, fun e he hbe => by
          have hlt' := backwards_at hb hio e he hbe
          have hnl : e.on ∉ i :: r := fun hin => by
            rcases List.mem_cons.1 hin with h | h
            · omega
            · have := (List.pairwise_cons.1 hs).1 _ h; omega
          have hnD : e.on ∉ D := fun hin => by
            have := hND i h1 h1D _ hio e.on hin
            have h4 : direct ops[i] e.on = true := by
              unfold direct
              exact Array.any_eq_true.2 (by
                obtain ⟨k, hk, hke⟩ := Array.mem_iff_getElem.1 he
                exact ⟨k, hk, by rw [hke]; simp [hbe]⟩)
            rw [h4] at this; cases this
          have hsz2 : e.on < listed.size := by omega
          have h3 : listed.getD e.on true ≠ false := fun h => hnl ((hm e.on).2 ⟨by omega, hnD, h⟩)
          simp only [Array.getD, hsz2, dif_pos] at h3 ⊢
          simpa using h3⟩
        rw [hr] at this; cases this
    · obtain ⟨oi, hoi, hun, hre⟩ := ready_mem.1 hi
      have hilt := (Array.getElem?_eq_some_iff.1 hoi).1
      have nodir : ∀ j, j < ops.size → listed.getD j true = false → direct oi j = false := fun j hj hju => by
        cases hdir : direct oi j with
        | false => rfl
        | true =>
          exfalso
          unfold direct at hdir
          obtain ⟨x, hx, h2⟩ := Array.any_eq_true.1 hdir
          simp only [Bool.and_eq_true, beq_iff_eq] at h2
          have h3 := hre oi.after[x] (Array.getElem_mem hx) h2.1
          rw [h2.2] at h3
          rw [unl j hj h3] at hju; cases hju
      have hiD : i ∉ D := fun hin => by
        obtain ⟨j, hj, hjs, hdj⟩ := hD i hin oi hoi
        have : listed.getD j true = false := by
          rcases hj with rfl | hj
          · exact hpu
          · rcases hDl j hj with h | h
            · exact h
            · omega
        rw [nodir j hjs this] at hdj; cases hdj
      have hil := (hm i).2 ⟨hilt, hiD, hun⟩
      obtain ⟨l1, l2, rfl, hlt1⟩ := sorted_split hs hil
      obtain ⟨σ1, hstep, hpath⟩ := hP.bubble hoi l1 l2 σ σe (fun j hj oj hoj => by
        rcases hp i oi j oj (hlt1 j hj) hoi hoj with h | h
        · exfalso
          obtain ⟨h4, _, h5⟩ := (hm j).1 (by simp [hj])
          rw [nodir j h4 h5] at h; cases h
        · exact h)
      have hoim : oi ∈ ops.toList := by rw [List.mem_iff_getElem?]; exact ⟨i, by simpa using hoi⟩
      have hdo : ∀ d, oi.dst = some d → d < c.n := fun d e => by
        have := hd oi hoim
        simp only [dstOk, e, decide_eq_true_eq] at this; exact this
      have hni : i ∉ l1 ∧ i ∉ l2 := by
        rw [List.pairwise_append, List.pairwise_cons] at hs
        exact ⟨fun h => by have := hlt1 i h; omega, fun h => by have := hs.2.1.1 i h; omega⟩
      have hN1 := hN.step hstep (hT oi hoim) (hW i)
      have rest : i ≠ p → ∀ (σ' : St) (A' : Nat → Prop) (ρ' : Nat → Option BR) (a' : Act) (w' : World), PathD (calls P gs) P ops n0 (some (p, dp)) tr (l1 ++ l2) σ' σe → Near σ0 σ' T W → Sim c A' ρ' σ' a' w' → (∀ b, ¬ (n0 + i ≤ b ∧ b < n0 + i + 1) → ρ' b = ρ b) →
          wpAny P .any ops (QC c Q QP) fuel (listed.setIfInBounds i true) a' w' := fun hip σ' A' ρ' a' w' hP' hN' hS' hNm => by
        have e1 : ∀ j, j ≠ i → (listed.setIfInBounds i true).getD j true = listed.getD j true := fun j hji => by
          simp only [Array.getD_eq_getD_getElem?, Array.getElem?_setIfInBounds]
          rw [if_neg (by omega)]
        refine ih _ (l1 ++ l2) σ' A' ρ' a' w' (by simpa using hsz) ?_ ?_ (by rw [e1 p (Ne.symm hip)]; exact hpu) (fun j hj => ?_) (fun j => ?_) (by simp at hl ⊢; omega) hP' hN' hS' (fun b hb hj => ?_) (fun b hb => by rw [hNm b (by omega)]; exact hB b hb)
        · rw [List.pairwise_append, List.pairwise_cons] at hs
          rw [List.pairwise_append]
          exact ⟨hs.1, hs.2.1.2, fun x hx y hy => hs.2.2 x hx y (by simp [hy])⟩
        · rcases List.mem_append.1 hpl with h | h
          · simp [h]
          · rcases List.mem_cons.1 h with h | h
            · exact absurd h.symm hip
            · simp [h]
        · rw [e1 j (fun e => hiD (e ▸ hj))]; exact hDl j hj
        · have h1 := hm j
          by_cases hji : j = i
          · subst hji
            constructor
            · intro h; rcases List.mem_append.1 h with h | h
              · exact absurd h hni.1
              · exact absurd h hni.2
            · rintro ⟨_, _, h⟩
              have : j < listed.size := by omega
              simp [Array.getD, this] at h
          · rw [e1 j hji, ← h1]
            simp [hji]
        · have hbi : b ≠ n0 + i := hj i hilt (by rw [List.mem_append]; exact fun h => h.elim hni.1 hni.2)
          rw [hNm b (by omega)]
          exact hF b hb (fun j hjl hjn => hj j hjl (fun h => hjn (by rcases List.mem_append.1 h with h | h <;> simp [h])))
      unfold wpOp
      rw [hoi]
      simp only
      generalize htr : tr i = te at hstep
      cases hstep with
      | pan d f args rs hpd hg h hpn =>
        simp only [Option.some.injEq, Prod.mk.injEq] at hpd
        obtain ⟨rfl, rfl⟩ := hpd
        have hS' : Sim c A ρ { σ with nid := n0 + p } a w := { hS with }
        rw [zJ2 hS hg, if_pos rfl]
        refine .inl (op_sound (P := P) hc hS' oi hdo false (fun _ => False) (fun d r => d = dp ∧ r.nid = n0 + p ∧ r.lh = σ.lh) _ _ ?_ (fun r' e => e.elim) (fun h => by cases h) (fun r' x A' ρ' w' e => e.elim) (fun d r' x A' ρ' w' e hNm hS1 hx => ?_))
        · have h' : opB P (n0 + p) σ.eval oi.op = .call (n0 + p) f args := h
          show wpB (calls P gs) false (opB P (n0 + p) σ.eval oi.op) σ.lh _ _
          rw [h']
          exact .inr (.inr (.inr ⟨dp, rs, hpn, rfl, rfl, rfl⟩))
        · obtain ⟨rfl, e1, e2⟩ := e
          have hρ : ρ' = ρ := by
            funext b
            exact hNm.2 b (by simp only [e1]; omega)
          subst hρ
          have hS2 : Sim c A' ρ' σ a w' := by
            have : Sim c A' ρ' { σ with lh := r'.lh, nid := r'.nid } a w' := hS1
            rw [e2] at this
            exact { this with }
          exact ⟨d, x, _, A', ρ', rfl, hQ, hS2.dropped hN _, hx, ⟨fun b hb => hF b (by simp only [Am.dropped] at hb; omega) (fun j hj _ => by simp only [Am.dropped] at hb; omega), by simp only [Am.dropped]; omega, hB⟩⟩
      | run r rs hg h hn hi =>
        have hip : i ≠ p := fun e => hi dp (by rw [e])
        have hS' : Sim c A ρ { σ with nid := n0 + i } a w := { hS with }
        rw [zJ2 hS hg, if_pos rfl]
        refine .inl (op_sound (P := P) hc hS' oi hdo false (fun r' => r' = r.res σ.lh) (fun _ _ => False) _ _ (h.wp rfl) (fun r' e k hk => ?_) (fun h => by cases h) (fun r' x A' ρ' w' e hNm hS1 => ?_) (fun d r' x A' ρ' w' h => h.elim))
        · subst e
          refine hF _ (by simp only; omega) (fun j hj hjl => ?_)
          simp only [OpR.res] at hk ⊢
          intro e2
          have : j = i := by omega
          exact hjl (by rw [this]; simp)
        · subst e
          refine rest hip { env := putE σ.env oi.dst r.v, lh := applyChg σ.lh r.chg, nid := σ.nid, dfs := σ.dfs } A' ρ' _ w' hpath hN1 ?_ (fun b hb => ?_)
          · exact { hS1 with }
          · exact hNm.2 b (by simp only [OpR.res] at hb ⊢; omega)
      | skip hg hi =>
        have hip : i ≠ p := fun e => hi dp (by rw [e])
        rw [zJ2 hS hg]
        simp only [Bool.false_eq_true, if_false]
        exact rest hip _ A ρ _ w hpath hN1 (hS.put (.d _ _ (.tup [] #[] rfl (fun i hi => by simp at hi))) oi.dst hdo) (fun _ _ => rfl)

theorem Sim.drew {A : Nat → Prop} {ρ : Nat → Option BR} {σ : St} {a : Act} {w : World} (hS : Sim c A ρ σ a w) : Sim c A ρ σ a { w with drawn := w.drawn + 1 } := by
  have kp : Keeps w { w with drawn := w.drawn + 1 } A A := fun g h => ⟨h, rfl⟩
  exact { hS with defers := hS.defers.mono kp (fun _ _ h => h), env := fun t => (hS.env t).mono kp (fun _ _ h => h), blk := fun b r k h1 h2 => (hS.blk b r k h1 h2).mono kp (fun _ _ h => h) rfl }

/-- A REGION THAT DRAWS: one walk in the order of the text. -/
theorem draw_sound (hm : P.follows .mixedOrders = true) (hc : CtxOk gs c) {id : Nat} (hd : ∀ o ∈ ops.toList, dstOk c.n o = true) (hb : backwards ops = true) (hp : PairsOk ops tr) {Q : Exit → St → Prop} {QP : DV → St → Prop} {σ σe : St}
    {A : Nat → Prop} {ρ : Nat → Option BR} {a : Act} {w : World} (hP : PathD (calls P gs) P ops σ.nid none tr (List.range ops.size) σ σe) (hQ : Q .normal { σe with nid := σ.nid + ops.size }) (hS : Sim c A ρ σ a w) (hF : Fr c ρ σ.nid) :
    (Code.region id ops true).wp P (QC c Q QP) a w := by
  refine wp_region_any hm (any_sound hc hd hb hp hQ hF.le ops.size _ (List.range ops.size) σ A ρ a _ (by simp) List.pairwise_lt_range (fun i => ?_) (by simp) hP hS.drew (fun b hb _ => hF.free b hb) hF.base)
  constructor
  · intro h
    have h : i < ops.size := by simpa using h
    exact ⟨h, by simp [Array.getD, h]⟩
  · rintro ⟨h, _⟩; simpa using h
end
end Go.Proofs.Am

set_option linter.unusedVariables false
set_option linter.unusedSimpArgs false
namespace Go.Proofs.Am
open Go Go.RowKit

def te0 : TE := ⟨[], []⟩

/-- Operations that look at no local block. -/
def dry : Op → Bool
  | .move _ | .assign _ | .pick .. | .build .. | .nilCheck _ | .binOp .. | .unOp .. | .makeInterface .. | .makeFunc .. | .slice .. | .fieldAddr .. | .field .. | .indexAddr .. | .index .. | .extract .. | .typeAssert .. => true
  | .call { callee := .builtin .len, .. } => true
  | _ => false

/-- A drawn region's walk: what comes out, and what each operation read and wrote. -/
def wpD (E : CallE) (P : Program) (ops : Array Oper) (n0 : Nat) : List Oper → Nat → St → (St → List TE → Prop) → Prop
  | [], _, σ, K => K σ []
  | o :: rest, i, σ, K => match guardA ops σ.env o with
    | some true => wpBT E (opB P (n0 + i) σ.eval o.op) σ.lh fun r rs => r.nid ≤ n0 + i + 1 ∧
        wpD E P ops n0 rest (i + 1) { env := putE σ.env o.dst r.v, lh := applyChg σ.lh r.chg, nid := σ.nid, dfs := σ.dfs } fun σ' tr => K σ' (⟨rs, r.chg.map (·.1)⟩ :: tr)
    | some false => wpD E P ops n0 rest (i + 1) { σ with env := putE σ.env o.dst (.d (.tup [])) } fun σ' tr => K σ' (te0 :: tr)
    | none => False

/-- The same where operation p gives up with d; what depends on it (the list D) is not carried out. -/
def wpDP (E : CallE) (P : Program) (ops : Array Oper) (n0 p : Nat) (d : DV) (D : List Nat) : List Oper → Nat → St → (List TE → Prop) → Prop
  | [], _, σ, K => K []
  | o :: rest, i, σ, K =>
    if D.contains i = true then wpDP E P ops n0 p d D rest (i + 1) σ fun tr => K (te0 :: tr)
    else if i = p then guardA ops σ.env o = some true ∧ ∃ f args rs, opB P (n0 + i) σ.eval o.op = .call (n0 + i) f args ∧ E.panD σ.lh f args rs d ∧
        wpDP E P ops n0 p d D rest (i + 1) { σ with env := putE σ.env o.dst .undef } fun tr => K (⟨rs, []⟩ :: tr)
    else match guardA ops σ.env o with
      | some true => wpBT E (opB P (n0 + i) σ.eval o.op) σ.lh fun r rs => r.nid ≤ n0 + i + 1 ∧
          wpDP E P ops n0 p d D rest (i + 1) { env := putE σ.env o.dst r.v, lh := applyChg σ.lh r.chg, nid := σ.nid, dfs := σ.dfs } fun tr => K (⟨rs, r.chg.map (·.1)⟩ :: tr)
      | some false => wpDP E P ops n0 p d D rest (i + 1) { σ with env := putE σ.env o.dst (.d (.tup [])) } fun tr => K (te0 :: tr)
      | none => False

/-- D is what depends on p. -/
def skipOk (ops : Array Oper) (p : Nat) (D : List Nat) : Bool :=
  decide (p < ops.size) && !D.contains p && (D.all fun i => match ops[i]? with | some o => direct o p || (List.range ops.size).any fun j => D.contains j && direct o j | none => true) &&
    (ops.toList.zipIdx.all fun (o, i) => D.contains i || D.all fun j => !direct o j)

/-- Pairs whose order is open and of which both may look at local blocks. -/
def loose (ops : Array Oper) : List (Nat × Nat) :=
  ops.toList.zipIdx.flatMap fun (oi, i) => ops.toList.zipIdx.filterMap fun (oj, j) => if j < i ∧ direct oi j = false ∧ dry oi.op = false ∧ dry oj.op = false then some (i, j) else none

def drawOk (n : Nat) (ops : Array Oper) : Bool :=
  backwards ops && ops.toList.all (dstOk n) && ops.toList.zipIdx.all fun (oi, i) => ops.toList.zipIdx.all fun (oj, j) => !decide (j < i) || direct oi j || oi.apart ops oj

def codeOk (n : Nat) : Code → Bool
  | .region _ ops false => ops.toList.all (dstOk n)
  | .region _ ops true => drawOk n ops
  | .seq a b | .cond _ a b => codeOk n a && codeOk n b
  | .block _ c | .loop c | .scope c => codeOk n c
  | _ => true

def seqQ (Q : Exit → St → Prop) (K : St → Prop) : Exit → St → Prop
  | .normal, σ => K σ
  | e, σ => Q e σ

def blockQ (id : Nat) (Q : Exit → St → Prop) : Exit → St → Prop
  | .exit id', σ => if id' = id then Q .normal σ else Q (.exit id') σ
  | e, σ => Q e σ

def noGotoQ (Q : Exit → St → Prop) : Exit → St → Prop
  | .goto _, _ => False
  | e, σ => Q e σ

/-- The names in a value are below m, as far as d steps lead. -/
def bel (m : Nat) : Nat → AV → Bool
  | _, .d _ | _, .zc | _, .undef => true
  | _, .loc b _ _ _ | _, .slc b _ _ _ => decide (b < m)
  | 0, _ => false
  | d + 1, .agg cs => cs.all (bel m d)
  | d + 1, .tup cs => cs.all (bel m d)
  | d + 1, .fn _ cs => cs.all (bel m d)
  | d + 1, .iface _ v => bel m d v

/-- Names given to blocks anew. -/
def ren (π : Nat → Nat) : Nat → AV → AV
  | _, .loc b es i fo => .loc (π b) es i fo
  | _, .slc b es off len => .slc (π b) es off len
  | d + 1, .agg cs => .agg (cs.map (ren π d))
  | d + 1, .tup cs => .tup (cs.map (ren π d))
  | d + 1, .fn f cs => .fn f (cs.map (ren π d))
  | d + 1, .iface t v => .iface t (ren π d v)
  | _, v => v

/-- A state of which some is forgotten, and whose names from m on are given anew. -/
structure Forg (m : Nat) (σ σ₀ : St) : Prop where
  nid : m ≤ σ₀.nid
  dfs : σ₀.dfs = σ.dfs
  args : ∀ p ∈ σ.dfs, ∀ e ∈ p.2, bel m 8 e = true
  ex : ∃ π : Nat → Nat, (∀ b, b < m → π b = b) ∧ (∀ b b', (σ₀.lh b).isSome = true → (σ₀.lh b').isSome = true → π b = π b' → b = b') ∧
    (∀ t, σ₀.env t = .undef ∨ (σ.env t = ren π 8 (σ₀.env t) ∧ bel σ₀.nid 8 (σ₀.env t) = true)) ∧
    (∀ b, σ₀.lh b = none ∨ ∃ k, σ₀.lh b = some k ∧ σ.lh (π b) = some { k with els := k.els.map (ren π 8) } ∧ ∀ e ∈ k.els, bel σ₀.nid 8 e = true)

/-- A block's elements made data: the blocks that they lead to are given away; of the others some may be forgotten. -/
structure Frzn (σ τ : St) : Prop where
  env : τ.env = σ.env
  nid : τ.nid = σ.nid
  dfs : τ.dfs = σ.dfs
  ex : ∃ b k ds, σ.lh b = some k ∧ k.els.mapM (frz σ.lh 8) = some ds ∧ b ∉ k.els.flatMap (reach σ.lh 8) ∧ τ.lh b = some { k with els := ds.map .d } ∧
    ∀ x, x ≠ b → τ.lh x = none ∨ (τ.lh x = σ.lh x ∧ x ∉ k.els.flatMap (reach σ.lh 8))

/-- What may be done to a state at the head of a loop. -/
inductive Gh (m : Nat) : St → St → Prop where
  | refl (σ : St) : Gh m σ σ
  | forg {σ τ υ : St} (h : Forg m σ τ) (k : Gh m τ υ) : Gh m σ υ
  | frzn {σ τ υ : St} (h : Frzn σ τ) (k : Gh m τ υ) : Gh m σ υ

theorem Gh.trans {m : Nat} {σ τ υ : St} (h : Gh m σ τ) (k : Gh m τ υ) : Gh m σ υ := by
  induction h with
  | refl σ => exact k
  | forg h _ ih => exact .forg h (ih k)
  | frzn h _ ih => exact .frzn h (ih k)

def iterN (m : Nat) (body : (Exit → St → Prop) → St → Prop) (Q : Exit → St → Prop) : Nat → St → Prop
  | 0, _ => False
  | n + 1, σ => ∃ σ₀, Gh m σ σ₀ ∧ body (seqQ Q (iterN m body Q n)) σ₀

def WP (E : CallE) (P : Program) : Code → (Exit → St → Prop) → (DV → St → Prop) → St → Prop
  | .skip, Q, _, σ => Q .normal σ
  | .label _, Q, _, σ => Q .normal σ
  | .region _ ops false, Q, QP, σ => wpT E P ops ops.toList σ (Q .normal) QP
  | .region _ ops true, Q, QP, σ => (wpD E P ops σ.nid ops.toList 0 σ fun σ' tr => (∀ p ∈ loose ops, Indep (tr.getD p.1 te0) (tr.getD p.2 te0)) ∧ Q .normal { σ' with nid := σ.nid + ops.size }) ∨
      (∃ p d D, skipOk ops p D = true ∧ wpDP E P ops σ.nid p d D ops.toList 0 σ fun tr => (∀ p ∈ loose ops, Indep (tr.getD p.1 te0) (tr.getD p.2 te0)) ∧ QP d (dropped σ (ops.toList.filterMap (·.dst)) (tr.flatMap (·.writes)) (σ.nid + ops.size)))
  | .seq a b, Q, QP, σ => WP E P a (seqQ Q fun σ' => WP E P b Q QP σ') QP σ
  | .cond c a b, Q, QP, σ => match σ.eval c with
    | .d (.bool true) => WP E P a Q QP σ
    | .d (.bool false) => WP E P b Q QP σ
    | _ => False
  | .block id c, Q, QP, σ => WP E P c (blockQ id Q) QP σ
  | .loop c, Q, QP, σ => ∃ n, iterN σ.nid (fun Q' σ' => WP E P c Q' QP σ') Q n σ
  | .scope c, Q, QP, σ => WP E P c (noGotoQ Q) QP σ
  | .exit id, Q, _, σ => Q (.exit id) σ
  | .ret, Q, _, σ => Q .ret σ
  | _, _, _, _ => False

section
variable {P : Program} {gs : List Nat} {c : Ctx}

/-- Names given anew, below m. -/
def cut (m : Nat) (π : Nat → Nat) (ρ : Nat → Option BR) : Nat → Option BR := fun b => if b < m then ρ (π b) else none

theorem cut_eq {m : Nat} {π : Nat → Nat} {ρ : Nat → Option BR} {b : Nat} {r : BR} (h : cut m π ρ b = some r) : b < m ∧ ρ (π b) = some r := by
  unfold cut at h
  split at h
  · exact ⟨by assumption, h⟩
  · cases h

theorem bel_mono {m n : Nat} (hmn : m ≤ n) : ∀ (d : Nat) (v : AV), bel m d v = true → bel n d v = true := by
  intro d
  induction d with
  | zero =>
    intro v h
    cases v <;> first
      | rfl
      | (simp only [bel, decide_eq_true_eq] at h ⊢; omega)
      | exact h
  | succ d ih =>
    intro v h
    have al : ∀ (cs : List AV), cs.all (bel m d) = true → cs.all (bel n d) = true := fun cs h => List.all_eq_true.2 fun e he => ih e (List.all_eq_true.1 h e he)
    cases v with
    | agg cs => simp only [bel] at h ⊢; exact al cs h
    | tup cs => simp only [bel] at h ⊢; exact al cs h
    | fn f cs => simp only [bel] at h ⊢; exact al cs h
    | iface t v => rw [bel] at h ⊢; exact ih v h
    | loc b es i fo => simp only [bel, decide_eq_true_eq] at h ⊢; omega
    | slc b es o l => simp only [bel, decide_eq_true_eq] at h ⊢; omega
    | _ => rfl

/-- What leads to names below m alone keeps its names. -/
theorem ren_bel {m : Nat} {π : Nat → Nat} (hπ : ∀ b, b < m → π b = b) : ∀ (d : Nat) (v : AV), bel m d v = true → ren π d v = v := by
  intro d
  induction d with
  | zero =>
    intro v h
    cases v <;> first
      | rfl
      | (simp only [bel, decide_eq_true_eq] at h; simp only [ren, hπ _ h])
  | succ d ih =>
    intro v h
    have al : ∀ (cs : List AV), cs.all (bel m d) = true → cs.map (ren π d) = cs := fun cs h => by
      have := List.all_eq_true.1 h
      calc cs.map (ren π d) = cs.map id := List.map_congr_left fun e he => ih e (this e he)
        _ = cs := List.map_id cs
    cases v with
    | agg cs => simp only [bel] at h; simp only [ren, al cs h]
    | tup cs => simp only [bel] at h; simp only [ren, al cs h]
    | fn f cs => simp only [bel] at h; simp only [ren, al cs h]
    | iface t v => rw [bel] at h; rw [ren, ih v h]
    | loc b es i fo => simp only [bel, decide_eq_true_eq] at h; simp only [ren, hπ _ h]
    | slc b es o l => simp only [bel, decide_eq_true_eq] at h; simp only [ren, hπ _ h]
    | _ => rfl

theorem ren_ren (π₁ π₂ : Nat → Nat) : ∀ (d : Nat) (v : AV), ren π₁ d (ren π₂ d v) = ren (fun b => π₁ (π₂ b)) d v := by
  intro d
  induction d with
  | zero => intro v; cases v <;> rfl
  | succ d ih =>
    intro v
    have hf : (ren π₁ d ∘ ren π₂ d) = ren (fun b => π₁ (π₂ b)) d := funext ih
    cases v <;> first | rfl | simp only [ren, List.map_map, hf, ih]

theorem ren_undef {π : Nat → Nat} {d : Nat} {v : AV} (h : ren π d v = .undef) : v = .undef := by
  cases d <;> cases v <;> first | rfl | simp [ren] at h

theorem getD_ren (π : Nat → Nat) (d : Nat) (l : List AV) (i : Nat) : (l.map (ren π d)).getD i .undef = ren π d (l.getD i .undef) := by
  have e : ren π d .undef = .undef := by cases d <;> rfl
  by_cases h : i < l.length
  · simp [List.getD, List.getElem?_eq_getElem h]
  · simp [List.getD, List.getElem?_eq_none (Nat.le_of_not_lt h), e]

theorem bel_rep {w : World} {A : Nat → Prop} {ρ : Nat → Option BR} {π : Nat → Nat} {m : Nat} : ∀ (d : Nat) (v : AV) (x : Value), bel m d v = true → ARep w A ρ (ren π d v) x → ARep w A (cut m π ρ) v x := by
  have hc : ∀ b r, b < m → ρ (π b) = some r → cut m π ρ b = some r := fun b r h k => by unfold cut; rw [if_pos h]; exact k
  intro d
  induction d with
  | zero =>
    intro v x hb h
    cases v with
    | d v => simp only [ren] at h; cases h with
      | d _ _ h => exact .d _ x h
    | loc b es i fo => simp only [ren] at h; cases h with
      | loc _ es i fo r h he => exact .loc _ es i fo r (hc _ _ (by simpa [bel] using hb) h) he
    | slc b es off len => simp only [ren] at h; cases h with
      | slc _ es off len r h he hl => exact .slc _ es off len r (hc _ _ (by simpa [bel] using hb) h) he hl
    | zc => simp only [ren] at h; cases h with
      | zc a => exact .zc a
    | undef => exact .un x
    | _ => simp [bel] at hb
  | succ d ih =>
    intro v x hb h
    have el : ∀ (cs : List AV), cs.all (bel m d) = true → ∀ i, i < cs.length → bel m d (cs.getD i .undef) = true := fun cs h i hi =>
      List.all_eq_true.1 h _ (by simp [List.getD, List.getElem?_eq_getElem hi])
    cases v with
    | d v => simp only [ren] at h; cases h with
      | d _ _ h => exact .d _ x h
    | loc b es i fo => simp only [ren] at h; cases h with
      | loc _ es i fo r h he => exact .loc _ es i fo r (hc _ _ (by simpa [bel] using hb) h) he
    | slc b es off len => simp only [ren] at h; cases h with
      | slc _ es off len r h he hl => exact .slc _ es off len r (hc _ _ (by simpa [bel] using hb) h) he hl
    | zc => simp only [ren] at h; cases h with
      | zc a => exact .zc a
    | undef => exact .un x
    | agg cs => simp only [ren] at h; cases h with
      | agg _ vs hl hone hh =>
        refine .agg cs vs (by simpa using hl) (fun i hi => hone i (by simpa using hi)) fun i hi => ih _ _ (el cs (by simpa only [bel] using hb) i hi) ?_
        have := hh i (by simpa using hi)
        rw [getD_ren] at this; exact this
    | tup cs => simp only [ren] at h; cases h with
      | tup _ vs hl hh =>
        refine .tup cs vs (by simpa using hl) fun i hi => ih _ _ (el cs (by simpa only [bel] using hb) i hi) ?_
        have := hh i (by simpa using hi)
        rw [getD_ren] at this; exact this
    | fn f cs => simp only [ren] at h; cases h with
      | fn _ _ vs hl hh =>
        refine .fn f cs vs (by simpa using hl) fun i hi => ih _ _ (el cs (by simpa only [bel] using hb) i hi) ?_
        have := hh i (by simpa using hi)
        rw [getD_ren] at this; exact this
    | iface t v => simp only [ren] at h; cases h with
      | iface _ _ x hh => exact .iface t v x (ih _ _ (by simpa only [bel] using hb) hh)

theorem bel_getD {m : Nat} {l : List AV} (h : ∀ e ∈ l, bel m 8 e = true) (i : Nat) : bel m 8 (l.getD i .undef) = true := by
  rcases Nat.lt_or_ge i l.length with hi | hi
  · exact h _ (by simp [List.getD, List.getElem?_eq_getElem hi])
  · simp [List.getD, List.getElem?_eq_none hi, bel]

theorem ren_len (π : Nat → Nat) (d : Nat) (e : AV) : (ren π d e).cells.length = e.cells.length := by
  cases d <;> cases e <;> first | rfl | simp [ren, AV.cells]

theorem ren_cells {m : Nat} {π : Nat → Nat} (e : AV) (i : Nat) (h : bel m 8 e = true) : ∃ d, bel m d (e.cells.getD i .undef) = true ∧ (ren π 8 e).cells.getD i .undef = ren π d (e.cells.getD i .undef) := by
  have one : ∀ e : AV, bel m 8 e = true → bel m 8 ([e].getD i .undef) = true ∧ ([ren π 8 e].getD i .undef) = ren π 8 ([e].getD i .undef) := fun e h => by
    cases i with
    | zero => exact ⟨h, rfl⟩
    | succ i => exact ⟨rfl, rfl⟩
  have dat : ∀ l : List DV, bel m 8 ((l.map AV.d).getD i .undef) = true ∧ (l.map AV.d).getD i .undef = ren π 8 ((l.map AV.d).getD i .undef) := fun l => by
    by_cases hi : i < l.length
    · rw [zG7 _ _ hi]; exact ⟨rfl, rfl⟩
    · simp [List.getD, List.getElem?_eq_none (Nat.le_of_not_lt hi), bel, ren]
  cases e with
  | agg cs =>
    refine ⟨7, ?_, ?_⟩
    · simp only [bel] at h
      simp only [AV.cells]
      by_cases hi : i < cs.length
      · exact List.all_eq_true.1 h _ (by simp [List.getD, List.getElem?_eq_getElem hi])
      · simp [List.getD, List.getElem?_eq_none (Nat.le_of_not_lt hi), bel]
    · simp only [ren, AV.cells]; exact getD_ren π 7 cs i
  | d v =>
    refine ⟨8, ?_⟩
    rw [show ren π 8 (AV.d v) = .d v from rfl, dcells]
    exact dat _
  | _ => exact ⟨8, one _ h⟩

/-- FORGETTING. -/
theorem Forg.sim {c : Ctx} {A : Nat → Prop} {ρ : Nat → Option BR} {σ σ₀ : St} {a : Act} {w : World} {m : Nat} (hf : Forg m σ σ₀) (hm : c.m ≤ m) (hS : Sim c A ρ σ a w) (hF : Fr c ρ σ.nid) :
    ∃ ρ₀, Sim c A ρ₀ σ₀ a w ∧ Fr c ρ₀ σ₀.nid := by
  obtain ⟨π, hπ, hinj, henv, hlh⟩ := hf.ex
  refine ⟨cut σ₀.nid π ρ, ?_⟩
  have lh' : ∀ b k, σ₀.lh b = some k → σ.lh (π b) = some { k with els := k.els.map (ren π 8) } ∧ ∀ e ∈ k.els, bel σ₀.nid 8 e = true := fun b k h => by
    rcases hlh b with h' | ⟨k', h1, h2, h3⟩
    · rw [h'] at h; cases h
    · rw [h1] at h; cases h; exact ⟨h2, h3⟩
  have some' : ∀ b, (σ₀.lh b).isSome = true → (σ.lh (π b)).isSome = true := fun b h => by
    obtain ⟨k, hk⟩ := Option.isSome_iff_exists.1 h
    rw [(lh' b k hk).1]; rfl
  refine ⟨{ hS with blk := ?_, inj := ?_, own := ?_, dead := ?_, defers := ?_, env := ?_ }, ⟨fun b hb => ?_, ?_, fun b hb => ?_⟩⟩
  · intro b r k h1 h2
    obtain ⟨_, h1⟩ := cut_eq h1
    obtain ⟨h2, h3⟩ := lh' b k h2
    obtain ⟨⟨cur, fr, p1, p2, p3, p4, p5⟩, q1, q2, q3, q4⟩ := hS.blk (π b) r _ h1 h2
    refine ⟨⟨cur, fr, p1, p2, p3, p4, fun j i hj hi => ?_⟩, q1, by simpa using q2, q3, fun j hj => ?_⟩
    · obtain ⟨v, r1, r2, r3⟩ := p5 j i (by simpa using hj) hi
      refine ⟨v, r1, r2, ?_⟩
      obtain ⟨d, s1, s2⟩ := ren_cells (π := π) (k.els.getD j .undef) i (bel_getD h3 j)
      have r3 : ARep w A ρ (((k.els.map (ren π 8)).getD j .undef).cells.getD i .undef) v := r3
      rw [getD_ren, s2] at r3
      exact bel_rep d _ _ s1 r3
    · have := q4 j (by simpa using hj)
      have this : (((k.els.map (ren π 8)).getD j .undef)).cells.length = k.es := this
      rw [getD_ren, ren_len] at this
      exact this
  · intro b r b' r' h1 h2 h3 h4 h5
    exact hinj b b' h3 h4 (hS.inj _ r _ r' (cut_eq h1).2 (cut_eq h2).2 (some' b h3) (some' b' h4) h5)
  · intro b r k h1 h2 h3; exact hS.own (π b) r _ (cut_eq h1).2 (lh' b k h2).1 h3
  · intro b r k h1 h2 h3; exact hS.dead (π b) r _ (cut_eq h1).2 (lh' b k h2).1 h3
  · have hd := hS.defers
    rw [hf.dfs]
    have ha := hf.args
    generalize σ.dfs = l at hd ha
    generalize a.defers = r at hd
    induction hd with
    | nil => exact .nil
    | cons f args l cap vals r h t ih =>
      refine .cons f args l cap vals r ⟨h.size, fun i hi => ?_⟩ (ih fun p hp => ha p (List.mem_cons_of_mem _ hp))
      have hb := bel_getD (ha _ (List.mem_cons_self ..)) i
      refine bel_rep 8 _ _ (bel_mono hf.nid 8 _ hb) ?_
      rw [ren_bel hπ 8 _ hb]
      exact h.at_ i hi
  · intro t
    rcases henv t with h | ⟨h1, h2⟩
    · rw [h]; exact .un _
    · exact bel_rep 8 _ _ h2 (by rw [← h1]; exact hS.env t)
  · unfold cut; rw [if_neg (by omega)]
  · exact Nat.le_trans hm hf.nid
  · have := hf.nid
    unfold cut; rw [if_pos (by omega), hπ b (by omega)]; exact hF.base b hb

/-- MADE DATA. -/
theorem Frzn.sim {c : Ctx} {A : Nat → Prop} {ρ : Nat → Option BR} {σ τ : St} {a : Act} {w : World} (hf : Frzn σ τ) (hS : Sim c A ρ σ a w) : ∃ A', Sim c A' ρ τ a w := by
  obtain ⟨b, k, ds, h1, h2, h3, h4, h5⟩ := hf.ex
  have hD := hS.donate (k.els.flatMap (reach σ.lh 8))
  generalize hbs : k.els.flatMap (reach σ.lh 8) = bs at hD h3 h5
  have hlh : ∀ x, x ∉ bs → applyChg σ.lh (deaden σ.lh bs) x = σ.lh x := fun x hx => by
    unfold deaden; rw [applyChg_map, if_neg hx]
  have look : ∀ x k', τ.lh x = some k' → (x = b ∧ k' = { k with els := ds.map .d }) ∨ (x ≠ b ∧ applyChg σ.lh (deaden σ.lh bs) x = some k') := fun x k' h => by
    by_cases hx : x = b
    · subst hx; rw [h4] at h; cases h; exact .inl ⟨rfl, rfl⟩
    · rcases h5 x hx with h6 | ⟨h6, h7⟩
      · rw [h6] at h; cases h
      · rw [h6] at h; exact .inr ⟨hx, (hlh x h7).trans h⟩
  have hb : applyChg σ.lh (deaden σ.lh bs) b = some k := (hlh b h3).trans h1
  have some1 : ∀ x, (τ.lh x).isSome = true → (applyChg σ.lh (deaden σ.lh bs) x).isSome = true := fun x h => by
    obtain ⟨k', hk⟩ := Option.isSome_iff_exists.1 h
    rcases look x k' hk with ⟨rfl, _⟩ | ⟨_, h⟩
    · rw [hb]; rfl
    · rw [h]; rfl
  refine ⟨_, { hD with blk := ?_, inj := fun x r x' r' e1 e2 s1 s2 hg => hD.inj x r x' r' e1 e2 (some1 x s1) (some1 x' s2) hg, own := ?_, dead := ?_, defers := ?_, env := ?_ }⟩
  · intro x r k' hr hk'
    rcases look x k' hk' with ⟨rfl, rfl⟩ | ⟨_, h⟩
    · obtain ⟨⟨cur, fr, p1, p2, p3, p4, p5⟩, e1, e2, e3, e4⟩ := hS.blk x r k hr h1
      obtain ⟨f1, f2⟩ := frz_list h2
      have cel : ∀ j, j < k.els.length → (ds.map AV.d).getD j .undef = .d (ds.getD j .inil) := fun j hj => zG7 _ _ (by omega)
      refine ⟨⟨cur, fr, p1, p2, p3, p4, fun j m hj hm => ?_⟩, e1, by simp only [List.length_map]; omega, e3, fun j hj => ?_⟩
      · simp only [List.length_map] at hj
        have hj' : j < k.els.length := by omega
        obtain ⟨y, q1, q2, q3⟩ := p5 j m hj' hm
        refine ⟨y, q1, q2, ?_⟩
        obtain ⟨g1, g2⟩ := frz_cells (f2 j hj')
        have hlen := e4 j hj'
        have hm : m < k.es := hm
        obtain ⟨n', _, g3, g4⟩ := g2 m (by omega)
        rw [cel j hj', dcells, zG7 _ _ (by omega)]
        exact .d _ _ (frz_sound (fun g h => .inl h) (fun b r k h1 h2 => hS.blk b r k h1 h2) n' _ _ y g3 (fun b' hb' r' k' h1' h2' => .inr ⟨b', r', k', by rw [← hbs]; exact reach_el (lh := σ.lh) (n := 8) hj' b' (g4 b' hb'), h1', h2', rfl⟩) q3)
      · simp only [List.length_map] at hj
        have hj' : j < k.els.length := by omega
        obtain ⟨g1, g2⟩ := frz_cells (f2 j hj')
        rw [cel j hj', dcells, List.length_map, g1]; exact e4 j hj'
    · exact hD.blk x r k' hr h
  · intro x r k' hr hk' hl
    rcases look x k' hk' with ⟨rfl, rfl⟩ | ⟨_, h⟩
    · exact hD.own x r k hr hb hl
    · exact hD.own x r k' hr h hl
  · intro x r k' hr hk' hl
    rcases look x k' hk' with ⟨rfl, rfl⟩ | ⟨_, h⟩
    · exact hD.dead x r k hr hb hl
    · exact hD.dead x r k' hr h hl
  · rw [hf.dfs]; exact hD.defers
  · rw [hf.env]; exact hD.env

theorem Gh.sim {c : Ctx} {m : Nat} {σ σ₀ : St} {a : Act} {w : World} (hg : Gh m σ σ₀) (hm : c.m ≤ m) : ∀ {A : Nat → Prop} {ρ : Nat → Option BR}, Sim c A ρ σ a w → Fr c ρ σ.nid → ∃ A' ρ₀, Sim c A' ρ₀ σ₀ a w ∧ Fr c ρ₀ σ₀.nid := by
  induction hg with
  | refl σ => intro A ρ hS hF; exact ⟨A, ρ, hS, hF⟩
  | forg h _ ih => intro A ρ hS hF; obtain ⟨ρ₁, h1, h2⟩ := h.sim hm hS hF; exact ih h1 h2
  | frzn h _ ih => intro A ρ hS hF; obtain ⟨A₁, h1⟩ := h.sim hS; exact ih h1 (by rw [h.nid]; exact hF)

theorem dry_opB {nid : Nat} {ev : Operand → AV} {o : Op} (hd : dry o = true) : opB P nid ev o = .fail ∨ ∃ v, opB P nid ev o = just nid v := by
  cases o with
  | call cl =>
    obtain ⟨callee, args, ts⟩ := cl
    cases callee with
    | builtin b =>
      cases b <;> first
        | (simp [dry] at hd; done)
        | (simp only [opB, BM.ofO]; repeat' split
           all_goals first | exact .inl rfl | exact .inr ⟨_, rfl⟩)
    | _ => simp [dry] at hd
  | makeFunc fn first caps =>
    cases fn <;> first
      | exact .inl rfl
      | (simp only [opB, BM.ofO]; repeat' split
         all_goals first | exact .inl rfl | exact .inr ⟨_, rfl⟩)
  | slice t x lo hi mx =>
    cases mx <;> first
      | exact .inl rfl
      | (simp only [opB, BM.ofO]; repeat' split
         all_goals first | exact .inl rfl | exact .inr ⟨_, rfl⟩)
  | _ => first
    | (simp [dry] at hd; done)
    | (simp only [opB, BM.ofO]; repeat' split
       all_goals first | exact .inl rfl | exact .inr ⟨_, rfl⟩)
    | exact .inr ⟨_, rfl⟩

theorem dry_te {E : CallE} {ops : Array Oper} {n0 i : Nat} {pd : Option (Nat × DV)} {o : Oper} {σ σ' : St} {t : TE} (hd : dry o.op = true) (h : StepD E P ops n0 pd i o σ σ' t) : t = te0 := by
  cases h with
  | skip => rfl
  | pan d f args rs hpd hg h hp =>
    rcases dry_opB (P := P) (nid := n0 + i) (ev := σ.eval) hd with e | ⟨v, e⟩
    · rw [e] at h; cases h
    · rw [e] at h; cases h
  | run r rs hg h hn hi =>
    rcases dry_opB (P := P) (nid := n0 + i) (ev := σ.eval) hd with e | ⟨v, e⟩
    · rw [e] at h; cases h
    · rw [e] at h; cases h; rfl

theorem indep_te0_left (t : TE) : Indep te0 t := ⟨fun b h => ⟨by simp [te0], by simp [te0]⟩, fun b h => by simp [te0] at h⟩
theorem indep_te0_right (t : TE) : Indep t te0 := ⟨fun b h => by simp [te0] at h, fun b h => by simp [te0]⟩

theorem wpD_path {E : CallE} {ops : Array Oper} {n0 : Nat} : ∀ (l : List Oper) (i : Nat) (σ : St) (K : St → List TE → Prop), (∀ k, l[k]? = ops[i + k]?) → wpD E P ops n0 l i σ K →
    ∃ σ' tr, K σ' tr ∧ ∀ f : Nat → TE, (∀ k, k < l.length → f (i + k) = tr.getD k te0) → PathD E P ops n0 none f (List.range' i l.length) σ σ'
  | [], i, σ, K, _, h => ⟨σ, [], h, fun f _ => .nil σ⟩
  | o :: rest, i, σ, K, hl, h => by
    have ho : ops[i]? = some o := by have := hl 0; simpa using this.symm
    have hl' : ∀ k, rest[k]? = ops[i + 1 + k]? := fun k => by have := hl (k + 1); simp at this; rw [this]; congr 1; omega
    simp only [wpD] at h
    split at h
    · rename_i hg
      obtain ⟨r, rs, hrun, hn, h⟩ := wpBT_run _ _ _ h
      obtain ⟨σ', tr, hK, hp⟩ := wpD_path rest (i + 1) _ _ hl' h
      refine ⟨σ', _, hK, fun F hF => ?_⟩
      have h0 := hF 0 (by simp)
      simp only [Nat.add_zero, List.getD_cons_zero] at h0
      refine .cons i o _ _ _ _ ho (by rw [h0]; exact .run r rs hg hrun hn (fun _ h => by cases h)) (hp F fun k hk => ?_)
      have := hF (k + 1) (by simp; omega)
      rw [show i + 1 + k = i + (k + 1) by omega, this]; simp
    · rename_i hg
      obtain ⟨σ', tr, hK, hp⟩ := wpD_path rest (i + 1) _ _ hl' h
      refine ⟨σ', _, hK, fun F hF => ?_⟩
      have h0 := hF 0 (by simp)
      simp only [Nat.add_zero, List.getD_cons_zero] at h0
      refine .cons i o _ _ _ _ ho (by rw [h0]; exact .skip hg (fun _ h => by cases h)) (hp F fun k hk => ?_)
      have := hF (k + 1) (by simp; omega)
      rw [show i + 1 + k = i + (k + 1) by omega, this]; simp
    · exact h.elim

theorem wpDP_path {E : CallE} {ops : Array Oper} {n0 p : Nat} {d : DV} {D : List Nat} : ∀ (l : List Oper) (i : Nat) (σ : St) (K : List TE → Prop), (∀ k, l[k]? = ops[i + k]?) → wpDP E P ops n0 p d D l i σ K →
    ∃ σ' tr, K tr ∧ (∀ f : Nat → TE, (∀ k, k < l.length → f (i + k) = tr.getD k te0) → PathD E P ops n0 (some (p, d)) f ((List.range' i l.length).filter fun k => !D.contains k) σ σ') ∧ (∀ k, D.contains (i + k) = true → tr.getD k te0 = te0) ∧ tr.length = l.length
  | [], i, σ, K, _, h => ⟨σ, [], h, fun f _ => .nil σ, fun k _ => rfl, rfl⟩
  | o :: rest, i, σ, K, hl, h => by
    have ho : ops[i]? = some o := by have := hl 0; simpa using this.symm
    have hl' : ∀ k, rest[k]? = ops[i + 1 + k]? := fun k => by have := hl (k + 1); simp at this; rw [this]; congr 1; omega
    have shift : ∀ (f : Nat → TE) (t : TE) (tr : List TE), (∀ k, k < (o :: rest).length → f (i + k) = (t :: tr).getD k te0) → f i = t ∧ ∀ k, k < rest.length → f (i + 1 + k) = tr.getD k te0 := fun f t tr hf => by
      refine ⟨by have := hf 0 (by simp); simpa using this, fun k hk => ?_⟩
      have := hf (k + 1) (by simp; omega)
      rw [show i + 1 + k = i + (k + 1) by omega, this]; simp
    have skip0 : ∀ (t : TE) (tr : List TE), (D.contains i = true → t = te0) → (∀ k, D.contains (i + 1 + k) = true → tr.getD k te0 = te0) → ∀ k, D.contains (i + k) = true → (t :: tr).getD k te0 = te0 := fun t tr h0 h1 k hk => by
      cases k with
      | zero => simpa using h0 (by simpa using hk)
      | succ k => simpa using h1 k (by rw [show i + 1 + k = i + (k + 1) by omega]; exact hk)
    simp only [wpDP] at h
    split at h
    · rename_i hD
      obtain ⟨σ', tr, hK, hp, hs, hlen⟩ := wpDP_path rest (i + 1) _ _ hl' h
      refine ⟨σ', _, hK, fun f hf => ?_, skip0 _ _ (fun _ => rfl) hs, by simp [hlen]⟩
      obtain ⟨_, h2⟩ := shift f _ _ hf
      simp only [List.length_cons, List.range'_succ]
      rw [List.filter_cons_of_neg (by rw [hD]; decide)]
      exact hp f h2
    · rename_i hD
      have filt : (List.range' i (o :: rest).length).filter (fun k => !D.contains k) = i :: (List.range' (i + 1) rest.length).filter (fun k => !D.contains k) := by
        simp only [List.length_cons, List.range'_succ]
        rw [List.filter_cons_of_pos (by simp; simpa using hD)]
      split at h
      · rename_i hip
        obtain ⟨hg, fc, args, rs, h1, h2, h⟩ := h
        obtain ⟨σ', tr, hK, hp, hs, hlen⟩ := wpDP_path rest (i + 1) _ _ hl' h
        refine ⟨σ', _, hK, fun f hf => ?_, skip0 _ _ (fun h => absurd h hD) hs, by simp [hlen]⟩
        obtain ⟨g1, g2⟩ := shift f _ _ hf
        rw [filt]
        exact .cons i o _ _ _ _ ho (by rw [g1]; exact .pan d fc args rs (by rw [hip]) hg h1 h2) (hp f g2)
      · rename_i hip
        have hne : ∀ d', (some (p, d) : Option (Nat × DV)) ≠ some (i, d') := fun d' e => by
          simp only [Option.some.injEq, Prod.mk.injEq] at e; exact hip e.1.symm
        split at h
        · rename_i hg
          obtain ⟨r, rs, hrun, hn, h⟩ := wpBT_run _ _ _ h
          obtain ⟨σ', tr, hK, hp, hs, hlen⟩ := wpDP_path rest (i + 1) _ _ hl' h
          refine ⟨σ', _, hK, fun f hf => ?_, skip0 _ _ (fun h => absurd h hD) hs, by simp [hlen]⟩
          obtain ⟨g1, g2⟩ := shift f _ _ hf
          rw [filt]
          exact .cons i o _ _ _ _ ho (by rw [g1]; exact .run r rs hg hrun hn hne) (hp f g2)
        · rename_i hg
          obtain ⟨σ', tr, hK, hp, hs, hlen⟩ := wpDP_path rest (i + 1) _ _ hl' h
          refine ⟨σ', _, hK, fun f hf => ?_, skip0 _ _ (fun h => absurd h hD) hs, by simp [hlen]⟩
          obtain ⟨g1, g2⟩ := shift f _ _ hf
          rw [filt]
          exact .cons i o _ _ _ _ ho (by rw [g1]; exact .skip hg hne) (hp f g2)
        · exact h.elim

theorem PathD.at {E : CallE} {ops : Array Oper} {n0 : Nat} {pd : Option (Nat × DV)} {f : Nat → TE} : ∀ (l : List Nat) (σ σ' : St), PathD E P ops n0 pd f l σ σ' → ∀ i ∈ l, ∀ o, ops[i]? = some o → ∃ τ τ', StepD E P ops n0 pd i o τ τ' (f i)
  | [], _, _, _, i, hi, _, _ => by simp at hi
  | j :: l, σ, σ', h, i, hi, o, ho => by
    cases h with
    | cons _ oj _ _ σ1 _ hj s t =>
      rcases List.mem_cons.1 hi with e | hi
      · subst e; rw [hj] at ho; cases ho; exact ⟨σ, σ1, s⟩
      · exact PathD.at l σ1 σ' t i hi o ho

theorem zipIdx_mem {α : Type} {l : List α} {x : α} {i : Nat} (h : l[i]? = some x) : (x, i) ∈ l.zipIdx := by
  rw [List.mem_iff_getElem?]
  exact ⟨i, by rw [List.getElem?_zipIdx]; simp [h]⟩

theorem pairs_of {ops : Array Oper} {n n0 : Nat} {E : CallE} {pd : Option (Nat × DV)} {f : Nat → TE} {σ σ' : St} {l : List Nat} (hok : drawOk n ops = true) (hP : PathD E P ops n0 pd f l σ σ') (hl : ∀ i, i < ops.size → i ∈ l ∨ f i = te0) (hI : ∀ p ∈ loose ops, Indep (f p.1) (f p.2)) : PairsOk ops f := by
  intro i oi j oj hji hoi hoj
  simp only [drawOk, Bool.and_eq_true] at hok
  have h1 := List.all_eq_true.1 (List.all_eq_true.1 hok.2 (oi, i) (zipIdx_mem (by simpa using hoi))) (oj, j) (zipIdx_mem (by simpa using hoj))
  simp only [hji, decide_true, Bool.not_true, Bool.false_or, Bool.or_eq_true] at h1
  by_cases hdir : direct oi j = true
  · exact .inl hdir
  · have hap : oi.apart ops oj = true := by rcases h1 with h | h; exact absurd h hdir; exact h
    refine .inr ⟨hap, ?_⟩
    by_cases hdi : dry oi.op = true
    · rcases hl i (Array.getElem?_eq_some_iff.1 hoi).1 with h | h
      · obtain ⟨τ, τ', s⟩ := hP.at _ _ _ i h oi hoi
        rw [dry_te hdi s]; exact indep_te0_left _
      · rw [h]; exact indep_te0_left _
    · by_cases hdj : dry oj.op = true
      · rcases hl j (Array.getElem?_eq_some_iff.1 hoj).1 with h | h
        · obtain ⟨τ, τ', s⟩ := hP.at _ _ _ j h oj hoj
          rw [dry_te hdj s]; exact indep_te0_right _
        · rw [h]; exact indep_te0_right _
      · refine hI (i, j) ?_
        simp only [loose, List.mem_flatMap, List.mem_filterMap]
        refine ⟨(oi, i), zipIdx_mem (by simpa using hoi), (oj, j), zipIdx_mem (by simpa using hoj), ?_⟩
        simp only [Bool.not_eq_true] at hdir hdi hdj
        rw [if_pos ⟨hji, hdir, hdi, hdj⟩]

/-- A region that draws, in which an operation gives up. -/
theorem drawP_sound {ops : Array Oper} {tr : List TE} (hm : P.follows .mixedOrders = true) (hc : CtxOk gs c) {id : Nat} (hd : ∀ o ∈ ops.toList, dstOk c.n o = true) (hb : backwards ops = true) (hp : PairsOk ops fun i => tr.getD i te0) {p : Nat} {d : DV} {D : List Nat} (hsk : skipOk ops p D = true) (hlen : tr.length = ops.toList.length)
    {Q : Exit → St → Prop} {QP : DV → St → Prop} {σ σe : St} {A : Nat → Prop} {ρ : Nat → Option BR} {a : Act} {w : World}
    (hP : PathD (calls P gs) P ops σ.nid (some (p, d)) (fun i => tr.getD i te0) ((List.range ops.size).filter fun k => !D.contains k) σ σe)
    (hQ : QP d (dropped σ (ops.toList.filterMap (·.dst)) (tr.flatMap (·.writes)) (σ.nid + ops.size))) (hS : Sim c A ρ σ a w) (hF : Fr c ρ σ.nid) :
    (Code.region id ops true).wp P (QC c Q QP) a w := by
  simp only [skipOk, Bool.and_eq_true, decide_eq_true_eq, Bool.not_eq_true'] at hsk
  obtain ⟨⟨⟨hlt, hDp⟩, hD1⟩, hD2⟩ := hsk
  have mem : ∀ i, D.contains i = true ↔ i ∈ D := fun i => by simp
  refine wp_region_any hm (anyP_sound (tr := fun i => tr.getD i te0) hc hd hb hp (D := D) (fun h => by rw [(mem p).2 h] at hDp; cases hDp) ?_ ?_ (T := ops.toList.filterMap (·.dst)) ?_ (W := tr.flatMap (·.writes)) ?_ hQ hF.le hlt ops.size _ _ σ A ρ a _ (by simp) ?_ ?_ ?_ ?_ (fun i => ?_) ?_ hP ⟨fun _ _ => rfl, fun _ _ => rfl, rfl⟩ hS.drew (fun b hb _ => hF.free b hb) hF.base)
  · intro i hi o ho
    have := List.all_eq_true.1 hD1 i hi
    rw [ho] at this
    simp only [Bool.or_eq_true, List.any_eq_true, Bool.and_eq_true, List.mem_range] at this
    rcases this with h | ⟨j, hj, h1, h2⟩
    · exact ⟨p, .inl rfl, hlt, h⟩
    · exact ⟨j, .inr ((mem j).1 h1), hj, h2⟩
  · intro i hi hiD o ho j hj
    have := List.all_eq_true.1 hD2 (o, i) (zipIdx_mem (by simpa using ho))
    simp only [Bool.or_eq_true] at this
    rcases this with h | h
    · exact absurd ((mem i).1 h) hiD
    · have := List.all_eq_true.1 h j hj
      simpa using this
  · intro o ho x hx
    simp only [List.contains_iff_mem, List.mem_filterMap]
    exact ⟨o, ho, hx⟩
  · intro i b hbw
    simp only [List.contains_iff_mem, List.mem_flatMap]
    by_cases hi : i < tr.length
    · refine ⟨tr[i], List.getElem_mem hi, ?_⟩
      simpa [List.getD, List.getElem?_eq_getElem hi] using hbw
    · have : tr.getD i te0 = te0 := by simp [List.getD, List.getElem?_eq_none (by omega : tr.length ≤ i)]
      simp only [this] at hbw
      simp [te0] at hbw
  · exact List.Pairwise.filter _ List.pairwise_lt_range
  · simp only [List.mem_filter, List.mem_range]; exact ⟨hlt, by rw [hDp]; rfl⟩
  · simp [Array.getD, hlt]
  · intro i hi
    by_cases h : i < ops.size
    · left; simp [Array.getD, h]
    · right; omega
  · simp only [List.mem_filter, List.mem_range]
    constructor
    · rintro ⟨h1, h2⟩
      refine ⟨h1, (fun h => by rw [(mem i).2 h] at h2; cases h2), by simp [Array.getD, h1]⟩
    · rintro ⟨h1, h2, _⟩
      refine ⟨h1, ?_⟩
      cases hc : D.contains i with
      | true => exact absurd ((mem i).1 hc) h2
      | false => rfl
  · have := List.length_filter_le (fun k => !D.contains k) (List.range ops.size)
    simpa using this

/-- THE WALK OF THE CODE: what it shows holds of the model. -/
theorem WP_sound (hm : P.follows .mixedOrders = true) (hc : CtxOk gs c) {QP : DV → St → Prop} : ∀ (code : Code) (Q : Exit → St → Prop) (σ : St) (A : Nat → Prop) (ρ : Nat → Option BR) (a : Act) (w : World), codeOk c.n code = true →
    WP (calls P gs) P code Q QP σ → Sim c A ρ σ a w → Fr c ρ σ.nid → code.wp P (QC c Q QP) a w := by
  intro code
  induction code with
  | skip => intro Q σ A ρ a w _ h hS hF; exact wp_skip ⟨σ, A, ρ, h, hS, hF⟩
  | label l => intro Q σ A ρ a w _ h hS hF; exact wp_label ⟨σ, A, ρ, h, hS, hF⟩
  | exit id => intro Q σ A ρ a w _ h hS hF; exact wp_exit ⟨σ, A, ρ, h, hS, hF⟩
  | ret => intro Q σ A ρ a w _ h hS hF; exact wp_ret ⟨σ, A, ρ, h, hS, hF⟩
  | goto l => intro Q σ A ρ a w _ h; exact h.elim
  | refuse y => intro Q σ A ρ a w _ h; exact h.elim
  | rangeFunc f ps x y => intro Q σ A ρ a w _ h; exact h.elim
  | region id ops draw =>
    intro Q σ A ρ a w hok h hS hF
    cases draw with
    | false =>
      refine wp_region_list (wpT_sound (P := P) hc ops.toList σ A ρ a w (fun o ho => ?_) h hS hF)
      simp only [codeOk] at hok
      exact List.all_eq_true.1 hok o ho
    | true =>
      simp only [codeOk] at hok
      simp only [WP] at h
      have hok' := hok
      simp only [drawOk, Bool.and_eq_true] at hok'
      rcases h with h | ⟨p, d, D, hsk, h⟩
      · obtain ⟨σe, tr, ⟨hI, hQ⟩, hp⟩ := wpD_path ops.toList 0 σ _ (fun k => by simp) h
        have hP := hp (fun i => tr.getD i te0) (fun k hk => by simp)
        rw [Array.length_toList, ← List.range_eq_range'] at hP
        exact draw_sound hm hc (fun o ho => List.all_eq_true.1 hok'.1.2 o ho) hok'.1.1 (pairs_of hok hP (fun i hi => .inl (by simpa using hi)) hI) hP hQ hS hF
      · obtain ⟨σe, tr, ⟨hI, hQ⟩, hp, hs, hlen⟩ := wpDP_path ops.toList 0 σ _ (fun k => by simp) h
        have hP := hp (fun i => tr.getD i te0) (fun k hk => by simp)
        rw [Array.length_toList, ← List.range_eq_range'] at hP
        have hs : ∀ k, D.contains k = true → tr.getD k te0 = te0 := fun k hk => hs k (by simpa using hk)
        exact drawP_sound hm hc (fun o ho => List.all_eq_true.1 hok'.1.2 o ho) hok'.1.1 (pairs_of hok hP (fun i hi => by
          cases hD : D.contains i with
          | true => exact .inr (hs i hD)
          | false => exact .inl (by simp only [List.mem_filter, List.mem_range]; exact ⟨hi, by rw [hD]; rfl⟩)) hI) hsk hlen hP hQ hS hF
  | seq x y ihx ihy =>
    intro Q σ A ρ a w hok h hS hF
    simp only [codeOk, Bool.and_eq_true] at hok
    refine wp_seq (wp_mono (ihx _ σ A ρ a w hok.1 h hS hF) fun e a w hq => ?_)
    cases e with
    | normal => obtain ⟨σ', A', ρ', h1, h2, h3⟩ := hq; exact ihy Q σ' A' ρ' a w hok.2 h1 h2 h3
    | panic ch => exact hq
    | _ => obtain ⟨σ', A', ρ', h1, h2, h3⟩ := hq; exact ⟨σ', A', ρ', h1, h2, h3⟩
  | cond cc x y ihx ihy =>
    intro Q σ A ρ a w hok h hS hF
    simp only [codeOk, Bool.and_eq_true] at hok
    simp only [WP] at h
    have hr := zF7 hS cc
    split at h
    · rename_i he
      rw [he] at hr
      have hr := hr.ofD
      refine wp_cond_true ?_ (ihx Q σ A ρ a w hok.1 h hS hF)
      generalize a.eval cc = v at hr
      cases hr; rfl
    · rename_i he
      rw [he] at hr
      have hr := hr.ofD
      refine wp_cond_false ?_ (ihy Q σ A ρ a w hok.2 h hS hF)
      generalize a.eval cc = v at hr
      cases hr; rfl
    · exact h.elim
  | block id x ih =>
    intro Q σ A ρ a w hok h hS hF
    refine wp_block (wp_mono (ih _ σ A ρ a w hok h hS hF) fun e a w hq => ?_)
    cases e with
    | exit id' =>
      obtain ⟨σ', A', ρ', h1, h2, h3⟩ := hq
      simp only [blockQ] at h1
      simp only [Exit.inBlock]
      split
      · rename_i hid; rw [if_pos hid] at h1; exact ⟨σ', A', ρ', h1, h2, h3⟩
      · rename_i hid; rw [if_neg hid] at h1; exact ⟨σ', A', ρ', h1, h2, h3⟩
    | panic ch => exact hq
    | _ => obtain ⟨σ', A', ρ', h1, h2, h3⟩ := hq; exact ⟨σ', A', ρ', h1, h2, h3⟩
  | loop x ih =>
    intro Q σ A ρ a w hok h hS hF
    obtain ⟨n, h⟩ := h
    refine wp_loop_rounds n ?_
    have hle := hF.le
    generalize hmm : σ.nid = m at h hle
    clear hmm
    induction n generalizing σ A ρ a w with
    | zero => exact h.elim
    | succ n ihn =>
      rw [rounds_succ]
      obtain ⟨σ₀, hσ, h⟩ := h
      obtain ⟨A₀, ρ₀, hS₀, hF₀⟩ := hσ.sim hle hS hF
      refine wp_mono (ih _ σ₀ A₀ ρ₀ a w hok h hS₀ hF₀) fun e a w hq => ?_
      cases e with
      | normal => obtain ⟨σ', A', ρ', h1, h2, h3⟩ := hq; exact ihn σ' A' ρ' a w h2 h3 h1
      | panic ch => exact hq
      | _ => obtain ⟨σ', A', ρ', h1, h2, h3⟩ := hq; exact ⟨σ', A', ρ', h1, h2, h3⟩
  | scope x ih =>
    intro Q σ A ρ a w hok h hS hF
    refine wp_scope_straight (wp_mono (ih _ σ A ρ a w hok h hS hF) fun e a w hq => ?_)
    cases e with
    | panic ch => exact hq
    | goto l => obtain ⟨σ', A', ρ', h1, h2, h3⟩ := hq; exact h1.elim
    | _ => obtain ⟨σ', A', ρ', h1, h2, h3⟩ := hq; exact ⟨σ', A', ρ', h1, h2, h3⟩
end
end Go.Proofs.Am

set_option linter.unusedVariables false
set_option linter.unusedSimpArgs false
namespace Go.Proofs.Am
open Go Go.RowKit

def isRecover : Op → Bool
  | .call { callee := .builtin .recover, .. } => true
  | _ => false

def hasRec : Code → Bool
  | .region _ ops _ => ops.toList.any fun o => isRecover o.op
  | .seq a b | .cond _ a b => hasRec a || hasRec b
  | .block _ c | .loop c | .scope c => hasRec c
  | _ => false

/-- The walk through operations of a deferred call; pn: what its caller gives up with. -/
def wpTS (E : CallE) (P : Program) (ops : Array Oper) : List Oper → St → Option DV → (St → Option DV → Prop) → Prop
  | [], σ, pn, K => K σ pn
  | o :: rest, σ, pn, K => match guardA ops σ.env o with
    | some true => if isRecover o.op = true then wpTS E P ops rest { σ with env := putE σ.env o.dst (.d (match pn with | some d => d | none => .inil)) } none K
        else wpB E true (opB P σ.nid σ.eval o.op) σ.lh (fun r => wpTS E P ops rest (σ.app o.dst r) pn K) (fun _ _ => False)
    | some false => wpTS E P ops rest { σ with env := putE σ.env o.dst (.d (.tup [])) } pn K
    | none => False

def seqS (Q : Exit → St → Option DV → Prop) (K : St → Option DV → Prop) : Exit → St → Option DV → Prop
  | .normal, σ, pn => K σ pn
  | e, σ, pn => Q e σ pn

/-- The walk through the code of a deferred call. -/
def WPS (E : CallE) (P : Program) : Code → (Exit → St → Option DV → Prop) → St → Option DV → Prop
  | .seq a b, Q, σ, pn => WPS E P a (seqS Q fun σ' pn' => WPS E P b Q σ' pn') σ pn
  | .cond c a b, Q, σ, pn => match σ.eval c with
    | .d (.bool true) => WPS E P a Q σ pn
    | .d (.bool false) => WPS E P b Q σ pn
    | _ => False
  | .region id ops d, Q, σ, pn => if hasRec (.region id ops d) = true then (d = false ∧ wpTS E P ops ops.toList σ pn (Q .normal))
      else WP E P (.region id ops d) (fun e σ' => Q e σ' pn) (fun _ _ => False) σ
  | c, Q, σ, pn => WP E P c (fun e σ' => Q e σ' pn) (fun _ _ => False) σ

/-- How the caller stands. -/
def ModeRel (c : Ctx) (u : FrameMode) : Option DV → Prop
  | some d => ∃ x, u = .panicking [{ v := x, recovered := false }] ∧ DRep c.w0 c.A0 d x
  | none => u = .returning ∨ ∃ x, u = .panicking [{ v := x, recovered := true }]

/-- The context keeps what may be read apart from what may be written. -/
def Apart (c : Ctx) : Prop := (∀ g, c.A0 g → ¬ c.O0 g) ∧ ∀ g, c.A0 g → g < c.w0.heap.size

section
variable {P : Program} {gs : List Nat} {c : Ctx} {A : Nat → Prop} {ρ : Nat → Option BR} {σ : St} {a : Act} {w : World}

theorem HS.keeps0 {lh : Nat → Option LB} (h : HS c A ρ lh w) (ha : Apart c) : Keeps c.w0 w c.A0 A := fun g hA => ⟨h.up g hA, h.frame g (ha.2 g hA) (ha.1 g hA)⟩

theorem HS.apart {lh : Nat → Option LB} (h : HS c A ρ lh w) (n m : Nat) : Apart (ctx0 w A ρ lh n m) :=
  ⟨fun g hA ho => by obtain ⟨b, r, k, h1, h2, h3, rfl⟩ := ho; exact (h.own b r k h1 h2 h3).1 hA, h.lt⟩

def QS (c : Ctx) (c₀ : Frame) (cs : List Frame) (Q : Exit → St → Option DV → Prop) : Exit → Act → List Frame → World → Prop
  | .panic _, _, _, _ => False
  | e, a, cs', w => ∃ σ A ρ pn u, Q e σ pn ∧ Sim c A ρ σ a w ∧ Fr c ρ σ.nid ∧ cs' = { c₀ with mode := u } :: cs ∧ ModeRel c u pn

theorem recover_op {o : Oper} (h : isRecover o.op = true) : (execOp a.eval o).run P w = .ok .recover w := by
  cases hop : o.op with
  | call cl =>
    obtain ⟨callee, args, ts⟩ := cl
    rw [hop] at h
    cases callee with
    | builtin b =>
      cases b <;> first | (simp [isRecover] at h; done) | (rw [zK0 hop]; simp [execOp, resolve, invoke, builtin])
    | _ => simp [isRecover] at h
  | _ => rw [hop] at h; simp [isRecover] at h

theorem recoverD_some (c₀ : Frame) (cs : List Frame) (x : Value) : recoverD ({ c₀ with mode := .panicking [{ v := x, recovered := false }] } :: cs) = some (x, { c₀ with mode := .panicking [{ v := x, recovered := true }] } :: cs) := rfl
theorem wpTS_sound (hc : CtxOk gs c) (ha : Apart c) {ops : Array Oper} (c₀ : Frame) (cs : List Frame) {Q : Exit → St → Option DV → Prop} : ∀ (l : List Oper) (i : Nat) (σ : St) (pn : Option DV) (u : FrameMode) (A : Nat → Prop) (ρ : Nat → Option BR) (a : Act) (w : World),
    l = ops.toList.drop i → (∀ o ∈ l, dstOk c.n o = true) → wpTS (calls P gs) P ops l σ pn (Q .normal) → Sim c A ρ σ a w → Fr c ρ σ.nid → ModeRel c u pn →
    wpOpsS P ops (QS c c₀ cs Q) (List.range' i l.length) a ({ c₀ with mode := u } :: cs) w := by
  intro l
  induction l with
  | nil => intro i σ pn u A ρ a w _ _ h hS hF hM; exact ⟨σ, A, ρ, pn, u, h, hS, hF, rfl, hM⟩
  | cons o rest ih =>
    intro i σ pn u A ρ a w hl hd h hS hF hM
    have hdo : ∀ d, o.dst = some d → d < c.n := fun d e => by
      have := hd o (by simp); simp only [dstOk, e, decide_eq_true_eq] at this; exact this
    have ho : ops[i]? = some o := by
      have : (ops.toList.drop i)[0]? = some o := by rw [← hl]; rfl
      simpa using this
    have hl' : rest = ops.toList.drop (i + 1) := by
      have : (ops.toList.drop i).drop 1 = rest := by rw [← hl]; rfl
      rw [← this, List.drop_drop]
    have hd' : ∀ o ∈ rest, dstOk c.n o = true := fun o ho => hd o (by simp [ho])
    simp only [List.length_cons, List.range'_succ, wpOpsS, ho]
    simp only [wpTS] at h
    split at h
    · rename_i hg
      rw [zJ2 hS hg, if_pos rfl]
      split at h
      · rename_i hrec
        rw [recover_op hrec]
        simp only
        cases pn with
        | some d =>
          obtain ⟨x, rfl, hx⟩ := hM
          rw [recoverD_some]
          simp only at h ⊢
          exact ih (i + 1) _ none _ A ρ _ w hl' hd' h (hS.put (.d _ _ (hx.mono (hS.toHS.keeps0 ha))) o.dst hdo) hF (.inr ⟨x, rfl⟩)
        | none =>
          have hn : recoverD ({ c₀ with mode := u } :: cs) = none := by
            rcases hM with rfl | ⟨x, rfl⟩ <;> rfl
          rw [hn]
          simp only at h ⊢
          exact ih (i + 1) _ none u A ρ _ w hl' hd' h (hS.put (.d _ _ .inil) o.dst hdo) hF hM
      · rename_i hnr
        have hop := op_sound (P := P) hc hS o hdo true (fun r => wpTS (calls P gs) P ops rest (σ.app o.dst r) pn (Q .normal)) (fun _ _ => False)
          (fun a' w' => wpOpsS P ops (QS c c₀ cs Q) (List.range' (i + 1) rest.length) a' ({ c₀ with mode := u } :: cs) w') (fun e a' w' => QS c c₀ cs Q e a' ({ c₀ with mode := u } :: cs) w') h (fun r _ k _ => hF.free _ (by omega)) (fun _ => hF.free)
          (fun r x A' ρ' w' hr hN hS' => ih (i + 1) _ pn u A' ρ' _ w' hl' hd' hr hS' (hF.step hN) hM) (fun d r x A' ρ' w' hq => hq.elim)
        unfold Oper.wp at hop
        split
        · rename_i w' hr
          rw [hr] at hop; exact hop.elim
        · exact hop
    · rename_i hg
      rw [zJ2 hS hg]
      simp only [Bool.false_eq_true, if_false]
      exact ih (i + 1) _ pn u A ρ _ w hl' hd' h (hS.put (.d _ _ (.tup [] #[] rfl (fun i hi => by simp at hi))) o.dst hdo) hF hM
    · exact h.elim

theorem WPS_sound (hm : P.follows .mixedOrders = true) (hc : CtxOk gs c) (ha : Apart c) (c₀ : Frame) (cs : List Frame) : ∀ (code : Code) (Q : Exit → St → Option DV → Prop) (σ : St) (pn : Option DV) (u : FrameMode) (A : Nat → Prop) (ρ : Nat → Option BR) (a : Act) (w : World), codeOk c.n code = true →
    WPS (calls P gs) P code Q σ pn → Sim c A ρ σ a w → Fr c ρ σ.nid → ModeRel c u pn → code.wpS P (QS c c₀ cs Q) a ({ c₀ with mode := u } :: cs) w := by
  have plain : ∀ (code : Code) (Q : Exit → St → Option DV → Prop) (σ : St) (pn : Option DV) (u : FrameMode) (A : Nat → Prop) (ρ : Nat → Option BR) (a : Act) (w : World), codeOk c.n code = true →
      WP (calls P gs) P code (fun e σ' => Q e σ' pn) (fun _ _ => False) σ → Sim c A ρ σ a w → Fr c ρ σ.nid → ModeRel c u pn → code.wpS P (QS c c₀ cs Q) a ({ c₀ with mode := u } :: cs) w := fun code Q σ pn u A ρ a w hok h hS hF hM =>
    wpS_of_wp (wp_mono (WP_sound hm hc code _ σ A ρ a w hok h hS hF) fun e a w hq => by
      cases e with
      | panic ch => obtain ⟨d, x, σ', A', ρ', _, hf, _⟩ := hq; exact hf.elim
      | _ => obtain ⟨σ', A', ρ', h1, h2, h3⟩ := hq; exact ⟨σ', A', ρ', pn, u, h1, h2, h3, rfl, hM⟩)
  intro code
  induction code with
  | seq x y ihx ihy =>
    intro Q σ pn u A ρ a w hok h hS hF hM
    simp only [codeOk, Bool.and_eq_true] at hok
    refine wpS_seq ?_
    have := ihx (seqS Q fun σ' pn' => WPS (calls P gs) P y Q σ' pn') σ pn u A ρ a w hok.1 h hS hF hM
    intro b k hb hr
    obtain ⟨e, a', cs', w', hq, harr⟩ := this b k hb hr
    refine ⟨e, a', cs', w', ?_, harr⟩
    cases e with
    | normal => obtain ⟨σ', A', ρ', pn', u', h1, h2, h3, rfl, h5⟩ := hq; exact ihy Q σ' pn' u' A' ρ' a' w' hok.2 h1 h2 h3 h5
    | panic ch => exact hq
    | _ => obtain ⟨σ', A', ρ', pn', u', h1, h2, h3, h4, h5⟩ := hq; exact ⟨σ', A', ρ', pn', u', h1, h2, h3, h4, h5⟩
  | cond cc x y ihx ihy =>
    intro Q σ pn u A ρ a w hok h hS hF hM
    simp only [codeOk, Bool.and_eq_true] at hok
    simp only [WPS] at h
    have hr := zF7 hS cc
    split at h
    · rename_i he
      rw [he] at hr
      have hr := hr.ofD
      refine wpS_cond (t := true) ?_ (ihx Q σ pn u A ρ a w hok.1 h hS hF hM)
      generalize a.eval cc = v at hr
      cases hr; rfl
    · rename_i he
      rw [he] at hr
      have hr := hr.ofD
      refine wpS_cond (t := false) ?_ (ihy Q σ pn u A ρ a w hok.2 h hS hF hM)
      generalize a.eval cc = v at hr
      cases hr; rfl
    · exact h.elim
  | region id ops d =>
    intro Q σ pn u A ρ a w hok h hS hF hM
    simp only [WPS] at h
    split at h
    · obtain ⟨rfl, h⟩ := h
      simp only [codeOk] at hok
      refine wpS_region ?_
      have := wpTS_sound (P := P) hc ha (ops := ops) c₀ cs ops.toList 0 σ pn u A ρ a w (by simp) (fun o ho => List.all_eq_true.1 hok o ho) h hS hF hM
      rw [Array.length_toList, ← List.range_eq_range'] at this
      exact this
    · exact plain _ Q σ pn u A ρ a w hok h hS hF hM
  | _ => intro Q σ pn u A ρ a w hok h hS hF hM; exact plain _ Q σ pn u A ρ a w hok h hS hF hM
end
end Go.Proofs.Am

set_option linter.unusedVariables false
set_option linter.unusedSimpArgs false
namespace Go.Proofs.Am
open Go Go.RowKit

/-- One result. -/
def res1 (P : Program) (σ : St) : ResultVar → Option AV
  | .tmp t => some (σ.env t)
  | .cell a t => (tinfo P t).bind fun ti => match σ.env a with
    | .loc b _ i fo => (σ.lh b).bind fun k => if i < k.els.length then aload ti (k.els.getD i .undef) fo else none
    | _ => none

def resA (P : Program) (rs : List ResultVar) (σ : St) : Option AV :=
  (rs.mapM (res1 P σ)).map fun vs => match vs with | [v] => v | vs => .tup vs

def resSem (tmps : Array Value) : ResultVar → Sem Value
  | .tmp t => pure (tmps.getD t undef)
  | .cell a t => do loadVar t (← asAddr (tmps.getD a undef))

theorem results_eq (fn : Func) (tmps : Array Value) : results fn tmps = (do let vs ← fn.results.mapM (resSem tmps); pure (if h : vs.size = 1 then vs[0] else .tuple vs)) := by
  unfold results
  congr 2

section
variable {P : Program} {gs : List Nat}

theorem mapM_run {α β : Type} (w : World) (f : α → Sem β) : ∀ (l : List α) (g : List β), l.length = g.length → (∀ (i : Nat) (x : α) (y : β), l[i]? = some x → g[i]? = some y → (f x).run P w = .ok y w) → (l.mapM f).run P w = .ok g w
  | [], [], _, _ => rfl
  | [], _ :: _, h, _ => by simp at h
  | _ :: _, [], h, _ => by simp at h
  | x :: l, y :: g, hl, h => by
    have h0 := h 0 x y (by simp) (by simp)
    have ih := mapM_run w f l g (by simpa using hl) (fun i x y h1 h2 => h (i + 1) x y (by simpa using h1) (by simpa using h2))
    simp [List.mapM_cons, h0, ih]

theorem results_sound {c : Ctx} {A : Nat → Prop} {ρ : Nat → Option BR} {σ : St} {a : Act} {w : World} (hS : Sim c A ρ σ a w) {fn : Func} {v : AV} (h : resA P fn.results.toList σ = some v) :
    ∃ x, (results fn a.tmps).run P w = .ok x w ∧ ARep w A ρ v x := by
  unfold resA at h
  obtain ⟨vs, hvs, rfl⟩ := Option.map_eq_some_iff.1 h
  obtain ⟨h1, h2⟩ := mapM_some hvs
  have one : ∀ rv v, res1 P σ rv = some v → ∃ x, (resSem a.tmps rv).run P w = .ok x w ∧ ARep w A ρ v x := fun rv v hv => by
    cases rv with
    | tmp t => simp only [res1, Option.some.injEq] at hv; subst hv; exact ⟨_, rfl, hS.env t⟩
    | cell q t =>
      simp only [res1] at hv
      cases hti : tinfo P t with
      | none => simp [hti] at hv
      | some ti =>
        simp only [hti, Option.bind_some] at hv
        split at hv
        · rename_i b es i fo he
          cases hk : σ.lh b with
          | none => simp [hk] at hv
          | some k =>
            simp only [hk, Option.bind_some] at hv
            split at hv
            · rename_i hi
              have hr := hS.env q
              rw [he] at hr
              obtain ⟨y, hy, hyr⟩ := load_loc_sound (P := P) hS hti hr hk hi hv
              refine ⟨y, ?_, hyr⟩
              simp only [resSem]
              generalize a.tmps.getD q undef = x at hr hy
              cases hr with
              | loc _ _ _ _ r hrr he => simpa [Instr.loadAt, Instr.sureAddr, asAddr] using hy
            · cases hv
        · cases hv
  have hex : ∃ xs : List Value, xs.length = fn.results.toList.length ∧ ∀ (i : Nat) (rv : ResultVar) (v : AV), fn.results.toList[i]? = some rv → vs[i]? = some v → ∃ x, xs[i]? = some x ∧ (resSem a.tmps rv).run P w = .ok x w ∧ ARep w A ρ v x := by
    clear hvs h
    generalize fn.results.toList = rs at h1 h2
    induction rs generalizing vs with
    | nil => exact ⟨[], rfl, fun i rv v h => by simp at h⟩
    | cons rv rs ih =>
      cases vs with
      | nil => simp at h1
      | cons v0 vs =>
        obtain ⟨y, hy, hf⟩ := h2 0 rv (by simp)
        simp at hy; subst hy
        obtain ⟨x, hx1, hx2⟩ := one rv v0 hf
        obtain ⟨xs, q1, q2⟩ := ih vs (by simpa using h1) (fun i x hx => by
          obtain ⟨y, hy, hf⟩ := h2 (i + 1) x (by simpa using hx)
          exact ⟨y, by simpa using hy, hf⟩)
        refine ⟨x :: xs, by simp [q1], fun i rv' v' e1 e2 => ?_⟩
        cases i with
        | zero => simp at e1 e2; subst e1; subst e2; exact ⟨x, by simp, hx1, hx2⟩
        | succ i => simp at e1 e2; obtain ⟨x', p1, p2, p3⟩ := q2 i rv' v' e1 e2; exact ⟨x', by simpa using p1, p2, p3⟩
  obtain ⟨xs, q1, q2⟩ := hex
  have hrun : (fn.results.mapM (resSem a.tmps)).run P w = .ok xs.toArray w := by
    have := mapM_run (P := P) w (resSem a.tmps) fn.results.toList xs q1.symm (fun i rv x e1 e2 => by
      have hi : i < vs.length := by rw [h1]; exact (List.getElem?_eq_some_iff.1 e1).1
      obtain ⟨x', p1, p2, _⟩ := q2 i rv vs[i] e1 (List.getElem?_eq_getElem hi)
      rw [e2] at p1; cases p1; exact p2)
    rw [Array.mapM_eq_mapM_toList]
    simp [this]
  rw [results_eq]
  refine ⟨if h : xs.toArray.size = 1 then xs.toArray[0] else .tuple xs.toArray, by simp only [Sem.run_bind, hrun, Result.andThen_ok]; rfl, ?_⟩
  have hlen : xs.length = vs.length := by omega
  have rep : ∀ i (hi : i < xs.length), ARep w A ρ (vs.getD i .undef) xs[i] := fun i hi => by
    have h3 : i < fn.results.toList.length := by omega
    obtain ⟨x', p1, _, p3⟩ := q2 i (fn.results.toList[i]) (vs[i]) (List.getElem?_eq_getElem h3) (List.getElem?_eq_getElem (by omega))
    rw [List.getElem?_eq_getElem hi] at p1; cases p1
    have : vs.getD i .undef = vs[i] := by simp [List.getD, List.getElem?_eq_getElem (show i < vs.length by omega)]
    rw [this]; exact p3
  by_cases hone1 : xs.length = 1
  · rw [dif_pos (by simpa using hone1)]
    match vs, hlen, rep with
    | [], hlen, _ => simp at hlen; rw [hlen] at hone1; simp at hone1
    | [v], hlen, rep => have := rep 0 (by rw [hone1]; exact Nat.zero_lt_one); simpa using this
    | v1 :: v2 :: r, hlen, _ => simp at hlen; omega
  · rw [dif_neg (by simpa using hone1)]
    have tup : ARep w A ρ (.tup vs) (.tuple xs.toArray) := .tup vs _ (by simpa using hlen) (fun i hi => by
      have := rep i (by omega)
      have e : xs.toArray.getD i undef = xs[i] := by simp [Array.getD, show i < xs.length by omega]
      rw [e]; exact this)
    match vs, hlen, tup with
    | [], _, tup => exact tup
    | [v], hlen, _ => simp at hlen; omega
    | v1 :: v2 :: r, _, tup => exact tup


structure FnIs (P : Program) (f : FuncId) (code : Code) (rs : Array ResultVar) (n : Nat) : Prop where
  mk' ::
  ex : ∃ fn, P.funcs[f]? = some fn ∧ fn.body = some code ∧ fn.results = rs ∧ fn.ntmps = n ∧ enterOk P f = true
  ok : codeOk n code = true

/-- The slots when a call begins. -/
def envA (args : List AV) : Nat → AV := fun t => args.getD t .undef

/-- The deferred calls, and what is handed back, or given up with, behind them. -/
def LeaveW (E : CallE) (P : Program) (rs : List ResultVar) (K : AV → St → Prop) (KP : DV → St → Prop) : List (FuncId × List AV) → Option DV → St → Prop
  | [], none, σ => ∃ v, resA P rs σ = some v ∧ K v σ
  | [], some d, σ => KP d σ
  | (f, args) :: ds, pn, σ => ∃ code rs' n, FnIs P f code rs' n ∧ args.length ≤ n ∧
      WPS E P code (fun e σ' pn' => (e = .normal ∨ e = .ret) ∧ σ'.dfs = [] ∧ (∃ v, resA P rs'.toList σ' = some v) ∧ LeaveW E P rs K KP ds pn' { σ with lh := σ'.lh, nid := σ'.nid }) ⟨envA args, σ.lh, σ.nid, []⟩ pn

def bodyQ (E : CallE) (P : Program) (rs : List ResultVar) (K : AV → St → Prop) (KP : DV → St → Prop) : Exit → St → Prop
  | .normal, σ | .ret, σ => LeaveW E P rs K KP σ.dfs none σ
  | _, _ => False

/-- The walk of a body to its end. -/
def BodyW (E : CallE) (P : Program) (code : Code) (rs : List ResultVar) (K : AV → St → Prop) (KP : DV → St → Prop) (σ : St) : Prop :=
  WP E P code (bodyQ E P rs K KP) (fun d σ' => LeaveW E P rs K KP σ'.dfs (some d) σ') σ

/-- The end of a body stands for the end of the model's call. -/
def LeaveR (c : Ctx) (K : AV → St → Prop) (KP : DV → St → Prop) : Ending → World → Prop
  | .returned x, w => ∃ v σ A ρ a, K v σ ∧ ARep w A ρ v x ∧ Sim c A ρ σ a w ∧ Fr c ρ σ.nid
  | .panicked chain, w => ∃ d x σ A ρ a, chain = [{ v := x, recovered := false }] ∧ KP d σ ∧ DRep w A d x ∧ Sim c A ρ σ a w ∧ Fr c ρ σ.nid
  | .outgrown, _ => False

section
variable {P : Program} {gs : List Nat} {c : Ctx} {A : Nat → Prop} {ρ : Nat → Option BR} {σ : St} {a : Act} {w : World}

theorem envA_rep {args : List AV} {vals : Array Value} (h : ARepL w A ρ args vals) (n t : Nat) : ARep w A ρ (envA args t) ((vals ++ Array.replicate n undef).getD t undef) := by
  unfold envA
  by_cases ht : t < args.length
  · have e : (vals ++ Array.replicate n undef).getD t undef = vals.getD t undef := by
      simp only [Array.getD_eq_getD_getElem?]; rw [Array.getElem?_append_left (by have := h.size; omega)]
    rw [e]; exact h.at_ t ht
  · have e : args.getD t .undef = .undef := by simp only [List.getD_eq_getElem?_getD]; rw [List.getElem?_eq_none (by omega)]; rfl
    rw [e]; exact .un _

theorem HS.begin {lh : Nat → Option LB} {n m : Nat} (h : HS (ctx0 w A ρ lh n m) A ρ lh w) {args : List AV} {vals : Array Value} (hr : ARepL w A ρ args vals) (hn : args.length ≤ n) (nid : Nat) :
    Sim (ctx0 w A ρ lh n m) A ρ ⟨envA args, lh, nid, []⟩ { tmps := vals ++ Array.replicate (n - vals.size) undef, defers := [] } w := {
  toHS := h
  size := by have := hr.size; simp [ctx0]; omega
  defers := .nil
  env := fun t => envA_rep hr _ t }

theorem Fr.start {lh : Nat → Option LB} {n m : Nat} (h : Free ρ m) : Fr (ctx0 w A ρ lh n m) ρ m := ⟨h, Nat.le_refl _, fun _ _ => rfl⟩

theorem Fr.names {lh : Nat → Option LB} {n m k : Nat} {ρ' : Nat → Option BR} (h : Fr (ctx0 w A ρ lh n m) ρ' k) (hF : Free ρ m) : Names ρ ρ' m k :=
  ⟨h.le, fun b hb => by
    by_cases hlt : b < m
    · exact h.base b hlt
    · rw [h.free b (by have := h.le; simp only [ctx0] at this; omega), hF b (by omega)]⟩

theorem settle_mode {u : FrameMode} {pn : Option DV} (h : ModeRel c u pn) : match pn with | none => settle u = .returning | some d => ∃ x, settle u = .panicking [{ v := x, recovered := false }] ∧ DRep c.w0 c.A0 d x := by
  cases pn with
  | some d => obtain ⟨x, rfl, hx⟩ := h; exact ⟨x, rfl, hx⟩
  | none => rcases h with rfl | ⟨x, rfl⟩ <;> rfl

theorem leaves_sound (hm : P.follows .mixedOrders = true) (hc : CtxOk gs c) {fn : Func} {rs : List ResultVar} (hrs : fn.results.toList = rs) {K : AV → St → Prop} {KP : DV → St → Prop} : ∀ (ds : List (FuncId × List AV)) (pn : Option DV) (σ : St) (A : Nat → Prop) (ρ : Nat → Option BR) (a : Act) (w : World) (u : FrameMode),
    LeaveW (calls P gs) P rs K KP ds pn σ → Sim c A ρ { σ with dfs := ds } a w → Fr c ρ σ.nid → (match pn with | none => u = .returning | some d => ∃ x, u = .panicking [{ v := x, recovered := false }] ∧ DRep w A d x) →
    Leaves P fn a.tmps (fun e w' => LeaveR c (fun v σ' => ∃ τ, K v τ ∧ σ' = { τ with dfs := [] }) (fun d σ' => ∃ τ, KP d τ ∧ σ' = { τ with dfs := [] }) e w') a.defers u w := by
  intro ds
  induction ds with
  | nil =>
    intro pn σ A ρ a w u h hS hF hu
    have hd : a.defers = [] := by have := hS.defers; generalize a.defers = l at this; cases this; rfl
    rw [hd]
    cases pn with
    | none =>
      subst hu
      obtain ⟨v, hv, hK⟩ := h
      have hv' : resA P fn.results.toList { σ with dfs := [] } = some v := by
        rw [hrs]; rw [← hv]; unfold resA; congr 2
      obtain ⟨x, hx, hxr⟩ := results_sound (P := P) hS hv'
      exact ⟨x, hx, v, _, A, ρ, a, ⟨σ, hK, rfl⟩, hxr, hS, hF⟩
    | some d =>
      obtain ⟨x, rfl, hx⟩ := hu
      exact ⟨d, x, _, A, ρ, a, rfl, ⟨σ, h, rfl⟩, hx, hS, hF⟩
  | cons dd ds ih =>
    intro pn σ A ρ a w u h hS hF hu
    obtain ⟨f, args⟩ := dd
    obtain ⟨code, rs', n, hf, hn, hW⟩ := h
    obtain ⟨fn', hfn, hbody, hrs', hnt, hent⟩ := hf.ex
    have hdf := hS.defers
    generalize hld : a.defers = ld at hdf
    cases hdf with
    | cons _ _ _ cap vals r hargs htl =>
      have hurun : u ≠ .run := by
        cases pn with
        | none => simp only at hu; subst hu; simp
        | some d => obtain ⟨x, rfl, _⟩ := hu; simp
      refine leaves_cons hurun (f := f) (args := vals ++ cap) ?_ ?_
      · simp only [invoke]; exact run_callFunc hent _ w
      · subst hnt
        have hhs := hS.hs fn'.ntmps σ.nid
        have hc' : CtxOk gs (ctx0 w A ρ σ.lh fn'.ntmps σ.nid) := ⟨hS.gint hc, hS.gown hc⟩
        have hap := hhs.apart fn'.ntmps σ.nid
        have hsim := hhs.begin hargs hn σ.nid
        refine callsD_of_wpS hfn hbody fun c₀ cs hc₀ => ?_
        have hM : ModeRel (ctx0 w A ρ σ.lh fn'.ntmps σ.nid) u pn := by
          cases pn with
          | none => exact .inl hu
          | some d => exact hu
        have hsound := WPS_sound (P := P) hm hc' hap c₀ cs code _ _ pn u A ρ _ w hf.ok hW hsim (Fr.start hF.free) hM
        have he : ({ c₀ with mode := u } : Frame) = c₀ := by rw [← hc₀]
        rw [he] at hsound
        intro b k hb hro
        obtain ⟨e, a', cs', w', hq, harr⟩ := hsound b k hb hro
        refine ⟨e, a', cs', w', ?_, harr⟩
        have fin : ∀ (σ' : St) (A' : Nat → Prop) (ρ' : Nat → Option BR) (pn' : Option DV) (u' : FrameMode), σ'.dfs = [] → (∃ v, resA P rs'.toList σ' = some v) → LeaveW (calls P gs) P rs K KP ds pn' { σ with lh := σ'.lh, nid := σ'.nid } → Sim (ctx0 w A ρ σ.lh fn'.ntmps σ.nid) A' ρ' σ' a' w' → Fr (ctx0 w A ρ σ.lh fn'.ntmps σ.nid) ρ' σ'.nid →
            ModeRel (ctx0 w A ρ σ.lh fn'.ntmps σ.nid) u' pn' → a'.defers = [] ∧ ∃ v, (results fn' a'.tmps).run P w' = .ok v w' ∧
              Leaves P fn a.tmps (fun e w' => LeaveR c (fun v σ' => ∃ τ, K v τ ∧ σ' = { τ with dfs := [] }) (fun d σ' => ∃ τ, KP d τ ∧ σ' = { τ with dfs := [] }) e w') r (settle u') w' := fun σ' A' ρ' pn' u' hd0 hres hL hS' hF' hM' => by
          have hd' : a'.defers = [] := by have := hS'.defers; rw [hd0] at this; generalize a'.defers = l at this; cases this; rfl
          obtain ⟨v, hv⟩ := hres
          subst hrs'
          obtain ⟨x, hx, _⟩ := results_sound (P := P) hS' hv
          refine ⟨hd', x, hx, ?_⟩
          have hN := hF'.names hF.free
          have htk := hS.take hS'.toHS hN (fun k hk => hF.free _ (Nat.le_add_right _ _))
          have hdr : DfRep w' A' ρ' ds r := by
            refine htl.mono (hhs.keeps hS'.toHS) (fun b rr hb => ?_)
            rw [hN.2 b ?_]; exact hb
            rintro ⟨h1, h2⟩
            rw [hF.free b h1] at hb; cases hb
          have hSn : Sim c A' ρ' { { σ with lh := σ'.lh, nid := σ'.nid } with dfs := ds } { a with defers := r } w' := { htk with defers := hdr }
          refine ih pn' _ A' ρ' _ w' (settle u') hL hSn (hF.step hN) ?_
          have := settle_mode hM'
          cases pn' with
          | none => exact this
          | some d => obtain ⟨x, h1, h2⟩ := this; exact ⟨x, h1, h2.mono (hS'.toHS.keeps0 hap)⟩
        cases e with
        | normal => obtain ⟨σ', A', ρ', pn', u', ⟨_, h1, h2, h3⟩, h4, h5, rfl, h6⟩ := hq; obtain ⟨q1, v, q2, q3⟩ := fin σ' A' ρ' pn' u' h1 h2 h3 h4 h5 h6; exact ⟨q1, u', rfl, v, q2, q3⟩
        | ret => obtain ⟨σ', A', ρ', pn', u', ⟨_, h1, h2, h3⟩, h4, h5, rfl, h6⟩ := hq; obtain ⟨q1, v, q2, q3⟩ := fin σ' A' ρ' pn' u' h1 h2 h3 h4 h5 h6; exact ⟨q1, u', rfl, v, q2, q3⟩
        | panic ch => exact hq.elim
        | exit id => obtain ⟨σ', A', ρ', pn', u', ⟨h1, _⟩, _⟩ := hq; rcases h1 with h | h <;> cases h
        | goto l => obtain ⟨σ', A', ρ', pn', u', ⟨h1, _⟩, _⟩ := hq; rcases h1 with h | h <;> cases h
        | outgrown => obtain ⟨σ', A', ρ', pn', u', ⟨h1, _⟩, _⟩ := hq; rcases h1 with h | h <;> cases h

/-- THE BODY's WALK is the model's call. -/
theorem body_sound (hm : P.follows .mixedOrders = true) {f : FuncId} {code : Code} {rs : Array ResultVar} {n : Nat} (hf : FnIs P f code rs n) {args : List AV} (hn : args.length ≤ n) {lh : Nat → Option LB} {nid : Nat} {K : AV → St → Prop} {KP : DV → St → Prop}
    (h : BodyW (calls P gs) P code rs.toList K KP ⟨envA args, lh, nid, []⟩) {vals : Array Value} (hS : HS (ctx0 w A ρ lh 0 0) A ρ lh w) (hG : GInt gs w) (hO : ∀ g ∈ gs, ¬ Own ρ lh g) (hF : Free ρ nid) (hr : ARepL w A ρ args vals) :
    Calls P f vals w fun e w' => LeaveR (ctx0 w A ρ lh n nid) (fun v σ' => ∃ τ, K v τ ∧ σ' = { τ with dfs := [] }) (fun d σ' => ∃ τ, KP d τ ∧ σ' = { τ with dfs := [] }) e w' := by
  obtain ⟨fn, hfn, hbody, hrs, hnt, hent⟩ := hf.ex
  subst hnt
  have hS' : HS (ctx0 w A ρ lh fn.ntmps nid) A ρ lh w := { hS with }
  have hc : CtxOk gs (ctx0 w A ρ lh fn.ntmps nid) := ⟨hG, hO⟩
  refine calls_of_wp_defers hfn hbody (wp_mono (WP_sound (P := P) (gs := gs) hm hc code _ _ A ρ _ w hf.ok h (hS'.begin hr hn nid) (Fr.start hF)) fun e a w' hq => ?_)
  have hrs' : fn.results.toList = rs.toList := by rw [hrs]
  cases e with
  | normal => obtain ⟨σ, A', ρ', h1, h2, h3⟩ := hq; exact leaves_sound hm hc hrs' σ.dfs none σ A' ρ' a w' _ h1 h2 h3 rfl
  | ret => obtain ⟨σ, A', ρ', h1, h2, h3⟩ := hq; exact leaves_sound hm hc hrs' σ.dfs none σ A' ρ' a w' _ h1 h2 h3 rfl
  | panic ch => obtain ⟨d, x, σ, A', ρ', rfl, h1, h2, h3, h4⟩ := hq; exact leaves_sound hm hc hrs' σ.dfs (some d) σ A' ρ' a w' _ h1 h2 h4 ⟨x, rfl, h3⟩
  | exit id => obtain ⟨σ, A', ρ', h1, _⟩ := hq; exact h1.elim
  | goto l => obtain ⟨σ, A', ρ', h1, _⟩ := hq; exact h1.elim
  | outgrown => obtain ⟨σ, A', ρ', h1, _⟩ := hq; exact h1.elim

theorem FnIs.enter {f : FuncId} {code : Code} {rs : Array ResultVar} {n : Nat} (hf : FnIs P f code rs n) : enterOk P f = true := by
  obtain ⟨fn, hfn, hbody, hrs, hnt, hent⟩ := hf.ex; exact hent

/-- A contract with the local blocks of the caller, exactly as the walk leaves them. -/
theorem hcall_of_body (hm : P.follows .mixedOrders = true) {f : FuncId} {code : Code} {rs : Array ResultVar} {n : Nat} (hf : FnIs P f code rs n) {args : List AV} (hn : args.length ≤ n) {lh : Nat → Option LB} {nid : Nat} {r : Res}
    (h : BodyW (calls P gs) P code rs.toList (fun v σ => r = ⟨v, σ.lh, σ.nid⟩) (fun _ _ => False) ⟨envA args, lh, nid, []⟩) : HCall P gs f args lh nid r := by
  refine ⟨hf.enter, fun w A ρ vals hS hG hO hF hr => (body_sound hm hf hn h hS hG hO hF hr).mono fun e w' hL => ?_⟩
  cases e with
  | returned x =>
    obtain ⟨v, σ, A', ρ', a, ⟨τ, rfl, rfl⟩, h2, h3, h4⟩ := hL
    exact ⟨x, rfl, A', ρ', { h3.toHS with }, h2, h4.names hF⟩
  | panicked ch => obtain ⟨d, x, σ, A', ρ', a, _, ⟨τ, hf, _⟩, _⟩ := hL; exact hf.elim
  | outgrown => exact hL.elim

theorem hpanic_of_body (hm : P.follows .mixedOrders = true) {f : FuncId} {code : Code} {rs : Array ResultVar} {n : Nat} (hf : FnIs P f code rs n) {args : List AV} (hn : args.length ≤ n) {lh : Nat → Option LB} {nid : Nat} {d : DV} {r : Res}
    (h : BodyW (calls P gs) P code rs.toList (fun _ _ => False) (fun d' σ => d' = d ∧ r.lh = σ.lh ∧ r.nid = σ.nid) ⟨envA args, lh, nid, []⟩) : HPanic P gs f args lh nid d r := by
  refine ⟨hf.enter, fun w A ρ vals hS hG hO hF hr => (body_sound hm hf hn h hS hG hO hF hr).mono fun e w' hL => ?_⟩
  cases e with
  | returned x => obtain ⟨v, σ, A', ρ', a, ⟨τ, hf, rfl⟩, _⟩ := hL; exact hf.elim
  | panicked ch =>
    obtain ⟨d', x, σ, A', ρ', a, rfl, ⟨τ, ⟨rfl, e1, e2⟩, rfl⟩, h2, h3, h4⟩ := hL
    refine ⟨x, rfl, A', ρ', ?_, h2, ?_⟩
    · rw [e1]; exact { h3.toHS with }
    · rw [e2]; exact h4.names hF
  | outgrown => exact hL.elim

/-- Data, read off a walk's end. -/
theorem frz_donated {n : Nat} (hS : Sim c A ρ σ a w) {v : AV} {d : DV} {x : Value} (h : frz σ.lh n v = some d) (hv : ARep w A ρ v x) {bs : List Nat} (hb : ∀ b ∈ reach σ.lh n v, b ∈ bs) :
    DRep w (fun g => A g ∨ ∃ b r k, b ∈ bs ∧ ρ b = some r ∧ σ.lh b = some k ∧ r.g = g) d x :=
  frz_sound (fun g h => .inl h) (fun b r k h1 h2 => hS.blk b r k h1 h2) n v d x h (fun b hb' r k h1 h2 => .inr ⟨b, r, k, hb b hb', h1, h2, rfl⟩) hv

/-- What stands behind the result. -/
inductive RetOk (σ : St) : AV → Ret → Prop where
  | imm (v : AV) (d : DV) (h : frz σ.lh 8 v = some d) : RetOk σ v ⟨.d d, []⟩
  | fresh (b es len : Nat) (k : LB) (ds : List DV) (h : σ.lh b = some k) (hl : k.live = true) (hf : k.els.mapM (frz σ.lh 7) = some ds) (hn : b ∉ k.els.flatMap (reach σ.lh 7)) :
      RetOk σ (.slc b es 0 len) ⟨.slc 0 es 0 len, [{ k with els := ds.map .d }]⟩

def lh0 : Nat → Option LB := fun _ => none

theorem below_of {m : Nat} {w' : World} {A' : Nat → Prop} {lh : Nat → Option LB} (hS : HS (ctx0 w A (fun _ => none) lh0 m 0) A' ρ lh w') : Below w.heap.size w w' :=
  ⟨hS.os, hS.tape, hS.output, hS.hsize, fun k hk => hS.frame k hk (fun ⟨b, r, q, h, _⟩ => by cases h)⟩

theorem new_of {m : Nat} {w' : World} {A' : Nat → Prop} {lh : Nat → Option LB} (hS : HS (ctx0 w A (fun _ => none) lh0 m 0) A' ρ lh w') {g : Nat} (h : A' g) : A g ∨ w.heap.size ≤ g := by
  rcases hS.new g h with h | h | h
  · exact .inl h
  · obtain ⟨b, r, q, h, _⟩ := h; cases h
  · exact .inr h

theorem retrep_of {m : Nat} {w' : World} {A' : Nat → Prop} (hS : Sim (ctx0 w A (fun _ => none) lh0 m 0) A' ρ σ a w') {v : AV} {r : Ret} (hr : RetOk σ v r) {x : Value} (hx : ARep w' A' ρ v x) :
    RetRep w A r x w' := by
  have hB := below_of hS.toHS
  cases hr with
  | imm _ d h =>
    have hD := hS.donate (reach σ.lh 8 v)
    exact ⟨_, fun _ => none, hB, fun g h => hD.up g h, fun g h => new_of hD.toHS h, hD.lt, .d _ _ (frz_donated hS h hx (fun b hb => hb)), (fun b k h => by simp at h), (fun b q b' q' h => by cases h), (fun b q h => by cases h)⟩
  | fresh b es len k ds hk hlive hf hn =>
    cases hx with
    | slc _ _ _ _ q hq he hle =>
      have hD := hS.donate (k.els.flatMap (reach σ.lh 7))
      have hlh : applyChg σ.lh (deaden σ.lh (k.els.flatMap (reach σ.lh 7))) b = some k := by
        unfold deaden; rw [applyChg_map, if_neg hn]; exact hk
      have hown := hD.own b q k hq hlh hlive
      have hbr := hS.blk b q k hq hk
      obtain ⟨f1, f2⟩ := frz_list hf
      let ρ' : Nat → Option BR := fun i => if i = 0 then some q else none
      have toflat : BRep w' (fun g => A' g ∨ ∃ b r k', b ∈ k.els.flatMap (reach σ.lh 7) ∧ ρ b = some r ∧ σ.lh b = some k' ∧ r.g = g) ρ' { k with els := ds.map .d } q := by
        obtain ⟨⟨cur, fr, h1, h2, h3, h4, h5⟩, e1, e2, e3, e4⟩ := hbr
        have cel : ∀ j, j < k.els.length → (ds.map AV.d).getD j .undef = .d (ds.getD j .inil) := fun j hj => zG7 _ _ (by omega)
        refine ⟨⟨cur, fr, h1, h2, h3, h4, fun j m hj hm => ?_⟩, e1, by simp only [List.length_map]; omega, e3, fun j hj => ?_⟩
        · simp only [List.length_map] at hj
          have hj' : j < k.els.length := by omega
          obtain ⟨y, p1, p2, p3⟩ := h5 j m hj' hm
          refine ⟨y, p1, p2, ?_⟩
          obtain ⟨g1, g2⟩ := frz_cells (f2 j hj')
          have hlen := e4 j hj'
          have hm : m < k.es := hm
          obtain ⟨n', _, g3, g4⟩ := g2 m (by omega)
          rw [cel j hj', dcells, zG7 _ _ (by omega)]
          exact .d _ _ (frz_donated hS g3 p3 (fun b' hb' => reach_el (lh := σ.lh) (n := 7) hj' b' (g4 b' hb')))
        · simp only [List.length_map] at hj
          have hj' : j < k.els.length := by omega
          obtain ⟨g1, g2⟩ := frz_cells (f2 j hj')
          rw [cel j hj', dcells, List.length_map, g1]; exact e4 j hj'
      refine ⟨_, ρ', hB, fun g h => hD.up g h, fun g h => new_of hD.toHS h, hD.lt, ?_, fun i k' h => ?_, fun i q1 i' q2 h1 h2 _ => ?_, fun i q1 h => ?_⟩
      · have := ARep.slc (w := w') (A := fun g => A' g ∨ ∃ b r k', b ∈ k.els.flatMap (reach σ.lh 7) ∧ ρ b = some r ∧ σ.lh b = some k' ∧ r.g = g) (ρ := ρ') 0 es 0 len q (by simp [ρ']) he (by simpa using hle)
        simpa using this
      · have hi : i = 0 := by
          rcases Nat.eq_zero_or_pos i with h0 | h0
          · exact h0
          · rw [List.getElem?_eq_none (by simp; omega)] at h; cases h
        subst hi
        simp at h; subst h
        refine ⟨hlive, q, by simp [ρ'], toflat, ?_, hown.1⟩
        rcases hown.2 with h | h
        · obtain ⟨b', r', q', h, _⟩ := h; cases h
        · exact h
      · simp only [ρ'] at h1 h2
        split at h1
        · split at h2
          · omega
          · cases h2
        · cases h1
      · simp only [ρ'] at h
        split at h
        · simp; omega
        · cases h

theorem hs0 {vals : Array Value} {args : List DV} (hA : ∀ g, A g → g < w.heap.size) : HS (ctx0 w A (fun _ => none) lh0 0 0) A (fun _ => none) lh0 w := {
  blk := fun b r k h => by cases h
  inj := fun b r b' r' h => by cases h
  own := fun b r k h => by cases h
  dead := fun b r k h => by cases h
  lt := hA
  up := fun g h => h
  new := fun g h => .inl h
  os := rfl
  tape := rfl
  output := rfl
  hsize := Nat.le_refl _
  frame := fun g _ _ => rfl }

theorem argsD {args : List DV} {vals : Array Value} (hl : vals.size = args.length) (hr : ∀ i, i < args.length → DRep w A (args.getD i .inil) (vals.getD i undef)) : ARepL w A ρ (args.map .d) vals :=
  ⟨by simpa using hl, fun i hi => by have hi : i < args.length := by simpa using hi
                                     rw [zG7 _ _ hi]; exact .d _ _ (hr i hi)⟩

/-- Where a body's walk begins when all arguments are data. -/
def st0 (args : List DV) : St := ⟨envA (args.map .d), lh0, 0, []⟩

/-- THE CONTRACT OUT OF THE WALK. -/
theorem zK7 (hm : P.follows .mixedOrders = true) {f : FuncId} {code : Code} {rs : Array ResultVar} {n : Nat} (hf : FnIs P f code rs n) {args : List DV} (hn : args.length ≤ n) {r : Ret}
    (h : BodyW (calls P gs) P code rs.toList (fun v σ => RetOk σ v r) (fun _ _ => False) (st0 args)) : PureCall P gs f args r := by
  refine ⟨hf.enter, fun w A vals hA hl hr hG => (body_sound (args := args.map .d) (ρ := fun _ => none) hm hf (by simpa using hn) h (hs0 (vals := vals) (args := args) hA) hG (fun g _ ⟨b, r, q, h, _⟩ => by cases h) (fun _ _ => rfl) (argsD hl hr)).mono fun e w' hL => ?_⟩
  cases e with
  | returned x =>
    obtain ⟨v, σ, A', ρ', a, ⟨τ, h1, rfl⟩, h2, h3, h4⟩ := hL
    refine ⟨x, rfl, retrep_of h3 ?_ h2⟩
    cases h1 with
    | imm _ d hd => exact .imm v d hd
    | fresh b es len k ds q1 q2 q3 q4 => exact .fresh b es len k ds q1 q2 q3 q4
  | panicked ch => obtain ⟨d, x, σ, A', ρ', a, _, ⟨τ, hf, _⟩, _⟩ := hL; exact hf.elim
  | outgrown => exact hL.elim

theorem panic_of_body (hm : P.follows .mixedOrders = true) {f : FuncId} {code : Code} {rs : Array ResultVar} {n : Nat} (hf : FnIs P f code rs n) {args : List DV} (hn : args.length ≤ n) {d : DV}
    (h : BodyW (calls P gs) P code rs.toList (fun _ _ => False) (fun d' _ => d' = d) (st0 args)) : PanicCall P gs f args d := by
  refine ⟨hf.enter, fun w A vals hA hl hr hG => (body_sound (args := args.map .d) (ρ := fun _ => none) hm hf (by simpa using hn) h (hs0 (vals := vals) (args := args) hA) hG (fun g _ ⟨b, r, q, h, _⟩ => by cases h) (fun _ _ => rfl) (argsD hl hr)).mono fun e w' hL => ?_⟩
  cases e with
  | returned x => obtain ⟨v, σ, A', ρ', a, ⟨τ, hf, rfl⟩, _⟩ := hL; exact hf.elim
  | panicked ch =>
    obtain ⟨d', x, σ, A', ρ', a, rfl, ⟨τ, rfl, rfl⟩, h2, h3, h4⟩ := hL
    exact ⟨x, rfl, A', fun _ => none, below_of h3.toHS, h3.up, fun g h => new_of h3.toHS h, h3.lt, .d _ _ h2, (fun b k h => by simp at h), (fun b q b' q' h => by cases h), (fun b q h => by cases h)⟩
  | outgrown => exact hL.elim
end
end
end Go.Proofs.Am

set_option linter.unusedVariables false
set_option linter.unusedSimpArgs false
namespace Go.Proofs.Am
open Go Go.RowKit

inductive Out where
  | fin (e : Exit) (σ : St)
  | pan (d : DV) (σ : St)
  | stuck

inductive COut where
  | ok (r : Res)
  | pan (d : DV) (r : Res)
  | stuck

def eq0 : DV → DV → Bool
  | .int k n, .int k' n' => decide (k = k') && n == n'
  | .bool b, .bool b' => b == b'
  | .str s, .str s' => s.data.toList == s'.data.toList
  | .pnil, .pnil | .snil, .snil | .fnil, .fnil | .inil, .inil => true
  | _, _ => false

def eqs0 : List DV → List DV → Bool
  | [], [] => true
  | x :: l, y :: r => eq0 x y && eqs0 l r
  | _, _ => false

def eq1 : DV → DV → Bool
  | .agg l, .agg r => eqs0 l r
  | .tup l, .tup r => eqs0 l r
  | x, y => eq0 x y

/-- Are two data without memory the same? -/
def scalarEq : DV → DV → Bool
  | .iface t x, .iface t' y => t == t' && eq1 x y
  | x, y => eq1 x y

theorem eq0_eq {x y : DV} (h : eq0 x y = true) : x = y := by
  unfold eq0 at h
  split at h <;> first | rfl | (cases h; done) | skip
  · simp only [Bool.and_eq_true, decide_eq_true_eq, beq_iff_eq] at h; rw [h.1, h.2]
  · simp only [beq_iff_eq] at h; rw [h]
  · rename_i s s'
    simp only [beq_iff_eq] at h
    obtain ⟨⟨a⟩⟩ := s
    obtain ⟨⟨b⟩⟩ := s'
    simp only at h
    rw [h]

theorem eqs0_eq : ∀ {l r : List DV}, eqs0 l r = true → l = r
  | [], [], _ => rfl
  | [], _ :: _, h => by simp [eqs0] at h
  | _ :: _, [], h => by simp [eqs0] at h
  | x :: l, y :: r, h => by
    simp only [eqs0, Bool.and_eq_true] at h
    rw [eq0_eq h.1, eqs0_eq h.2]

theorem eq1_eq {x y : DV} (h : eq1 x y = true) : x = y := by
  unfold eq1 at h
  split at h
  · rw [eqs0_eq h]
  · rw [eqs0_eq h]
  · exact eq0_eq h

theorem scalarEq_eq {x y : DV} (h : scalarEq x y = true) : x = y := by
  unfold scalarEq at h
  split at h
  · simp only [Bool.and_eq_true, beq_iff_eq] at h; rw [h.1, eq1_eq h.2]
  · exact eq1_eq h

/-- How calls are answered. -/
structure Runs where
  call : (Nat → Option LB) → Nat → FuncId → List AV → COut
  pure : FuncId → List DV → Option Ret
  pan : FuncId → List DV → Option DV

def scalarRet (p : Ret) : Bool := match p with | ⟨.d d, []⟩ => scalarD d | _ => false

def pureRes (lh : Nat → Option LB) (nid : Nat) (args : List AV) (p : Ret) : OpR :=
  if (args.all isD || scalarRet p) = true then p.op nid else ⟨(p.op nid).v, deaden lh (args.flatMap (reach lh 8)) ++ (p.op nid).chg, (p.op nid).nid⟩

def opRun (R : Runs) : BM → (Nat → Option LB) → COut
  | .pure r, lh => .ok (r.res lh)
  | .get b k, lh => match lh b with | some x => opRun R (k x) lh | none => .stuck
  | .call nid f args, lh => R.call lh nid f args
  | .pan nid d, lh => .pan d ⟨.undef, lh, nid⟩
  | .fail, _ => .stuck

def opRunD (R : Runs) : BM → (Nat → Option LB) → Option (OpR × List Nat)
  | .pure r, _ => some (r, [])
  | .get b k, lh => match lh b with | some x => (opRunD R (k x) lh).map fun p => (p.1, b :: p.2) | none => none
  | .call nid f args, lh => match args.mapM (frz lh 8) with
    | some ds => (R.pure f ds).map fun p => (pureRes lh nid args p, args.flatMap (reach lh 8))
    | none => none
  | _, _ => none

def regT (R : Runs) (P : Program) (ops : Array Oper) : List Oper → St → Out
  | [], σ => .fin .normal σ
  | o :: rest, σ => match guardA ops σ.env o with
    | some true => match dfrOf σ.eval o.op with
      | some d => regT R P ops rest { σ with env := putE σ.env o.dst .undef, dfs := d :: σ.dfs }
      | none => match opRun R (opB P σ.nid σ.eval o.op) σ.lh with
        | .ok r => regT R P ops rest (σ.app o.dst r)
        | .pan d r => .pan d { σ with lh := r.lh, nid := r.nid }
        | .stuck => .stuck
    | some false => regT R P ops rest { σ with env := putE σ.env o.dst (.d (.tup [])) }
    | none => .stuck

def regD (R : Runs) (P : Program) (ops : Array Oper) (n0 : Nat) : List Oper → Nat → St → Option (St × List TE)
  | [], _, σ => some (σ, [])
  | o :: rest, i, σ => match guardA ops σ.env o with
    | some true => match opRunD R (opB P (n0 + i) σ.eval o.op) σ.lh with
      | some (r, rs) => if r.nid ≤ n0 + i + 1 then
          (regD R P ops n0 rest (i + 1) { env := putE σ.env o.dst r.v, lh := applyChg σ.lh r.chg, nid := σ.nid, dfs := σ.dfs }).map fun p => (p.1, ⟨rs, r.chg.map (·.1)⟩ :: p.2) else none
      | none => none
    | some false => (regD R P ops n0 rest (i + 1) { σ with env := putE σ.env o.dst (.d (.tup [])) }).map fun p => (p.1, te0 :: p.2)
    | none => none

/-- The operation that gives up, the first one in the order of the text. -/
def findP (R : Runs) (P : Program) (ops : Array Oper) (n0 : Nat) : List Oper → Nat → St → Option (Nat × DV)
  | [], _, _ => none
  | o :: rest, i, σ => match guardA ops σ.env o with
    | some true => match opRunD R (opB P (n0 + i) σ.eval o.op) σ.lh with
      | some (r, _) => findP R P ops n0 rest (i + 1) { env := putE σ.env o.dst r.v, lh := applyChg σ.lh r.chg, nid := σ.nid, dfs := σ.dfs }
      | none => match opB P (n0 + i) σ.eval o.op with
        | .call _ f args => match args.mapM (frz σ.lh 8) with
          | some ds => (R.pan f ds).map fun d => (i, d)
          | none => none
        | _ => none
    | some false => findP R P ops n0 rest (i + 1) { σ with env := putE σ.env o.dst (.d (.tup [])) }
    | none => none

def skipsOf (ops : Array Oper) (p : Nat) : List Nat :=
  ops.toList.zipIdx.foldl (fun D (q : Oper × Nat) => if (q.2 != p && (direct q.1 p || D.any (direct q.1))) = true then q.2 :: D else D) []

def regDP (R : Runs) (P : Program) (ops : Array Oper) (n0 p : Nat) (d : DV) (D : List Nat) : List Oper → Nat → St → Option (List TE)
  | [], _, _ => some []
  | o :: rest, i, σ =>
    if D.contains i = true then (regDP R P ops n0 p d D rest (i + 1) σ).map fun tr => te0 :: tr
    else if i = p then match guardA ops σ.env o, opB P (n0 + i) σ.eval o.op with
      | some true, .call nid f args => if nid = n0 + i then match args.mapM (frz σ.lh 8) with
        | some ds => match R.pan f ds with
          | some d' => if scalarD d = true ∧ scalarEq d d' = true then (regDP R P ops n0 p d D rest (i + 1) { σ with env := putE σ.env o.dst .undef }).map fun tr => ⟨args.flatMap (reach σ.lh 8), []⟩ :: tr else none
          | none => none
        | none => none else none
      | _, _ => none
    else match guardA ops σ.env o with
      | some true => match opRunD R (opB P (n0 + i) σ.eval o.op) σ.lh with
        | some (r, rs) => if r.nid ≤ n0 + i + 1 then
            (regDP R P ops n0 p d D rest (i + 1) { env := putE σ.env o.dst r.v, lh := applyChg σ.lh r.chg, nid := σ.nid, dfs := σ.dfs }).map fun tr => ⟨rs, r.chg.map (·.1)⟩ :: tr else none
        | none => none
      | some false => (regDP R P ops n0 p d D rest (i + 1) { σ with env := putE σ.env o.dst (.d (.tup [])) }).map fun tr => te0 :: tr
      | none => none

def indepB (x y : TE) : Bool := (y.writes.all fun b => !x.reads.contains b && !x.writes.contains b) && x.writes.all fun b => !y.reads.contains b

def iter (body : St → Out) : Nat → St → Out
  | 0, _ => .stuck
  | n + 1, σ => match body σ with
    | .fin .normal σ' => iter body n σ'
    | o => o

def exec (R : Runs) (P : Program) (lb : Nat) : Code → St → Out
  | .skip, σ | .label _, σ => .fin .normal σ
  | .region _ ops false, σ => regT R P ops ops.toList σ
  | .region _ ops true, σ => match regD R P ops σ.nid ops.toList 0 σ with
    | some (σ', tr) => if ((loose ops).all fun p => indepB (tr.getD p.1 te0) (tr.getD p.2 te0)) = true then .fin .normal { σ' with nid := σ.nid + ops.size } else .stuck
    | none => match findP R P ops σ.nid ops.toList 0 σ with
      | some (p, d) => if skipOk ops p (skipsOf ops p) = true then
          match regDP R P ops σ.nid p d (skipsOf ops p) ops.toList 0 σ with
          | some tr => if ((loose ops).all fun p => indepB (tr.getD p.1 te0) (tr.getD p.2 te0)) = true then .pan d (dropped σ (ops.toList.filterMap (·.dst)) (tr.flatMap (·.writes)) (σ.nid + ops.size)) else .stuck
          | none => .stuck
        else .stuck
      | none => .stuck
  | .seq a b, σ => match exec R P lb a σ with
    | .fin .normal σ' => exec R P lb b σ'
    | o => o
  | .cond c a b, σ => match σ.eval c with
    | .d (.bool true) => exec R P lb a σ
    | .d (.bool false) => exec R P lb b σ
    | _ => .stuck
  | .block id c, σ => match exec R P lb c σ with
    | .fin (.exit id') σ' => if id' = id then .fin .normal σ' else .fin (.exit id') σ'
    | o => o
  | .loop c, σ => iter (exec R P lb c) lb σ
  | .scope c, σ => match exec R P lb c σ with
    | .fin (.goto _) _ => .stuck
    | o => o
  | .exit id, σ => .fin (.exit id) σ
  | .ret, σ => .fin .ret σ
  | _, _ => .stuck

/-- The same for deferred calls. -/
inductive OutS where
  | fin (e : Exit) (σ : St) (pn : Option DV)
  | stuck

def regTS (R : Runs) (P : Program) (ops : Array Oper) : List Oper → St → Option DV → OutS
  | [], σ, pn => .fin .normal σ pn
  | o :: rest, σ, pn => match guardA ops σ.env o with
    | some true => if isRecover o.op = true then regTS R P ops rest { σ with env := putE σ.env o.dst (.d (match pn with | some d => d | none => .inil)) } none
        else match opRun R (opB P σ.nid σ.eval o.op) σ.lh with
          | .ok r => regTS R P ops rest (σ.app o.dst r) pn
          | _ => .stuck
    | some false => regTS R P ops rest { σ with env := putE σ.env o.dst (.d (.tup [])) } pn
    | none => .stuck

def Out.withPn (o : Out) (pn : Option DV) : OutS := match o with | .fin e σ => .fin e σ pn | _ => .stuck

def execS (R : Runs) (P : Program) (lb : Nat) : Code → St → Option DV → OutS
  | .seq a b, σ, pn => match execS R P lb a σ pn with
    | .fin .normal σ' pn' => execS R P lb b σ' pn'
    | o => o
  | .cond c a b, σ, pn => match σ.eval c with
    | .d (.bool true) => execS R P lb a σ pn
    | .d (.bool false) => execS R P lb b σ pn
    | _ => .stuck
  | .region id ops d, σ, pn => if hasRec (.region id ops d) = true then (if d = false then regTS R P ops ops.toList σ pn else .stuck) else (exec R P lb (.region id ops d) σ).withPn pn
  | c, σ, pn => (exec R P lb c σ).withPn pn

inductive BOut where
  | ret (v : AV) (σ : St)
  | pan (d : DV) (σ : St)
  | stuck

def fnOk (P : Program) (f : FuncId) (nargs : Nat) : Option (Code × Array ResultVar × Nat) :=
  match P.funcs[f]? with
  | some fn => match fn.body with
    | some code => if enterOk P f = true ∧ codeOk fn.ntmps code = true ∧ nargs ≤ fn.ntmps then some (code, fn.results, fn.ntmps) else none
    | none => none
  | none => none

def leave (R : Runs) (P : Program) (lb : Nat) (rs : List ResultVar) : List (FuncId × List AV) → Option DV → St → BOut
  | [], none, σ => match resA P rs σ with | some v => .ret v σ | none => .stuck
  | [], some d, σ => .pan d σ
  | (f, args) :: ds, pn, σ => match fnOk P f args.length with
    | some (code, rs', n) => match execS R P lb code ⟨envA args, σ.lh, σ.nid, []⟩ pn with
      | .fin .normal σ' pn' | .fin .ret σ' pn' => match σ'.dfs, resA P rs'.toList σ' with
        | [], some _ => leave R P lb rs ds pn' { σ with lh := σ'.lh, nid := σ'.nid }
        | _, _ => .stuck
      | _ => .stuck
    | none => .stuck

def bodyRun (R : Runs) (P : Program) (lb : Nat) (code : Code) (rs : List ResultVar) (σ : St) : BOut :=
  match exec R P lb code σ with
  | .fin .normal σ' | .fin .ret σ' => leave R P lb rs σ'.dfs none σ'
  | .pan d σ' => leave R P lb rs σ'.dfs (some d) σ'
  | _ => .stuck

def retOf (v : AV) (σ : St) : Option Ret :=
  match v with
  | .slc b es 0 len => match σ.lh b with
    | some k => if k.live = true ∧ (k.els.flatMap (reach σ.lh 7)).contains b = false then (k.els.mapM (frz σ.lh 7)).map fun ds => ⟨.slc 0 es 0 len, [{ k with els := ds.map .d }]⟩ else none
    | none => none
  | v => (frz σ.lh 8 v).map fun d => ⟨.d d, []⟩

/-- What is known of functions without being run. -/
abbrev Prims := FuncId → Option (List DV → Option Ret)

def runs (P : Program) (prim : Prims) (lb : Nat) : Nat → Runs
  | 0 => ⟨fun _ _ _ _ => .stuck, fun _ _ => none, fun _ _ => none⟩
  | n + 1 =>
    { call := fun lh nid f args => match prim f with
        | some g => match args.mapM (frz lh 8) with
          | some ds => match g ds with
            | some p => .ok ((pureRes lh nid args p).res lh)
            | none => .stuck
          | none => .stuck
        | none => match fnOk P f args.length with
          | some (code, rs, _) => match bodyRun (runs P prim lb n) P lb code rs.toList ⟨envA args, lh, nid, []⟩ with
            | .ret v σ => .ok ⟨v, σ.lh, σ.nid⟩
            | .pan d σ => .pan d ⟨.undef, σ.lh, σ.nid⟩
            | .stuck => .stuck
          | none => .stuck
      pure := fun f ds => match prim f with
        | some g => g ds
        | none => match fnOk P f ds.length with
          | some (code, rs, _) => match bodyRun (runs P prim lb n) P lb code rs.toList (st0 ds) with
            | .ret v σ => retOf v σ
            | _ => none
          | none => none
      pan := fun f ds => match prim f with
        | some _ => none
        | none => match fnOk P f ds.length with
          | some (code, rs, _) => match bodyRun (runs P prim lb n) P lb code rs.toList (st0 ds) with
            | .pan d σ => some d
            | _ => none
          | none => none }
end Go.Proofs.Am

set_option linter.unusedVariables false
set_option linter.unusedSimpArgs false
namespace Go.Proofs.Am
open Go Go.RowKit

def Out.sat (o : Out) (Q : Exit → St → Prop) (QP : DV → St → Prop) : Prop :=
  match o with
  | .fin e σ => Q e σ
  | .pan d σ => QP d σ
  | .stuck => False

def COut.sat (o : COut) (K : Res → Prop) (KP : DV → Res → Prop) : Prop :=
  match o with
  | .ok r => K r
  | .pan d r => KP d r
  | .stuck => False

def OutS.sat (o : OutS) (Q : Exit → St → Option DV → Prop) : Prop :=
  match o with
  | .fin e σ pn => Q e σ pn
  | .stuck => False

structure RunsOk (P : Program) (gs : List Nat) (R : Runs) : Prop where
  call : ∀ lh nid f args r, R.call lh nid f args = .ok r → (∃ r' rs, (calls P gs).ok lh nid f args rs r' ∧ r = r'.res lh) ∨ (calls P gs).okT lh nid f args r
  pan : ∀ lh nid f args d r, R.call lh nid f args = .pan d r → (calls P gs).pan lh nid f args d r
  pure : ∀ f ds p, R.pure f ds = some p → PureCall P gs f ds p
  panP : ∀ f ds d, R.pan f ds = some d → PanicCall P gs f ds d

section
variable {P : Program} {gs : List Nat} {R : Runs}

theorem opRun_ok (hR : RunsOk P gs R) {K : Res → Prop} {KP : DV → Res → Prop} : ∀ (m : BM) (lh : Nat → Option LB), (opRun R m lh).sat K KP → wpB (calls P gs) true m lh K KP
  | .pure r, lh, h => h
  | .get b k, lh, h => by
    simp only [opRun] at h
    simp only [wpB]
    cases hb : lh b with
    | none => simp [hb, COut.sat] at h
    | some x => simp only [hb] at h; exact opRun_ok hR (k x) lh h
  | .call nid f args, lh, h => by
    simp only [opRun] at h
    simp only [wpB]
    cases hc : R.call lh nid f args with
    | ok r =>
      rw [hc] at h
      rcases hR.call _ _ _ _ _ hc with ⟨r', rs, h1, rfl⟩ | h1
      · exact .inl ⟨r', rs, h1, h⟩
      · exact .inr (.inl ⟨trivial, r, h1, h⟩)
    | pan d r => rw [hc] at h; exact .inr (.inr (.inl ⟨trivial, d, r, hR.pan _ _ _ _ _ _ hc, h⟩))
    | stuck => rw [hc] at h; exact h.elim
  | .pan nid d, lh, h => h
  | .fail, lh, h => h.elim

theorem pureRes_ok {lh : Nat → Option LB} {nid : Nat} {f : FuncId} {args : List AV} {ds : List DV} {p : Ret} (hf : args.mapM (frz lh 8) = some ds) (hp : PureCall P gs f ds p) :
    (calls P gs).ok lh nid f args (args.flatMap (reach lh 8)) (pureRes lh nid args p) := by
  refine ⟨ds, p, hf, hp, rfl, ?_⟩
  unfold pureRes
  split
  · rename_i h
    refine .inl ⟨?_, rfl⟩
    simp only [Bool.or_eq_true] at h
    rcases h with h | h
    · exact .inl h
    · right
      unfold scalarRet at h
      split at h
      · exact ⟨_, rfl, h⟩
      · cases h
  · exact .inr rfl

theorem opRunD_ok (hR : RunsOk P gs R) {K : OpR → List Nat → Prop} : ∀ (m : BM) (lh : Nat → Option LB) (r : OpR) (rs : List Nat), opRunD R m lh = some (r, rs) → K r rs → wpBT (calls P gs) m lh K
  | .pure r, lh, r', rs, h, hK => by simp only [opRunD, Option.some.injEq, Prod.mk.injEq] at h; obtain ⟨rfl, rfl⟩ := h; exact hK
  | .get b k, lh, r', rs, h, hK => by
    simp only [opRunD] at h
    simp only [wpBT]
    cases hb : lh b with
    | none => simp [hb] at h
    | some x =>
      simp only [hb, Option.map_eq_some_iff] at h
      obtain ⟨⟨r1, rs1⟩, h1, h2⟩ := h
      simp only [Prod.mk.injEq] at h2
      obtain ⟨rfl, rfl⟩ := h2
      exact opRunD_ok hR (k x) lh r1 rs1 h1 hK
  | .call nid f args, lh, r', rs, h, hK => by
    simp only [opRunD] at h
    cases hf : args.mapM (frz lh 8) with
    | none => simp [hf] at h
    | some ds =>
      simp only [hf, Option.map_eq_some_iff] at h
      obtain ⟨p, h1, h2⟩ := h
      simp only [Prod.mk.injEq] at h2
      obtain ⟨rfl, rfl⟩ := h2
      exact ⟨_, _, pureRes_ok hf (hR.pure _ _ _ h1), hK⟩
  | .pan nid d, lh, _, _, h, _ => by simp [opRunD] at h
  | .fail, lh, _, _, h, _ => by simp [opRunD] at h

theorem regT_ok (hR : RunsOk P gs R) {ops : Array Oper} {K : St → Prop} {KP : DV → St → Prop} : ∀ (l : List Oper) (σ : St), (regT R P ops l σ).sat (fun e σ' => e = .normal ∧ K σ') KP → wpT (calls P gs) P ops l σ K KP
  | [], σ, h => h.2
  | o :: rest, σ, h => by
    simp only [regT] at h
    simp only [wpT]
    cases hg : guardA ops σ.env o with
    | none => simp [hg, Out.sat] at h
    | some b =>
      cases b with
      | false => simp only [hg] at h; exact regT_ok hR rest _ h
      | true =>
        simp only [hg] at h ⊢
        cases hd : dfrOf σ.eval o.op with
        | some d => simp only [hd] at h; exact regT_ok hR rest _ h
        | none =>
          simp only [hd] at h ⊢
          refine opRun_ok hR _ _ ?_
          cases ho : opRun R (opB P σ.nid σ.eval o.op) σ.lh with
          | ok r => simp only [ho] at h; exact regT_ok hR rest _ h
          | pan d r => simp only [ho] at h; exact h
          | stuck => simp only [ho] at h; exact h.elim

theorem regD_ok (hR : RunsOk P gs R) {ops : Array Oper} {n0 : Nat} : ∀ (l : List Oper) (i : Nat) (σ : St) (K : St → List TE → Prop) (σ' : St) (tr : List TE), regD R P ops n0 l i σ = some (σ', tr) → K σ' tr → wpD (calls P gs) P ops n0 l i σ K
  | [], i, σ, K, σ', tr, h, hK => by simp only [regD, Option.some.injEq, Prod.mk.injEq] at h; obtain ⟨rfl, rfl⟩ := h; exact hK
  | o :: rest, i, σ, K, σ', tr, h, hK => by
    simp only [regD] at h
    simp only [wpD]
    cases hg : guardA ops σ.env o with
    | none => simp [hg] at h
    | some b =>
      cases b with
      | false =>
        simp only [hg, Option.map_eq_some_iff] at h ⊢
        obtain ⟨⟨σ1, tr1⟩, h1, h2⟩ := h
        simp only [Prod.mk.injEq] at h2
        obtain ⟨rfl, rfl⟩ := h2
        exact regD_ok hR rest (i + 1) _ _ σ1 tr1 h1 hK
      | true =>
        simp only [hg] at h ⊢
        cases ho : opRunD R (opB P (n0 + i) σ.eval o.op) σ.lh with
        | none => simp [ho] at h
        | some q =>
          obtain ⟨r, rs⟩ := q
          simp only [ho] at h
          split at h
          · rename_i hn
            obtain ⟨⟨σ1, tr1⟩, h1, h2⟩ := Option.map_eq_some_iff.1 h
            simp only [Prod.mk.injEq] at h2
            obtain ⟨rfl, rfl⟩ := h2
            exact opRunD_ok hR _ _ r rs ho ⟨hn, regD_ok hR rest (i + 1) _ _ σ1 tr1 h1 hK⟩
          · cases h

theorem regDP_ok (hR : RunsOk P gs R) {ops : Array Oper} {n0 p : Nat} {d : DV} {D : List Nat} : ∀ (l : List Oper) (i : Nat) (σ : St) (K : List TE → Prop) (tr : List TE), regDP R P ops n0 p d D l i σ = some tr → K tr → wpDP (calls P gs) P ops n0 p d D l i σ K
  | [], i, σ, K, tr, h, hK => by simp only [regDP, Option.some.injEq] at h; subst h; exact hK
  | o :: rest, i, σ, K, tr, h, hK => by
    simp only [regDP] at h
    simp only [wpDP]
    split at h
    · rename_i hD
      rw [if_pos hD]
      obtain ⟨tr1, h1, rfl⟩ := Option.map_eq_some_iff.1 h
      exact regDP_ok hR rest (i + 1) _ _ tr1 h1 hK
    · rename_i hD
      rw [if_neg hD]
      split at h
      · rename_i hip
        rw [if_pos hip]
        split at h
        · rename_i nid f args hg ho
          split at h
          · rename_i hnid
            split at h
            · rename_i ds hfz
              split at h
              · rename_i d' hpan
                split at h
                · rename_i hsc
                  have := scalarEq_eq hsc.2
                  subst this
                  obtain ⟨tr1, h1, rfl⟩ := Option.map_eq_some_iff.1 h
                  subst hnid
                  exact ⟨hg, f, args, _, ho, ⟨ds, hfz, hR.panP f ds _ hpan, hsc.1, rfl⟩, regDP_ok hR rest (i + 1) _ _ tr1 h1 hK⟩
                · cases h
              · cases h
            · cases h
          · cases h
        · cases h
      · rename_i hip
        rw [if_neg hip]
        cases hg : guardA ops σ.env o with
        | none => simp [hg] at h
        | some b =>
          cases b with
          | false =>
            simp only [hg, Option.map_eq_some_iff] at h ⊢
            obtain ⟨tr1, h1, rfl⟩ := h
            exact regDP_ok hR rest (i + 1) _ _ tr1 h1 hK
          | true =>
            simp only [hg] at h ⊢
            cases ho : opRunD R (opB P (n0 + i) σ.eval o.op) σ.lh with
            | none => simp [ho] at h
            | some q =>
              obtain ⟨r, rs⟩ := q
              simp only [ho] at h
              split at h
              · rename_i hn
                obtain ⟨tr1, h1, rfl⟩ := Option.map_eq_some_iff.1 h
                exact opRunD_ok hR _ _ r rs ho ⟨hn, regDP_ok hR rest (i + 1) _ _ tr1 h1 hK⟩
              · cases h

theorem indepB_ok {x y : TE} (h : indepB x y = true) : Indep x y := by
  simp only [indepB, Bool.and_eq_true, List.all_eq_true] at h
  refine ⟨fun b hb => ?_, fun b hb => ?_⟩
  · have := h.1 b hb
    simpa using this
  · have := h.2 b hb
    simpa using this

theorem regT_normal : ∀ (l : List Oper) (ops : Array Oper) (σ : St) (e : Exit) (σ' : St), regT R P ops l σ = .fin e σ' → e = .normal
  | [], ops, σ, e, σ', h => by simp only [regT, Out.fin.injEq] at h; exact h.1.symm
  | o :: rest, ops, σ, e, σ', h => by
    simp only [regT] at h
    split at h
    · split at h
      · exact regT_normal rest ops _ e σ' h
      · split at h
        · exact regT_normal rest ops _ e σ' h
        · cases h
        · cases h
    · exact regT_normal rest ops _ e σ' h
    · cases h

theorem exec_ok (hR : RunsOk P gs R) {lb : Nat} : ∀ (code : Code) (σ : St) (Q : Exit → St → Prop) (QP : DV → St → Prop), (exec R P lb code σ).sat Q QP → WP (calls P gs) P code Q QP σ := by
  intro code
  induction code with
  | skip => intro σ Q QP h; exact h
  | label l => intro σ Q QP h; exact h
  | exit id => intro σ Q QP h; exact h
  | ret => intro σ Q QP h; exact h
  | region id ops d =>
    intro σ Q QP h
    cases d with
    | false =>
      simp only [exec] at h
      simp only [WP]
      refine regT_ok hR ops.toList σ ?_
      cases hr : regT R P ops ops.toList σ with
      | fin e σ' =>
        have := regT_normal _ _ _ _ _ hr
        subst this
        rw [hr] at h; exact ⟨rfl, h⟩
      | pan d σ' => rw [hr] at h; exact h
      | stuck => rw [hr] at h; exact h.elim
    | true =>
      simp only [exec] at h
      simp only [WP]
      cases hr : regD R P ops σ.nid ops.toList 0 σ with
      | none =>
        rw [hr] at h
        simp only at h
        split at h
        · rename_i p d hfp
          split at h
          · rename_i hsk
            split at h
            · rename_i tr htr
              split at h
              · rename_i hi
                exact .inr ⟨p, d, _, hsk, regDP_ok hR _ _ _ _ tr htr ⟨fun p hp => indepB_ok (List.all_eq_true.1 hi p hp), h⟩⟩
              · exact h.elim
            · exact h.elim
          · exact h.elim
        · exact h.elim
      | some q =>
        obtain ⟨σ', tr⟩ := q
        rw [hr] at h
        simp only at h
        split at h
        · rename_i hi
          exact .inl (regD_ok hR _ _ _ _ σ' tr hr ⟨fun p hp => indepB_ok (List.all_eq_true.1 hi p hp), h⟩)
        · exact h.elim
  | seq a b iha ihb =>
    intro σ Q QP h
    simp only [exec] at h
    simp only [WP]
    refine iha σ _ _ ?_
    cases hx : exec R P lb a σ with
    | fin e σ' =>
      rw [hx] at h
      cases e <;> first | exact ihb _ _ _ h | exact h
    | pan d σ' => rw [hx] at h; exact h
    | stuck => rw [hx] at h; exact h.elim
  | cond c a b iha ihb =>
    intro σ Q QP h
    simp only [exec] at h
    simp only [WP]
    split at h
    · rename_i hc; (try rw [hc]); exact iha σ Q QP h
    · rename_i hc; (try rw [hc]); exact ihb σ Q QP h
    · exact h.elim
  | block id c ih =>
    intro σ Q QP h
    simp only [exec] at h
    simp only [WP]
    refine ih σ _ _ ?_
    cases hx : exec R P lb c σ with
    | fin e σ' =>
      rw [hx] at h
      cases e with
      | exit id' =>
        simp only at h
        simp only [Out.sat, blockQ]
        split at h
        · rename_i hid; rw [if_pos hid]; exact h
        · rename_i hid; rw [if_neg hid]; exact h
      | _ => exact h
    | pan d σ' => rw [hx] at h; exact h
    | stuck => rw [hx] at h; exact h.elim
  | loop c ih =>
    intro σ Q QP h
    simp only [exec] at h
    simp only [WP]
    have key : ∀ (m n : Nat) (σ : St), (iter (exec R P lb c) n σ).sat Q QP → iterN m (fun Q' σ' => WP (calls P gs) P c Q' QP σ') Q n σ := by
      intro m n
      induction n with
      | zero => intro σ h; exact h.elim
      | succ n ihn =>
        intro σ h
        simp only [iter] at h
        simp only [iterN]
        refine ⟨σ, .refl σ, ih σ _ _ ?_⟩
        cases hx : exec R P lb c σ with
        | fin e σ' =>
          rw [hx] at h
          cases e <;> first | exact ihn _ h | exact h
        | pan d σ' => rw [hx] at h; exact h
        | stuck => rw [hx] at h; exact h.elim
    exact ⟨lb, key _ lb σ h⟩
  | scope c ih =>
    intro σ Q QP h
    simp only [exec] at h
    simp only [WP]
    refine ih σ _ _ ?_
    cases hx : exec R P lb c σ with
    | fin e σ' =>
      rw [hx] at h
      cases e <;> first | exact h | exact h.elim
    | pan d σ' => rw [hx] at h; exact h
    | stuck => rw [hx] at h; exact h.elim
  | _ => intro σ Q QP h; exact h.elim

theorem regTS_ok (hR : RunsOk P gs R) {ops : Array Oper} {K : St → Option DV → Prop} : ∀ (l : List Oper) (σ : St) (pn : Option DV), (regTS R P ops l σ pn).sat (fun e σ' pn' => e = .normal → K σ' pn') → (∀ e σ' pn', regTS R P ops l σ pn = .fin e σ' pn' → e = .normal) → wpTS (calls P gs) P ops l σ pn K
  | [], σ, pn, h, hn => h rfl
  | o :: rest, σ, pn, h, hn => by
    simp only [regTS] at h hn
    simp only [wpTS]
    cases hg : guardA ops σ.env o with
    | none => simp [hg, OutS.sat] at h
    | some b =>
      cases b with
      | false => simp only [hg] at h hn; exact regTS_ok hR rest _ _ h hn
      | true =>
        simp only [hg] at h hn ⊢
        split
        · rename_i hr
          simp only [hr, if_true] at h hn
          exact regTS_ok hR rest _ _ h hn
        · rename_i hr
          rw [if_neg hr] at h
          refine opRun_ok hR _ _ ?_
          cases ho : opRun R (opB P σ.nid σ.eval o.op) σ.lh with
          | ok r =>
            simp only [ho] at h
            refine regTS_ok hR rest _ _ h (fun e σ' pn' he => hn e σ' pn' ?_)
            rw [if_neg hr, ho]; exact he
          | pan d r => simp only [ho] at h; exact h.elim
          | stuck => simp only [ho] at h; exact h.elim

theorem regTS_normal : ∀ (l : List Oper) (ops : Array Oper) (σ : St) (pn : Option DV) (e : Exit) (σ' : St) (pn' : Option DV), regTS R P ops l σ pn = .fin e σ' pn' → e = .normal
  | [], ops, σ, pn, e, σ', pn', h => by simp only [regTS, OutS.fin.injEq] at h; exact h.1.symm
  | o :: rest, ops, σ, pn, e, σ', pn', h => by
    simp only [regTS] at h
    split at h
    · split at h
      · exact regTS_normal rest ops _ _ e σ' pn' h
      · split at h
        · exact regTS_normal rest ops _ _ e σ' pn' h
        · cases h
    · exact regTS_normal rest ops _ _ e σ' pn' h
    · cases h

theorem withPn_sat {o : Out} {pn : Option DV} {Q : Exit → St → Option DV → Prop} (h : (o.withPn pn).sat Q) : o.sat (fun e σ => Q e σ pn) (fun _ _ => False) := by
  cases o with
  | fin e σ => exact h
  | _ => exact h.elim

theorem execS_ok (hR : RunsOk P gs R) {lb : Nat} : ∀ (code : Code) (σ : St) (pn : Option DV) (Q : Exit → St → Option DV → Prop), (execS R P lb code σ pn).sat Q → WPS (calls P gs) P code Q σ pn := by
  intro code
  induction code with
  | seq a b iha ihb =>
    intro σ pn Q h
    simp only [execS] at h
    simp only [WPS]
    refine iha σ pn _ ?_
    cases hx : execS R P lb a σ pn with
    | fin e σ' pn' =>
      rw [hx] at h
      cases e <;> first | exact ihb _ _ _ h | exact h
    | stuck => rw [hx] at h; exact h.elim
  | cond c a b iha ihb =>
    intro σ pn Q h
    simp only [execS] at h
    simp only [WPS]
    split at h
    · rename_i hc; (try rw [hc]); exact iha σ pn Q h
    · rename_i hc; (try rw [hc]); exact ihb σ pn Q h
    · exact h.elim
  | region id ops d =>
    intro σ pn Q h
    simp only [execS] at h
    simp only [WPS]
    split at h
    · rename_i hr
      rw [if_pos hr]
      split at h
      · rename_i hd
        refine ⟨hd, regTS_ok hR _ σ pn ?_ (fun e σ' pn' he => regTS_normal _ _ _ _ _ _ _ he)⟩
        cases hx : regTS R P ops ops.toList σ pn with
        | fin e σ' pn' =>
          have := regTS_normal _ _ _ _ _ _ _ hx
          subst this
          rw [hx] at h; exact fun _ => h
        | stuck => rw [hx] at h; exact h.elim
      · exact h.elim
    · rename_i hr
      rw [if_neg hr]
      exact exec_ok hR _ σ _ _ (withPn_sat h)
  | _ => intro σ pn Q h; exact exec_ok hR _ σ _ _ (withPn_sat h)

theorem fnOk_is {f : FuncId} {k : Nat} {code : Code} {rs : Array ResultVar} {n : Nat} (h : fnOk P f k = some (code, rs, n)) : FnIs P f code rs n ∧ k ≤ n := by
  unfold fnOk at h
  split at h
  · rename_i fn hfn
    split at h
    · rename_i c hc
      split at h
      · rename_i hh
        simp only [Option.some.injEq, Prod.mk.injEq] at h
        obtain ⟨rfl, rfl, rfl⟩ := h
        exact ⟨⟨⟨fn, hfn, hc, rfl, rfl, hh.1⟩, hh.2.1⟩, hh.2.2⟩
      · cases h
    · cases h
  · cases h

def BOut.sat (o : BOut) (K : AV → St → Prop) (KP : DV → St → Prop) : Prop :=
  match o with
  | .ret v σ => K v σ
  | .pan d σ => KP d σ
  | .stuck => False

theorem leave_ok (hR : RunsOk P gs R) {lb : Nat} {rs : List ResultVar} {K : AV → St → Prop} {KP : DV → St → Prop} : ∀ (ds : List (FuncId × List AV)) (pn : Option DV) (σ : St), (leave R P lb rs ds pn σ).sat K KP → LeaveW (calls P gs) P rs K KP ds pn σ
  | [], none, σ, h => by
    simp only [leave] at h
    cases hv : resA P rs σ with
    | none => rw [hv] at h; exact h.elim
    | some v => rw [hv] at h; exact ⟨v, hv, h⟩
  | [], some d, σ, h => h
  | (f, args) :: ds, pn, σ, h => by
    simp only [leave] at h
    cases hf : fnOk P f args.length with
    | none => rw [hf] at h; exact h.elim
    | some q =>
      obtain ⟨code, rs', n⟩ := q
      rw [hf] at h
      obtain ⟨f1, f2⟩ := fnOk_is hf
      refine ⟨code, rs', n, f1, f2, execS_ok hR (lb := lb) code _ pn _ ?_⟩
      simp only at h
      cases hx : execS R P lb code ⟨envA args, σ.lh, σ.nid, []⟩ pn with
      | stuck => rw [hx] at h; exact h.elim
      | fin e σ' pn' =>
        rw [hx] at h
        have fin : BOut.sat (match σ'.dfs, resA P rs'.toList σ' with
          | [], some _ => leave R P lb rs ds pn' { σ with lh := σ'.lh, nid := σ'.nid }
          | _, _ => .stuck) K KP → σ'.dfs = [] ∧ (∃ v, resA P rs'.toList σ' = some v) ∧ LeaveW (calls P gs) P rs K KP ds pn' { σ with lh := σ'.lh, nid := σ'.nid } := fun h => by
          split at h
          · rename_i v hd hv
            exact ⟨hd, ⟨v, hv⟩, leave_ok hR ds pn' _ h⟩
          · exact h.elim
        cases e with
        | normal => exact ⟨.inl rfl, fin h⟩
        | ret => exact ⟨.inr rfl, fin h⟩
        | _ => exact h.elim

theorem bodyRun_ok (hR : RunsOk P gs R) {lb : Nat} {code : Code} {rs : List ResultVar} {σ : St} {K : AV → St → Prop} {KP : DV → St → Prop} (h : (bodyRun R P lb code rs σ).sat K KP) : BodyW (calls P gs) P code rs K KP σ := by
  refine exec_ok hR (lb := lb) code σ _ _ ?_
  unfold bodyRun at h
  cases hx : exec R P lb code σ with
  | fin e σ' =>
    rw [hx] at h
    cases e with
    | normal => exact leave_ok hR _ _ _ h
    | ret => exact leave_ok hR _ _ _ h
    | _ => exact h.elim
  | pan d σ' => rw [hx] at h; exact leave_ok hR _ _ _ h
  | stuck => rw [hx] at h; exact h.elim

theorem retOf_ok {v : AV} {σ : St} {r : Ret} (h : retOf v σ = some r) : RetOk σ v r := by
  unfold retOf at h
  split at h
  · rename_i b es len
    split at h
    · rename_i k hk
      split at h
      · rename_i hh
        obtain ⟨ds, h1, rfl⟩ := Option.map_eq_some_iff.1 h
        exact .fresh b es len k ds hk hh.1 h1 (by have := hh.2; simpa using this)
      · cases h
    · cases h
  · obtain ⟨d, h1, rfl⟩ := Option.map_eq_some_iff.1 h
    exact .imm _ d h1

/-- What is known of functions holds. -/
def PrimsOk (P : Program) (gs : List Nat) (prim : Prims) : Prop := ∀ f g ds p, prim f = some g → g ds = some p → PureCall P gs f ds p

theorem runs_ok (hm : P.follows .mixedOrders = true) {prim : Prims} (hp : PrimsOk P gs prim) (lb : Nat) : ∀ n, RunsOk P gs (runs P prim lb n)
  | 0 => ⟨fun _ _ _ _ _ h => by simp [runs] at h, fun _ _ _ _ _ _ h => by simp [runs] at h, fun _ _ _ h => by simp [runs] at h, fun _ _ _ h => by simp [runs] at h⟩
  | n + 1 => by
    have ih := runs_ok hm hp lb n
    refine ⟨fun lh nid f args r h => ?_, fun lh nid f args d r h => ?_, fun f ds p h => ?_, fun f ds d h => ?_⟩
    · simp only [runs] at h
      cases hpf : prim f with
      | some g =>
        simp only [hpf] at h
        cases hf : args.mapM (frz lh 8) with
        | none => simp [hf] at h
        | some ds =>
          simp only [hf] at h
          cases hg : g ds with
          | none => simp [hg] at h
          | some p =>
            simp only [hg, COut.ok.injEq] at h
            subst h
            exact .inl ⟨_, _, pureRes_ok hf (hp f g ds p hpf hg), rfl⟩
      | none =>
        simp only [hpf] at h
        cases hf : fnOk P f args.length with
        | none => simp [hf] at h
        | some q =>
          obtain ⟨code, rs, m⟩ := q
          simp only [hf] at h
          obtain ⟨f1, f2⟩ := fnOk_is hf
          refine .inr (hcall_of_body hm f1 f2 (bodyRun_ok ih (lb := lb) ?_))
          cases hb : bodyRun (runs P prim lb n) P lb code rs.toList ⟨envA args, lh, nid, []⟩ with
          | ret v σ => simp only [hb, COut.ok.injEq] at h; exact h.symm
          | pan d σ => simp [hb] at h
          | stuck => simp [hb] at h
    · simp only [runs] at h
      cases hpf : prim f with
      | some g =>
        simp only [hpf] at h
        split at h
        · split at h <;> cases h
        · cases h
      | none =>
        simp only [hpf] at h
        cases hf : fnOk P f args.length with
        | none => simp [hf] at h
        | some q =>
          obtain ⟨code, rs, m⟩ := q
          simp only [hf] at h
          obtain ⟨f1, f2⟩ := fnOk_is hf
          refine .inr (hpanic_of_body hm f1 f2 (bodyRun_ok ih (lb := lb) ?_))
          cases hb : bodyRun (runs P prim lb n) P lb code rs.toList ⟨envA args, lh, nid, []⟩ with
          | ret v σ => simp [hb] at h
          | pan d' σ =>
            simp only [hb, COut.pan.injEq] at h
            obtain ⟨rfl, rfl⟩ := h
            exact ⟨rfl, rfl, rfl⟩
          | stuck => simp [hb] at h
    · simp only [runs] at h
      cases hpf : prim f with
      | some g => simp only [hpf] at h; exact hp f g ds p hpf h
      | none =>
        simp only [hpf] at h
        cases hf : fnOk P f ds.length with
        | none => simp [hf] at h
        | some q =>
          obtain ⟨code, rs, m⟩ := q
          simp only [hf] at h
          obtain ⟨f1, f2⟩ := fnOk_is hf
          refine zK7 hm f1 f2 (bodyRun_ok ih (lb := lb) ?_)
          cases hb : bodyRun (runs P prim lb n) P lb code rs.toList (st0 ds) with
          | ret v σ => simp only [hb] at h; exact retOf_ok h
          | pan d σ => simp [hb] at h
          | stuck => simp [hb] at h
    · simp only [runs] at h
      cases hpf : prim f with
      | some g => simp [hpf] at h
      | none =>
        simp only [hpf] at h
        cases hf : fnOk P f ds.length with
        | none => simp [hf] at h
        | some q =>
          obtain ⟨code, rs, m⟩ := q
          simp only [hf] at h
          obtain ⟨f1, f2⟩ := fnOk_is hf
          refine panic_of_body hm f1 f2 (bodyRun_ok ih (lb := lb) ?_)
          cases hb : bodyRun (runs P prim lb n) P lb code rs.toList (st0 ds) with
          | ret v σ => simp [hb] at h
          | pan d' σ => simp only [hb, Option.some.injEq] at h; exact h
          | stuck => simp [hb] at h

/-- A CALL ON GIVEN DATA, RUN. -/
theorem pure_of_run (hm : P.follows .mixedOrders = true) {prim : Prims} (hp : PrimsOk P gs prim) (lb n : Nat) {f : FuncId} {ds : List DV} {p : Ret} (h : (runs P prim lb n).pure f ds = some p) : PureCall P gs f ds p :=
  (runs_ok hm hp lb n).pure f ds p h
end
end Go.Proofs.Am

set_option linter.unusedVariables false
set_option linter.unusedSimpArgs false
namespace Go.Proofs.Am
open Go Go.RowKit

/-- What a type is, as far as a walk asks. -/
inductive UK where
  | int (k : IntKind) | str | bool | slice (e : Nat) | arr (n e : Nat) | struct | other
deriving DecidableEq

def ukOf : Option TypeDesc → UK
  | some (.int k) => .int k
  | some .string => .str
  | some .bool => .bool
  | some (.slice e) => .slice e
  | some (.array n e) => .arr n e
  | some (.struct _) => .struct
  | _ => .other

structure TRow where
  ti : Option TI
  un : UK
  flds : List (Nat × Nat)
  pl : Option (List (Nat × Nat))

def fldsOf : Option TypeDesc → List (Nat × Nat)
  | some (.struct fs) => fs.toList.map fun x => (x.offset, x.type)
  | some (.array n e) => List.replicate n (0, e)
  | _ => []

def rowOf (P : Program) (t : TypeId) : TRow := ⟨tinfo P t, ukOf (P.underlying t), fldsOf (P.underlying t), places P t⟩

def lookT (l : List (Nat × TRow)) (t : Nat) : Option TRow :=
  match l with
  | [] => none
  | (k, r) :: rest => if k = t then some r else lookT rest t

def TabOk (P : Program) (T : Nat → Option TRow) : Prop := ∀ t r, T t = some r → rowOf P t = r

/-- The same as a tree in order. -/
inductive BT where
  | nil
  | node (k : Nat) (r : TRow) (a b : BT)

def BT.get : BT → Nat → Option TRow
  | .nil, _ => none
  | .node k r a b, t => if t = k then some r else if t < k then a.get t else b.get t

def BT.all : BT → List (Nat × TRow)
  | .nil => []
  | .node k r a b => (k, r) :: (a.all ++ b.all)

theorem BT.get_all : ∀ {b : BT} {t : Nat} {r : TRow}, b.get t = some r → (t, r) ∈ b.all
  | .nil, t, r, h => by cases h
  | .node k q a b, t, r, h => by
    simp only [BT.get] at h
    split at h
    · rename_i hk; cases h; rw [hk]; simp [BT.all]
    · split at h
      · have := BT.get_all h; simp [BT.all, this]
      · have := BT.get_all h; simp [BT.all, this]

theorem zI2 {P : Program} {b : BT} (h : b.all.map (fun p => rowOf P p.1) = b.all.map (·.2)) : TabOk P b.get := fun t r hr => by
  have hm := BT.get_all hr
  have := List.map_inj_left.1 h (t, r) hm
  exact this

/-- Rows that are asked first. -/
def orT (a b : Nat → Option TRow) (t : Nat) : Option TRow := match a t with | some r => some r | none => b t
theorem tabOk_or {P : Program} {a b : Nat → Option TRow} (ha : TabOk P a) (hb : TabOk P b) : TabOk P (orT a b) := fun t r h => by
  unfold orT at h
  split at h
  · rename_i q hq; cases h; exact ha t _ hq
  · exact hb t r h

/-- Local blocks, as a list. -/
abbrev LM := List (Nat × Option LB)

def LM.get : LM → Nat → Option LB
  | [], _ => none
  | (k, x) :: r, b => if k = b then x else LM.get r b

/-- Operations on data, as names. -/
structure SI where
  isBool : DV → Bool
  isBU : DV → Bool
  isB : DV → Bool → Bool
  bool : DV → Bool
  grd : DV → Bool → Bool
  sel : Bool → DV → DV → DV
  selA : Bool → AV → AV
  imp : Bool → Bool → Bool
  and : Bool → Bool → Bool
  bin : BinOp → DV → DV → DV
  binOk : BinOp → DV → DV → Bool
  ibin : IntKind → BinOp → DV → DV → DV
  isI : IntKind → DV → Bool
  sbin : BinOp → DV → DV → DV
  not : DV → DV
  bbin : BinOp → DV → DV → DV
  bbinOk : BinOp → DV → DV → Bool
  un : UnOp → DV → DV
  unOk : UnOp → DV → Bool
  conv : IntKind → DV → DV
  isInt : DV → Bool
  isStr : DV → Bool
  cell : DV → Nat → DV
  isAgg : DV → Nat → Bool
  ones : DV → Nat → Bool
  one : DV → Bool
  get : List DV → Nat → DV
  dl : Nat → Bool → DV → Nat → DV
  dlOk : Nat → Bool → DV → Nat → Bool
  lst : DV → List DV
  nat : DV → Nat
  off : Nat → DV → Nat
  ixOk : DV → DV → Nat → Bool
  len : DV → DV
  isSl : DV → Bool
  isNil : DV → Bool
  slen : DV → DV
  at_ : DV → DV → DV
  atOk : DV → DV → Bool
  sub : DV → Option DV → Option DV → DV
  subOk : DV → Option DV → Option DV → Bool
  sl : Nat → DV → Option DV → Option DV → DV
  slOk : Nat → DV → Option DV → Option DV → Bool
  news : DV → List AV
  newsOk : Nat → DV → Bool
  inR : DV → Nat → Bool
  le : Nat → Nat → Bool
  bytes : DV → List AV
  blen : DV → Nat
  dlen : DV → Nat
  row : Nat → List AV → List AV → List AV
  dget : List AV → Nat → DV
  ext : DV → Nat → DV
  tupOk : DV → Nat → Bool
  isDat : List AV → Nat → Bool
  allBel : Nat → List AV → Bool
  mkOk : DV → DV → Bool
  rep : Nat → AV → List AV
  bnd : Option DV → Option DV → Nat → Bool
  emp : Option DV → Option DV → Nat → Bool
  lo : Nat → Option DV → Nat
  ln : Nat → Option DV → Option DV → Nat
  dset : List AV → Nat → DV → List AV
  nilC : BinOp → DV → DV
  same : DV → DV → Bool
  isDatS : List AV → Nat → Nat → Bool
  frzE : LM → List AV → List AV
  frzOk : LM → List Nat → List AV → Bool

def asBool : DV → Bool
  | .bool b => b
  | _ => false
def asInt : DV → Int
  | .int _ n => n
  | _ => 0
def asStr : DV → ByteArray
  | .str s => s
  | _ => ⟨#[]⟩
def lstD : DV → List DV
  | .sim l => l
  | _ => []
def isBoolD : DV → Bool
  | .bool _ => true
  | _ => false
def isIntD : DV → Bool
  | .int _ _ => true
  | _ => false
def isStrD : DV → Bool
  | .str _ => true
  | _ => false
def isSlD : DV → Bool
  | .sim _ | .snil => true
  | _ => false
def isSnil : DV → Bool
  | .snil => true
  | _ => false
def isBUD : DV → Bool
  | .bool _ | .tup [] => true
  | _ => false
def grdD : DV → Bool → Bool
  | .bool b, w => b == w
  | _, _ => false

/-- Whole numbers and strings. -/
def binV (op : BinOp) (x y : DV) : Option DV :=
  match x, y with
  | .int k a, .int k' b =>
    match op with
    | .shl => if b < 0 then none else some (.int k (k.wrap (a * 2 ^ (min b.toNat k.bits))))
    | .shr => if b < 0 then none else some (.int k (a.fdiv (2 ^ (min b.toNat k.bits))))
    | _ => if k = k' then intOp op k a b else none
  | .str a, .str b => strOp op a b
  | _, _ => none

def eqI (a b : Int) : Bool := decide (a = b)
def ltI (a b : Int) : Bool := decide (a < b)
def leI (a b : Int) : Bool := decide (a ≤ b)
def eqB (a b : ByteArray) : Bool := decide (a = b)
def ltB (a b : ByteArray) : Bool := Op.bytesLess a.data.toList b.data.toList

/-- Whole numbers, whatever stands there. -/
def ibinD (k : IntKind) (op : BinOp) (x y : DV) : DV :=
  match op with
  | .add => .int k (k.wrap (asInt x + asInt y))
  | .sub => .int k (k.wrap (asInt x - asInt y))
  | .mul => .int k (k.wrap (asInt x * asInt y))
  | .eql => .bool (eqI (asInt x) (asInt y))
  | .neq => .bool (!eqI (asInt x) (asInt y))
  | .lss => .bool (ltI (asInt x) (asInt y))
  | .leq => .bool (leI (asInt x) (asInt y))
  | .gtr => .bool (ltI (asInt y) (asInt x))
  | .geq => .bool (leI (asInt y) (asInt x))
  | _ => .inil

def isIK (k : IntKind) : DV → Bool
  | .int k' _ => decide (k' = k)
  | _ => false

def sbinD (op : BinOp) (x y : DV) : DV :=
  match op with
  | .eql => .bool (eqB (asStr x) (asStr y))
  | .neq => .bool (!eqB (asStr x) (asStr y))
  | .lss => .bool (ltB (asStr x) (asStr y))
  | .gtr => .bool (!(ltB (asStr x) (asStr y) || eqB (asStr x) (asStr y)))
  | _ => .inil

def plainOp : BinOp → Bool
  | .add | .sub | .mul | .eql | .neq | .lss | .leq | .gtr | .geq => true
  | _ => false
def plainSOp : BinOp → Bool
  | .eql | .neq | .lss | .gtr => true
  | _ => false

def bbinV (op : BinOp) (x y : DV) : Option DV :=
  match x, y with
  | .bool a, .bool b => eqOp op (a == b)
  | _, _ => none

def unV (op : UnOp) (x : DV) : Option DV :=
  match op, x with
  | .not, .bool b => some (.bool (!b))
  | .neg, .int k n => some (.int k (k.wrap (0 - n)))
  | _, _ => none

def convV (k : IntKind) : DV → DV
  | .int _ n => .int k (k.wrap n)
  | _ => .inil

/-- The byte at a place. -/
def byt (s : ByteArray) (i : Nat) : Int := ((s.data.toList.getD i 0).toNat : Int)

def loN (lo : Option DV) : Int := match lo with | some x => asInt x | none => 0
def hiN (n : Nat) (hi : Option DV) : Int := match hi with | some x => asInt x | none => n
def intO (o : Option DV) : Bool := match o with | some x => isIntD x | none => true

/-- A part of a struct, or all of it. -/
def dlV (sz : Nat) (agg : Bool) (e : DV) (fo : Nat) : DV :=
  if agg then (if fo = 0 ∧ e.cells.length = sz then e else .agg ((e.cells.drop fo).take sz)) else e.cells.getD fo .inil

def subD (s : DV) (lo hi : Option DV) : DV := .str ((asStr s).extract (loN lo).toNat (hiN (asStr s).size hi).toNat)
def slD (x : DV) (lo hi : Option DV) : DV := if isSnil x then .snil else .sim (((lstD x).drop (loN lo).toNat).take ((hiN (lstD x).length hi).toNat - (loN lo).toNat))

def tupD : DV → List DV
  | .tup l => l
  | _ => []

def dgetA (l : List AV) (i : Nat) : DV := match l.getD i .undef with
  | .d x => x
  | _ => .inil
def isDatA : AV → Bool
  | .d x => avOne (.d x)
  | _ => false

def isDatSA (n : Nat) : AV → Bool
  | .d x => dIsAgg x && x.cells.length == n
  | _ => false

def isNeq : BinOp → Bool
  | .neq => true
  | _ => false
def eqNeq : BinOp → Bool
  | .eql | .neq => true
  | _ => false

/-- Elements made data. -/
def frzEls (lh : LM) (els : List AV) : List AV := ((els.mapM (frz lh.get 8)).getD []).map .d
def frzElsOk (lh : LM) (kept : List Nat) (els : List AV) : Bool := (els.mapM (frz lh.get 8)).isSome && (els.flatMap (reach lh.get 8)).all fun b => !kept.contains b

open Classical in
/-- What the names stand for. -/
noncomputable def std : SI := {
  isBool := isBoolD
  isBU := isBUD
  isB x b := isBoolD x && (asBool x == b)
  bool := asBool
  grd := grdD
  sel b x y := if b then x else y
  selA b v := if b then v else .d (.tup [])
  imp a b := !a || b
  and a b := a && b
  bin op x y := (binV op x y).getD .inil
  binOk op x y := (binV op x y).isSome
  ibin k op x y := ibinD k op x y
  isI k x := isIK k x
  sbin op x y := sbinD op x y
  not x := .bool (!asBool x)
  bbin op x y := (bbinV op x y).getD .inil
  bbinOk op x y := (bbinV op x y).isSome
  un op x := (unV op x).getD .inil
  unOk op x := (unV op x).isSome
  conv k x := convV k x
  isInt := isIntD
  isStr := isStrD
  cell x i := x.cells.getD i .inil
  isAgg x n := dIsAgg x && x.cells.length == n
  ones x n := (x.cells.length == n) && (AV.d x).cells.all avOne
  one x := avOne (.d x)
  get l i := l.getD i .inil
  dl sz agg e fo := dlV sz agg e fo
  dlOk sz agg e fo := if agg then dIsAgg e && decide (fo + sz ≤ e.cells.length) else decide (fo < e.cells.length)
  lst := lstD
  nat x := (asInt x).toNat
  off n x := n + (asInt x).toNat
  ixOk x i sz := isIntD i && decide (0 ≤ asInt i) && decide (asInt i < (lstD x).length) && decide (((lstD x).getD (asInt i).toNat .inil).cells.length = sz)
  len x := .int .i64 (lstD x).length
  isSl := isSlD
  isNil := isSnil
  slen x := .int .i64 (asStr x).size
  at_ s i := .int .u8 (byt (asStr s) (asInt i).toNat)
  atOk s i := isStrD s && isIntD i && decide (0 ≤ asInt i) && decide (asInt i < (asStr s).size)
  sub s lo hi := subD s lo hi
  subOk s lo hi := isStrD s && intO lo && intO hi && decide (0 ≤ loN lo) && decide (loN lo ≤ hiN (asStr s).size hi) && decide (hiN (asStr s).size hi ≤ (asStr s).size)
  sl sz x lo hi := slD x lo hi
  slOk sz x lo hi := isSlD x && (lstD x).all (fun y => decide (y.cells.length = sz)) && intO lo && intO hi && decide (0 ≤ loN lo) && decide (loN lo ≤ hiN (lstD x).length hi) && decide (hiN (lstD x).length hi ≤ (lstD x).length)
  news x := (lstD x).map .d
  newsOk sz x := match x with | .sim els => els.all (fun x => x.cells.length = sz) | _ => false
  inR x n := isIntD x && decide (0 ≤ asInt x) && decide (asInt x < n)
  le a b := decide (a ≤ b)
  bytes x := bytesA (asStr x)
  blen x := (asStr x).size
  dlen x := (lstD x).length
  row n l r := l.take n ++ r
  dget l i := dgetA l i
  ext x i := (tupD x).getD i .inil
  tupOk x i := decide (i < (tupD x).length)
  isDat l i := decide (i < l.length) && isDatA (l.getD i .undef)
  allBel m l := l.all (bel m 8)
  mkOk u v := isIK .i64 u && isIK .i64 v && decide (0 ≤ asInt u) && decide (asInt u ≤ asInt v) && decide (asInt v ≤ big)
  rep n e := List.replicate n e
  bnd l h n := intO l && intO h && decide (0 ≤ loN l) && decide (loN l ≤ hiN n h) && decide (hiN n h ≤ n)
  emp l h n := decide (¬ ((loN l).toNat = 0 ∨ (loN l).toNat < (hiN n h).toNat))
  lo n l := n + (loN l).toNat
  ln n l h := (hiN n h).toNat - (loN l).toNat
  dset l i x := l.set i (.d x)
  nilC op u := .bool (if isNeq op = true then !isSnil u else isSnil u)
  same x y := decide (x = y)
  isDatS l i n := decide (i < l.length) && isDatSA n (l.getD i .undef)
  frzE lh els := frzEls lh els
  frzOk lh kept els := frzElsOk lh kept els }

/-- An operation's outcome, with what is to be shown. -/
inductive TM where
  | val (v : AV)
  | pure (r : OpR)
  | get (b : Nat) (k : LB → TM)
  | call (f : FuncId) (args : List AV)
  | pan (d : DV)
  | fail
  | req (b : Bool) (m : TM)
  | ite (b : Bool) (x y : TM)

def TM.le (nid : Nat) : TM → BM → Prop
  | .val v, B => B = just nid v
  | .pure r, B => B = .pure r
  | .get b k, B => ∃ k', B = .get b k' ∧ ∀ x, (k x).le nid (k' x)
  | .call f args, B => B = .call nid f args
  | .pan d, B => B = .pan nid d
  | .fail, _ => True
  | .req b m, B => b = true → m.le nid B
  | .ite b x y, B => (b = true → x.le nid B) ∧ (b = false → y.le nid B)

/-- The cells of a value of so many, a struct's (agg) or one alone; what is to be shown of it. -/
def cellsT (I : SI) (agg : Bool) (sz : Nat) : AV → List AV × Bool
  | .agg cs => (cs, true)
  | .d x => if agg then ((List.range sz).map fun i => .d (I.cell x i), I.isAgg x sz) else ([.d x], I.one x)
  | v => ([v], true)

/-- Is it a struct, its type being one or not? -/
def aggS (agg : Bool) : AV → Bool
  | .agg _ => true
  | .d _ => agg
  | _ => false

/-- All cells stand for themselves. -/
def onesT (I : SI) : List AV → Bool
  | [] => true
  | .d x :: r => I.and (I.one x) (onesT I r)
  | .agg _ :: _ | .tup _ :: _ | .undef :: _ => false
  | _ :: r => onesT I r

def fillT (I : SI) (T : Nat → Option TRow) (pl : List (Nat × Nat)) (fl : List (Nat × Nat)) : List AV → List (Nat × AV) → Option (Bool × List AV)
  | cs, [] => some (true, cs)
  | cs, (f, v) :: rest => match pl[f]?, fl[f]? with
    | some (off, sz), some (_, ft) => match (T ft).bind (·.ti) with
      | some ti => match cellsT I ti.agg ti.sz v with
        | (vs, b) => if vs.length = sz ∧ off + sz ≤ cs.length ∧ ti.sz = sz then
            match fillT I T pl fl (cs.take off ++ vs ++ cs.drop (off + sz)) rest with
            | some (b', cs') => some (I.and (I.and b (onesT I vs)) b', cs')
            | none => none
          else none
      | none => none
    | _, _ => none

def fillLT (I : SI) (agg : Bool) (es : Nat) : List AV → List (Nat × AV) → Option (Bool × List AV)
  | els, [] => some (true, els)
  | els, (i, v) :: rest => match cellsT I agg es v with
    | (vs, b) => if i < els.length ∧ vs.length = es then
        match fillLT I agg es (els.set i v) rest with
        | some (b', els') => some (I.and (I.and b (onesT I vs)) b', els')
        | none => none
      else none

/-- A part of an element of a local block. -/
def aloadT (I : SI) (ti : TI) (n : Nat) (aggE : Bool) (e : AV) (fo : Nat) : TM :=
  match e with
  | .agg cs => if ti.agg then
      (if fo = 0 ∧ cs.length = ti.sz then .val (.agg cs) else if fo + ti.sz ≤ cs.length then .val (.agg ((cs.drop fo).take ti.sz)) else .fail)
      else (match cs[fo]? with | some v => .val v | none => .fail)
  | .d x => if ti.agg then
      (if fo = 0 ∧ n = ti.sz then .req (I.isAgg x n) (.val (.d x))
       else if fo + ti.sz ≤ n then .req (I.isAgg x n) (.val (.agg ((List.range ti.sz).map fun j => .d (I.cell x (fo + j))))) else .fail)
      else if aggE then (if fo < n then .req (I.isAgg x n) (.val (.d (I.cell x fo))) else .fail)
      else if fo = 0 then .req (I.one x) (.val (.d x)) else .fail
  | .undef => .fail
  | v => if ti.agg = false ∧ fo = 0 then .val v else .fail

/-- An element in which a part is another value: cells vs in place of those from fo on. -/
def astoreT (I : SI) (n : Nat) (aggE aggV : Bool) (e : AV) (fo : Nat) (v : AV) (vs : List AV) : Option (Bool × AV) :=
  match cellsT I aggE n e with
  | (es, b) => if es.length = n then
      if fo = 0 ∧ vs.length = n then (if n = 1 ∧ aggS aggV v = false ∧ aggS aggE e = true then some (b, .agg vs) else some (b, v)) else some (b, .agg (es.take fo ++ vs ++ es.drop (fo + vs.length)))
    else none

def rowTi (T : Nat → Option TRow) (t : Nat) : Option TI := (T t).bind (·.ti)
def rowUn (T : Nat → Option TRow) (t : Nat) : UK := match T t with | some r => r.un | none => .other

/-- Numbers that stand in the text. -/
def litOf : Operand → Option Nat
  | .const (.int _ (.ofNat n)) => some n
  | _ => none

def boundsD (ev : Operand → AV) : Option Operand → Option (Option DV)
  | none => some none
  | some x => match ev x with | .d v => some (some v) | _ => none

def newsT (I : SI) (sz : Nat) (x : AV) (k : List AV → Nat → TM) : TM :=
  match x with
  | .d v => .req (I.newsOk sz v) (k (I.news v) (I.dlen v))
  | .slc b es off n => .get b fun q => if off + n ≤ q.els.length ∧ es = sz then k ((q.els.drop off).take n) n else .fail
  | _ => .fail

/-- A new row of so many elements, or none. -/
def freshT (I : SI) (nid : Nat) (ti : TI) (e : TypeId) (z : AV) (xs : List AV) (n : Nat) : TM :=
  .ite (I.le n 0) (.val z) (.req (I.le n big) (.pure ⟨.slc nid ti.sz 0 n, [(nid, some ⟨xs, ti.sz, e, true, true⟩)], nid + 1⟩))

def appT (I : SI) (nid : Nat) (ti : TI) (e : TypeId) (s : AV) (xs : List AV) (n : Nat) : TM :=
  match s with
  | .d v => .req (I.isNil v) (freshT I nid ti e (.d .snil) xs n)
  | .zc => freshT I nid ti e .zc xs n
  | .slc b es 0 len => .get b fun q =>
      if q.live = true ∧ q.plain = true ∧ q.ty = e ∧ es = ti.sz then
        .req (I.and (I.le len q.els.length) (I.le (len + n) big)) (.pure ⟨.slc nid ti.sz 0 (len + n), [(b, none), (nid, some ⟨I.row len q.els xs, ti.sz, e, true, true⟩)], nid + 1⟩) else .fail
  | _ => .fail

/-- Are rows of numbers, strings and truth values read at places that are not known? A row of the table says so. -/
def arrM (T : Nat → Option TRow) : Bool := (T 1000000).isSome
def atomU : UK → Bool
  | .int _ | .str | .bool => true
  | _ => false

/-- Is this local block a row of structs that are written whole, at places that are not known? A row of the table says so. -/
def symR (T : Nat → Option TRow) (b : Nat) : Bool := (T (6000000 + b)).isSome

/-- What an operation does. -/
def opT (I : SI) (T : Nat → Option TRow) (nid : Nat) (ev : Operand → AV) (o : Op) : TM :=
  match o with
  | .move x | .assign x => .val (ev x)
  | .pick c a b => match ev c with
    | .d y => .req (I.isBool y) (match ev a, ev b with
      | .d u, .d v => .val (.d (I.sel (I.bool y) u v))
      | u, v => .ite (I.bool y) (.val u) (.val v))
    | _ => .fail
  | .alloc t => match rowTi T t with
    | some ti => .pure ⟨.loc nid ti.sz 0 0, [(nid, some ⟨[.d ti.zero], ti.sz, t, true, true⟩)], nid + 1⟩
    | none => .fail
  | .box t x => match rowTi T t with
    | some ti => match cellsT I ti.agg ti.sz (ev x) with
      | (cs, b) => if cs.length = ti.sz then .req (I.and b (onesT I cs)) (.pure ⟨.loc nid ti.sz 0 0, [(nid, some ⟨[ev x], ti.sz, t, true, true⟩)], nid + 1⟩) else .fail
    | none => .fail
  | .build t parts => match T t with
    | some ⟨some ti, _, fl, some pl⟩ => if ti.agg = true then
        (match fillT I T pl fl (ti.zero.cells.map .d) (parts.toList.map fun (i, x) => (i, ev x)) with
        | some (b, cs) => .req b (.val (.agg cs))
        | none => .fail) else .fail
    | _ => .fail
  | .buildSlice t len parts => match rowUn T t with
    | .slice e => match rowTi T e with
      | some ti => if len * ti.sz ≤ 16777216 ∧ 0 < ti.sz then
          (match fillLT I ti.agg ti.sz (List.replicate len (.d ti.zero)) (parts.toList.map fun (i, x) => (i, ev x)) with
          | some (b, els) => .req b (.pure ⟨.slc nid ti.sz 0 len, [(nid, some ⟨els, ti.sz, e, true, true⟩)], nid + 1⟩)
          | none => .fail) else .fail
      | none => .fail
    | _ => .fail
  | .load t a => match rowTi T t with
    | some ti => (match ev a with
      | .d (.pim els i fo) => .req (I.dlOk ti.sz ti.agg (I.get els i) fo) (.val (.d (I.dl ti.sz ti.agg (I.get els i) fo)))
      | .loc b _ i fo => .get b fun k => if symR T b = true then
          (if ti.agg = true ∧ fo = 0 ∧ ti.sz = k.es then .req (I.isDatS k.els i k.es) (.val (.d (I.dget k.els i))) else .fail)
        else if (!k.plain || (arrM T && atomU (rowUn T k.ty))) = true then
          (if ti.agg = false ∧ fo = 0 then .req (I.isDat k.els i) (.val (.d (I.dget k.els i))) else .fail)
        else if i < k.els.length then
          (match rowTi T k.ty with | some te => if te.sz = k.es then aloadT I ti k.es te.agg (k.els.getD i .undef) fo else .fail | none => .fail) else .fail
      | _ => .fail)
    | none => .fail
  | .store t a x => match rowTi T t with
    | some ti => (match ev a with
      | .loc b _ i fo => .get b fun k => if symR T b = true then
          (if k.live = true ∧ ti.agg = true ∧ fo = 0 ∧ ti.sz = k.es then (match ev x with
            | .d v => .req (I.isDatS k.els i k.es) (.req (I.isAgg v ti.sz) (.req (I.ones v ti.sz) (.pure ⟨.undef, [(b, some { k with els := I.dset k.els i v })], nid⟩)))
            | _ => .fail) else .fail)
        else if (arrM T && atomU (rowUn T k.ty)) = true then
          (if k.live = true ∧ ti.agg = false ∧ ti.sz = 1 ∧ fo = 0 ∧ 1 ≤ k.es then (match ev x with
            | .d v => .req (I.isDat k.els i) (.req (I.one v) (.pure ⟨.undef, [(b, some { k with els := I.dset k.els i v })], nid⟩))
            | _ => .fail) else .fail)
        else if k.live = true ∧ i < k.els.length ∧ fo + ti.sz ≤ k.es then
          (match rowTi T k.ty, cellsT I ti.agg ti.sz (ev x) with
          | some te, (vs, c) => if te.sz = k.es ∧ vs.length = ti.sz then
              (match astoreT I k.es te.agg ti.agg (k.els.getD i .undef) fo (ev x) vs with
              | some (c', e') => .req (I.and c (I.and c' (onesT I vs))) (.pure ⟨.undef, [(b, some { k with els := k.els.set i e' })], nid⟩)
              | none => .fail) else .fail
          | none, _ => .fail) else .fail
      | _ => .fail)
    | none => .fail
  | .nilCheck x => match ev x with
    | .loc b es i fo => .val (.loc b es i fo)
    | .d (.pim els i fo) => .val (.d (.pim els i fo))
    | .d (.fn f cs) => .val (.d (.fn f cs))
    | .fn f cs => .val (.fn f cs)
    | _ => .fail
  | .binOp op t x y _ => match ev x, ev y with
    | .d u, .d v => (match rowUn T t with
      | .int k => if plainOp op = true then .req (I.isI k u) (.req (I.isI k v) (.val (.d (I.ibin k op u v)))) else .req (I.binOk op u v) (.val (.d (I.bin op u v)))
      | .str => if plainSOp op = true then .req (I.isStr u) (.req (I.isStr v) (.val (.d (I.sbin op u v)))) else .req (I.binOk op u v) (.val (.d (I.bin op u v)))
      | .bool => .req (I.bbinOk op u v) (.val (.d (I.bbin op u v)))
      | .slice _ => (match v with
        | .snil => if eqNeq op = true then .req (I.isSl u) (.val (.d (I.nilC op u))) else .fail
        | _ => .fail)
      | _ => .fail)
    | .slc _ _ _ _, .d .snil => (match rowUn T t with
      | .slice _ => if eqNeq op = true then .val (.d (.bool (isNeq op))) else .fail
      | _ => .fail)
    | _, _ => .fail
  | .unOp op _ x => match ev x with
    | .d u => (match op with
      | .not => .req (I.isBool u) (.val (.d (I.not u)))
      | op => .req (I.unOk op u) (.val (.d (I.un op u))))
    | _ => .fail
  | .convert s t x => match rowUn T s, rowUn T t, ev x with
    | .int _, .int k, .d u => .req (I.isInt u) (.val (.d (I.conv k u)))
    | .str, .slice e, .d u => (match rowUn T e with
      | .int .u8 => .req (I.isStr u) (.pure ⟨.slc nid 1 0 (I.blen u), [(nid, some ⟨I.bytes u, 1, e, true, false⟩)], nid + 1⟩)
      | _ => .fail)
    | _, _, _ => .fail
  | .makeInterface t x => match rowUn T t with
    | .other => .fail
    | _ => (match ev x with | .d v => .val (.d (.iface t v)) | v => .val (.iface t v))
  | .panic x => match ev x with
    | .d (.iface t v) => .pan (.iface t v)
    | .iface t (.agg cs) => (match allD cs with | some ds => .pan (.iface t (.agg ds)) | none => .fail)
    | _ => .fail
  | .makeFunc (.func f) first caps => if first.size = 0 then (match allD (caps.toList.map ev) with | some ds => .val (.d (.fn f ds)) | none => .val (.fn f (caps.toList.map ev))) else .fail
  | .makeSlice t l c => match rowUn T t, ev l, ev c with
    | .slice e, .d u, .d v => (match rowTi T e with
      | some ti => if ti.bytes ≤ 32768 then .req (I.mkOk u v) (.pure ⟨.slc nid ti.sz 0 (I.nat u), [(nid, some ⟨I.rep (I.nat v) (.d ti.zero), ti.sz, e, true, true⟩)], nid + 1⟩) else .fail
      | none => .fail)
    | _, _, _ => .fail
  | .slice t x lo hi none => match ev x, boundsD ev lo, boundsD ev hi with
    | .d u, some l, some h => (match rowUn T t with
      | .str => .req (I.subOk u l h) (.val (.d (I.sub u l h)))
      | .slice e => (match rowTi T e with | some ti => .req (I.slOk ti.sz u l h) (.val (.d (I.sl ti.sz u l h))) | none => .fail)
      | _ => .fail)
    | .slc b es off len, some none, some none => (match rowUn T t with
      | .slice e => (match rowTi T e with | some ti => if ti.sz = es ∧ off = 0 then .val (.slc b es 0 len) else .fail | none => .fail)
      | _ => .fail)
    | .slc b es off len, some none, some h => (match rowUn T t with
      | .slice e => (match rowTi T e with | some ti => if ti.sz = es then .req (I.bnd none h len) (.val (.slc b es off (I.ln len none h))) else .fail | none => .fail)
      | _ => .fail)
    | .slc b es off len, some l, some h => (match rowUn T t with
      | .slice e => (match rowTi T e with | some ti => if ti.sz = es then .req (I.bnd l h len) (.ite (I.emp l h len) (.val (.d (.sim []))) (.val (.slc b es (I.lo off l) (I.ln len l h)))) else .fail | none => .fail)
      | _ => .fail)
    | _, _, _ => .fail
  | .fieldAddr s x f => match T s with
    | some r => (match r.un, r.flds[f]? with
      | .struct, some (off, ft) => (match rowTi T ft with
        | some ti => if ti.sz = 0 then .fail else
          (match ev x with
          | .loc b es i fo => .val (.loc b es i (fo + off))
          | .d (.pim els i fo) => .val (.d (.pim els i (fo + off)))
          | _ => .fail)
        | none => .fail)
      | _, _ => .fail)
    | none => .fail
  | .field s x f => match T s with
    | some r => (match r.un, r.flds[f]?, r.ti with
      | .struct, some (off, ft), some ts => (match rowTi T ft, ev x with
        | some ti, .agg cs => aloadT I ti ts.sz true (.agg cs) off
        | some ti, .d u => aloadT I ti ts.sz true (.d u) off
        | _, _ => .fail)
      | _, _, _ => .fail)
    | none => .fail
  | .indexAddr t x i => match rowUn T t with
    | .slice e => (match rowTi T e with
      | some ti => (match ev x, ev i with
        | .d u, .d j => .req (I.ixOk u j ti.sz) (.val (.d (.pim (I.lst u) (I.nat j) 0)))
        | .slc b es off len, .d j => if ti.sz = es then
            (match (if (symR T b || (arrM T && atomU (rowUn T e))) = true then none else litOf i) with
            | some n => if n < len then .val (.loc b es (off + n) 0) else .fail
            | none => .req (I.inR j len) (.val (.loc b es (I.off off j) 0))) else .fail
        | _, _ => .fail)
      | none => .fail)
    | .arr n e => (match rowTi T e, ev x, litOf i with
      | some ti, .loc b es k fo, some j => if j < n then .val (.loc b es k (fo + j * ti.sz)) else .fail
      | some ti, .d (.pim els k fo), some j => if j < n then .val (.d (.pim els k (fo + j * ti.sz))) else .fail
      | _, _, _ => .fail)
    | _ => .fail
  | .index t x i => match rowUn T t, ev x, ev i with
    | .str, .d u, .d j => .req (I.atOk u j) (.val (.d (I.at_ u j)))
    | _, _, _ => .fail
  | .extract x i => match ev x with
    | .tup vs => (match vs[i]? with | some v => .val v | none => .fail)
    | .d u => .req (I.tupOk u i) (.val (.d (I.ext u i)))
    | _ => .fail
  | .call { callee := .value fv, args, .. } => match ev fv with
    | .d (.fn f caps) => .call f (args.toList.map ev ++ caps.map .d)
    | .fn f caps => .call f (args.toList.map ev ++ caps)
    | _ => .fail
  | .call { callee := .builtin .append, args, argTypes } =>
    if args.size = 2 ∧ argTypes.size = 2 then
      match rowUn T (argTypes.getD 0 0), rowUn T (argTypes.getD 1 0) with
      | .slice e, .slice _ => (match rowTi T e with
        | some ti => if ti.bytes ≤ 32768 ∧ 0 < ti.sz then
            (match ev (args.getD 1 (.tmp 0)) with
            | .d v => .ite (I.isNil v) (match ev (args.getD 0 (.tmp 0)) with
                | .slc b es off len => .val (.slc b es off len)
                | .zc => .val .zc
                | .d u => .req (I.isSl u) (.val (.d u))
                | _ => .fail) (newsT I ti.sz (.d v) (appT I nid ti e (ev (args.getD 0 (.tmp 0)))))
            | x => newsT I ti.sz x (appT I nid ti e (ev (args.getD 0 (.tmp 0))))) else .fail
        | none => .fail)
      | _, _ => .fail
    else .fail
  | .call { callee := .builtin .len, args, argTypes } => if args.size = 1 ∧ argTypes.size = 1 then
      (match rowUn T (argTypes.getD 0 0), ev (args.getD 0 (.tmp 0)) with
      | .str, .d u => .req (I.isStr u) (.val (.d (I.slen u)))
      | .slice _, .d u => .req (I.isSl u) (.val (.d (I.len u)))
      | .slice _, .slc _ _ _ len => .val (.d (.int .i64 len))
      | .slice _, .zc => .val (.d (.int .i64 0))
      | _, _ => .fail) else .fail
  | _ => .fail

end Go.Proofs.Am

set_option linter.unusedVariables false
set_option linter.unusedSimpArgs false
namespace Go.Proofs.Am
open Go Go.RowKit

section
variable {P : Program} {T : Nat → Option TRow}

theorem zI3 (hT : TabOk P T) {t : Nat} {ti : TI} (h : rowTi T t = some ti) : tinfo P t = some ti := by
  unfold rowTi at h
  cases hr : T t with
  | none => simp [hr] at h
  | some r =>
    rw [hr] at h
    have := hT t r hr
    subst this
    simpa [rowOf] using h

def UKis (d : Option TypeDesc) : UK → Prop
  | .int k => d = some (.int k)
  | .str => d = some .string
  | .bool => d = some .bool
  | .slice e => d = some (.slice e)
  | .arr n e => d = some (.array n e)
  | .struct => ∃ fs, d = some (.struct fs)
  | .other => True

theorem un_ok {u : UK} {d : Option TypeDesc} (h : ukOf d = u) : UKis d u := by
  subst h
  unfold ukOf
  split <;> first | rfl | exact ⟨_, rfl⟩ | trivial

theorem zG9 (hT : TabOk P T) {t : Nat} {u : UK} (h : rowUn T t = u) : UKis (P.underlying t) u := by
  unfold rowUn at h
  cases hr : T t with
  | none => rw [hr] at h; subst h; trivial
  | some r =>
    rw [hr] at h
    have := hT t r hr
    subst this
    exact un_ok h

theorem std_and (a b : Bool) : std.and a b = (a && b) := rfl

theorem isAgg_std {x : DV} {n : Nat} (h : std.isAgg x n = true) : ∃ l, x = .agg l ∧ l.length = n := by
  simp only [std, Bool.and_eq_true, beq_iff_eq] at h
  cases x <;> simp [dIsAgg] at h
  exact ⟨_, rfl, h⟩

theorem range_cells (l : List DV) : (List.range l.length).map (fun i => AV.d ((DV.agg l).cells.getD i .inil)) = l.map .d := by
  apply List.ext_getElem (by simp)
  intro i h1 h2
  simp at h1
  simp [DV.cells, List.getD, h1]

theorem one_cells {x : DV} (h : std.one x = true) : (AV.d x).cells = [.d x] := by
  cases x <;> simp [std, avOne] at h <;> rfl

theorem cellsT_ok {agg : Bool} {sz : Nat} {v : AV} {cs : List AV} {b : Bool} (h : cellsT std agg sz v = (cs, b)) (hb : b = true) : v.cells = cs := by
  subst hb
  unfold cellsT at h
  split at h
  · simp only [Prod.mk.injEq] at h; exact h.1
  · rename_i x
    split at h
    · simp only [Prod.mk.injEq] at h
      obtain ⟨h1, h2⟩ := h
      obtain ⟨l, rfl, rfl⟩ := isAgg_std h2
      rw [← h1]
      exact (range_cells l).symm
    · simp only [Prod.mk.injEq] at h
      obtain ⟨h1, h2⟩ := h
      rw [one_cells h2, h1]
  · simp only [Prod.mk.injEq] at h
    rw [← h.1]
    cases v <;> first | rfl | simp_all

theorem onesT_ok : ∀ {cs : List AV}, onesT std cs = true → cs.all avOne = true
  | [], _ => rfl
  | v :: r, h => by
    cases v with
    | d x =>
      simp only [onesT, std_and, Bool.and_eq_true] at h
      have h1 : avOne (.d x) = true := h.1
      rw [List.all_cons, h1, onesT_ok (cs := r) h.2]; rfl
    | agg _ => simp [onesT] at h
    | tup _ => simp [onesT] at h
    | undef => simp [onesT] at h
    | _ => simp only [onesT] at h; rw [List.all_cons, onesT_ok (cs := r) h]; rfl

theorem fillT_ok (hT : TabOk P T) {pl fl : List (Nat × Nat)} : ∀ {parts : List (Nat × AV)} {cs cs' : List AV} {b : Bool}, fillT std T pl fl cs parts = some (b, cs') → b = true →
    fillA pl cs parts = some cs' ∧ (parts.all fun p => p.2.cells.all avOne) = true
  | [], cs, cs', b, h, hb => by simp only [fillT, Option.some.injEq, Prod.mk.injEq] at h; rw [← h.2]; exact ⟨rfl, rfl⟩
  | (f, v) :: rest, cs, cs', b, h, hb => by
    simp only [fillT] at h
    split at h
    · rename_i off sz _ ft hp hf
      split at h
      · rename_i ti hti
        generalize hc : cellsT std ti.agg ti.sz v = q at h
        obtain ⟨vs, b1⟩ := q
        simp only at h
        split at h
        · rename_i hcond
          split at h
          · rename_i b2 cs2 hr
            simp only [Option.some.injEq, Prod.mk.injEq] at h
            obtain ⟨h1, rfl⟩ := h
            rw [hb] at h1
            simp only [std_and, Bool.and_eq_true] at h1
            obtain ⟨⟨h1, h2⟩, h3⟩ := h1
            obtain ⟨k1, k2⟩ := fillT_ok hT hr h3
            have hcv := cellsT_ok hc h1
            refine ⟨?_, ?_⟩
            · simp only [fillA, hp]
              rw [hcv, if_pos ⟨hcond.1, hcond.2.1⟩, hcond.1]
              exact k1
            · rw [List.all_cons, k2, Bool.and_true]
              simp only [hcv]
              exact onesT_ok h2
          · cases h
        · cases h
      · cases h
    · cases h

theorem fillLT_ok {agg : Bool} {es : Nat} : ∀ {parts : List (Nat × AV)} {els els' : List AV} {b : Bool}, fillLT std agg es els parts = some (b, els') → b = true →
    fillL es els parts = some els' ∧ (parts.all fun p => p.2.cells.all avOne) = true
  | [], els, els', b, h, hb => by simp only [fillLT, Option.some.injEq, Prod.mk.injEq] at h; rw [← h.2]; exact ⟨rfl, rfl⟩
  | (i, v) :: rest, els, els', b, h, hb => by
    simp only [fillLT] at h
    generalize hc : cellsT std agg es v = q at h
    obtain ⟨vs, b1⟩ := q
    simp only at h
    split at h
    · rename_i hcond
      split at h
      · rename_i b2 els2 hr
        simp only [Option.some.injEq, Prod.mk.injEq] at h
        obtain ⟨h1, rfl⟩ := h
        rw [hb] at h1
        simp only [std_and, Bool.and_eq_true] at h1
        obtain ⟨⟨h1, h2⟩, h3⟩ := h1
        obtain ⟨k1, k2⟩ := fillLT_ok hr h3
        have hcv := cellsT_ok hc h1
        refine ⟨?_, ?_⟩
        · simp only [fillL]
          rw [hcv, if_pos hcond]
          exact k1
        · rw [List.all_cons, k2, Bool.and_true]
          simp only [hcv]
          exact onesT_ok h2
      · cases h
    · cases h

theorem aloadT_ok {ti : TI} {n : Nat} {aggE : Bool} {e : AV} {fo nid : Nat} {B : BM} {o : Option AV} (hB : ∀ v, o = some v → B = just nid v) (ho : aload ti e fo = o) : (aloadT std ti n aggE e fo).le nid B := by
  have key : ∀ v, aload ti e fo = some v → B = just nid v := fun v h => hB v (by rw [← ho, h])
  unfold aloadT
  cases e with
  | agg cs =>
    simp only
    split
    · rename_i ha
      split
      · rename_i h; exact key _ (by simp [aload, ha, AV.cells, aIsAgg, h.1, h.2])
      · rename_i h
        split
        · rename_i h2; refine key _ ?_
          have e1 : (AV.agg cs).cells = cs := rfl
          simp only [aload, ha, if_true, e1]
          rw [if_neg (fun hc => h ⟨hc.1, hc.2.1⟩), if_pos h2]
        · trivial
    · rename_i ha
      split
      · rename_i v hv; refine key _ ?_; simp only [aload, ha, AV.cells]; simpa using hv
      · trivial
  | d x =>
    simp only
    split
    · rename_i ha
      split
      · rename_i h
        intro hx
        obtain ⟨l, rfl, rfl⟩ := isAgg_std hx
        exact key _ (by simp [aload, ha, AV.cells, aIsAgg, h.1, h.2])
      · rename_i h
        split
        · rename_i h2
          intro hx
          obtain ⟨l, rfl, rfl⟩ := isAgg_std hx
          refine key _ ?_
          have e1 : (AV.d (.agg l)).cells = l.map .d := rfl
          simp only [aload, ha, if_true, e1]
          rw [if_neg (fun hc => h ⟨hc.1, by simpa using hc.2.1⟩), if_pos (by simpa using h2)]
          congr 2
          apply List.ext_getElem (by simp; omega)
          intro i h1 h3
          simp at h1 h3
          have : fo + i < l.length := by omega
          simp [std, DV.cells, List.getD, this]
        · trivial
    · rename_i ha
      split
      · split
        · rename_i h2
          intro hx
          obtain ⟨l, rfl, rfl⟩ := isAgg_std hx
          refine key _ ?_
          simp only [aload, ha, AV.cells]
          simp [std, DV.cells, List.getD, h2]
        · trivial
      · split
        · rename_i h0
          intro hx
          refine key _ ?_
          simp only [aload, ha, one_cells hx, h0]; rfl
        · trivial
  | undef => trivial
  | _ =>
    simp only
    split
    · rename_i h; refine key _ ?_; simp [aload, h.1, h.2, AV.cells]
    · trivial

theorem aggS_ok {agg : Bool} {sz : Nat} {v : AV} {cs : List AV} (h : cellsT std agg sz v = (cs, true)) : aIsAgg v = aggS agg v := by
  unfold cellsT at h
  split at h
  · rfl
  · rename_i x
    split at h
    · rename_i ha
      simp only [Prod.mk.injEq] at h
      obtain ⟨l, rfl, rfl⟩ := isAgg_std h.2
      simp [aIsAgg, aggS, ha]
    · rename_i ha
      simp only [Prod.mk.injEq] at h
      have h1 : avOne (.d x) = true := h.2
      simp only [aggS]
      cases x <;> first | (simp [avOne] at h1; done) | simp_all [aIsAgg]
  · cases v <;> first | rfl | simp_all

theorem astoreT_ok {n m : Nat} {aggE aggV : Bool} {e v : AV} {fo : Nat} {vs : List AV} {b : Bool} {e' : AV} (h : astoreT std n aggE aggV e fo v vs = some (b, e')) (hb : b = true) (hv : cellsT std aggV m v = (vs, true)) : astore e fo v = e' := by
  have hv2 := cellsT_ok hv rfl
  have hv3 := aggS_ok hv
  unfold astoreT at h
  generalize hc : cellsT std aggE n e = q at h
  obtain ⟨es, b1⟩ := q
  simp only at h
  split at h
  · rename_i hl
    split at h
    · rename_i h2
      split at h
      · rename_i h4
        simp only [Option.some.injEq, Prod.mk.injEq] at h
        obtain ⟨rfl, rfl⟩ := h
        subst hb
        have he2 := cellsT_ok hc rfl
        have he3 := aggS_ok hc
        unfold astore
        rw [if_neg (fun hx => hx.2.2 ⟨by rw [hv2]; omega, by rw [hv3]; exact h4.2.1, by rw [he3]; exact h4.2.2⟩), hv2, he2, h2.1]
        simp
        omega
      · rename_i h4
        simp only [Option.some.injEq, Prod.mk.injEq] at h
        obtain ⟨rfl, rfl⟩ := h
        subst hb
        have he2 := cellsT_ok hc rfl
        have he3 := aggS_ok hc
        unfold astore
        rw [if_pos ⟨h2.1, by rw [hv2, he2]; omega, fun hx => h4 ⟨by rw [hv2] at hx; omega, by rw [← hv3]; exact hx.2.1, by rw [← he3]; exact hx.2.2⟩⟩]
    · rename_i h2
      simp only [Option.some.injEq, Prod.mk.injEq] at h
      obtain ⟨rfl, rfl⟩ := h
      have := cellsT_ok hc hb
      unfold astore
      rw [if_neg (fun hc => h2 ⟨hc.1, by rw [hv2, this] at hc; omega⟩), this, hv2]
  · cases h

theorem bounds_ok {ev : Operand → AV} {o : Option Operand} {d : Option DV} (h : boundsD ev o = some d) : o.map ev = d.map .d := by
  unfold boundsD at h
  split at h
  · cases h; rfl
  · split at h
    · rename_i hx; cases h; simp [hx]
    · cases h

theorem dl_ok {ti : TI} {e : DV} {fo : Nat} (hb : std.dlOk ti.sz ti.agg e fo = true) : dload ti e fo = some (dlV ti.sz ti.agg e fo) := by
  have hb : (if ti.agg then dIsAgg e && decide (fo + ti.sz ≤ e.cells.length) else decide (fo < e.cells.length)) = true := hb
  unfold dload dlV
  cases hA : ti.agg with
  | true =>
    rw [hA] at hb
    simp only [if_true, Bool.and_eq_true, decide_eq_true_eq] at hb ⊢
    by_cases h : fo = 0 ∧ e.cells.length = ti.sz
    · rw [if_pos ⟨h.1, h.2, hb.1⟩, if_pos h]
    · rw [if_neg (fun hc => h ⟨hc.1, hc.2.1⟩), if_pos hb.2, if_neg h]
  | false =>
    rw [hA] at hb
    have hb : fo < e.cells.length := by simpa using hb
    simp [List.getD, hb]

theorem bounds_std {n : Nat} {lo hi : Option DV} (h1 : intO lo = true) (h2 : intO hi = true) (h3 : 0 ≤ loN lo) (h4 : loN lo ≤ hiN n hi) (h5 : hiN n hi ≤ n) :
    sliceBoundsA n n (lo.map .d) (hi.map .d) = some ((loN lo).toNat, (hiN n hi).toNat) := by
  have isI : ∀ x : DV, isIntD x = true → ∃ k m, x = .int k m := fun x h => by cases x <;> first | exact ⟨_, _, rfl⟩ | cases h
  cases lo with
  | none => cases hi with
    | none => simp [sliceBoundsA, loN, hiN]
    | some h =>
      obtain ⟨k, m, rfl⟩ := isI h h2
      simp only [hiN, asInt, loN] at h4 h5
      simp only [sliceBoundsA, Option.map_none, Option.map_some, hiN, asInt, loN]
      rw [if_pos ⟨h4, h5⟩]; rfl
  | some l =>
    obtain ⟨k, m, rfl⟩ := isI l h1
    cases hi with
    | none =>
      simp only [hiN, asInt, loN] at h3 h4 h5
      simp only [sliceBoundsA, Option.map_none, Option.map_some, hiN, asInt, loN]
      rw [if_pos ⟨h3, h4⟩]; rfl
    | some h =>
      obtain ⟨k', m', rfl⟩ := isI h h2
      simp only [hiN, asInt, loN] at h3 h4 h5
      simp only [sliceBoundsA, Option.map_some, hiN, asInt, loN]
      rw [if_pos ⟨h3, h4, h5⟩]

theorem ibin_ok {P : Program} {t : TypeId} {k : IntKind} {op : BinOp} {u v : DV} (hp : plainOp op = true) (h1 : std.isI k u = true) (h2 : std.isI k v = true) : binD P op t (.d u) (.d v) = some (std.ibin k op u v) := by
  cases u <;> first | (simp [std, isIK] at h1; done) | skip
  cases v <;> first | (simp [std, isIK] at h2; done) | skip
  have h1 := of_decide_eq_true h1
  have h2 := of_decide_eq_true h2
  subst h1 h2
  cases op <;> first | (simp [plainOp] at hp; done) | skip
  all_goals simp only [binD, if_true, intOp]
  all_goals first | rfl | skip

theorem sbin_ok {P : Program} {t : TypeId} {op : BinOp} {u v : DV} (hp : plainSOp op = true) (h1 : std.isStr u = true) (h2 : std.isStr v = true) : binD P op t (.d u) (.d v) = some (std.sbin op u v) := by
  cases u <;> first | (simp [std, isStrD] at h1; done) | skip
  cases v <;> first | (simp [std, isStrD] at h2; done) | skip
  rename_i a b
  have he : (a.data.toList == b.data.toList) = decide (a = b) := by
    obtain ⟨⟨a⟩⟩ := a; obtain ⟨⟨b⟩⟩ := b
    by_cases h : a = b <;> simp [h]
  cases op <;> first | (simp [plainSOp] at hp; done) | skip
  all_goals simp only [binD, strOp, he]
  all_goals first | rfl | (simp only [std, sbinD, asStr, ltB, eqB, he])

theorem newsT_ok {nid sz : Nat} {ti : TI} (hsz : ti.sz = sz) {x : AV} {k : List AV → Nat → TM} {k' : List AV → BM} (hk : ∀ xs, (k xs xs.length).le nid (k' xs)) : (newsT std sz x k).le nid (newsB ti x k') := by
  subst hsz
  unfold newsT
  cases x with
  | d v =>
    intro h
    cases v <;> simp [std] at h
    rename_i els
    have := hk (els.map .d)
    simp only [newsB]
    rw [if_pos (by simpa using h)]
    simpa [std, lstD] using this
  | slc b es off n =>
    refine ⟨_, rfl, fun q => ?_⟩
    simp only
    by_cases h : off + n ≤ q.els.length ∧ es = ti.sz
    · rw [if_pos h, if_pos h]
      have := hk ((q.els.drop off).take n)
      have hl : ((q.els.drop off).take n).length = n := by simp; omega
      rw [hl] at this; exact this
    · rw [if_neg h]; trivial
  | _ => trivial

theorem freshT_ok {nid : Nat} {ti : TI} {e : TypeId} {z : AV} {xs : List AV} : (freshT std nid ti e z xs xs.length).le nid
    (if xs.length = 0 then just nid z else if xs.length ≤ big then .pure ⟨.slc nid ti.sz 0 xs.length, [(nid, some ⟨xs, ti.sz, e, true, true⟩)], nid + 1⟩ else .fail) := by
  refine ⟨fun h => ?_, fun h h2 => ?_⟩
  · have h : xs.length ≤ 0 := of_decide_eq_true h
    rw [if_pos (by omega)]; rfl
  · have h : ¬ xs.length ≤ 0 := of_decide_eq_false h
    have h2 : xs.length ≤ big := of_decide_eq_true h2
    rw [if_neg (by omega), if_pos h2]; rfl

theorem appT_ok {nid : Nat} {ti : TI} {e : TypeId} {s : AV} (xs : List AV) : (appT std nid ti e s xs xs.length).le nid
    (match s with
      | .d .snil => if xs.length = 0 then just nid (.d .snil) else if xs.length ≤ big then .pure ⟨.slc nid ti.sz 0 xs.length, [(nid, some ⟨xs, ti.sz, e, true, true⟩)], nid + 1⟩ else .fail
      | .zc => if xs.length = 0 then just nid .zc else if xs.length ≤ big then .pure ⟨.slc nid ti.sz 0 xs.length, [(nid, some ⟨xs, ti.sz, e, true, true⟩)], nid + 1⟩ else .fail
      | .slc b es 0 len => .get b fun q =>
          if q.live = true ∧ q.plain = true ∧ q.ty = e ∧ es = ti.sz ∧ len ≤ q.els.length ∧ len + xs.length ≤ big then
            .pure ⟨.slc nid ti.sz 0 (len + xs.length), [(b, none), (nid, some ⟨q.els.take len ++ xs, ti.sz, e, true, true⟩)], nid + 1⟩ else .fail
      | _ => .fail) := by
  unfold appT
  cases s with
  | d v =>
    intro h
    cases v <;> first | (simp [std, isSnil] at h; done) | skip
    exact freshT_ok
  | zc => exact freshT_ok
  | slc b es off len =>
    cases off with
    | zero =>
      refine ⟨_, rfl, fun q => ?_⟩
      simp only
      split
      · rename_i h
        intro hb
        simp only [std_and, Bool.and_eq_true] at hb
        have h1 : len ≤ q.els.length := of_decide_eq_true hb.1
        have h2 : len + xs.length ≤ big := of_decide_eq_true hb.2
        rw [if_pos ⟨h.1, h.2.1, h.2.2.1, h.2.2.2, h1, h2⟩]; rfl
      · trivial
    | succ n => trivial
  | _ => trivial

theorem app_ok {nid : Nat} {ti : TI} {e : TypeId} {s x : AV} (hc : ti.bytes ≤ 32768 ∧ 0 < ti.sz) : (match x with
      | .d v => TM.ite (std.isNil v) (match s with
          | .slc b es off len => .val (.slc b es off len)
          | .zc => .val .zc
          | .d u => .req (std.isSl u) (.val (.d u))
          | _ => .fail) (newsT std ti.sz (.d v) (appT std nid ti e s))
      | x => newsT std ti.sz x (appT std nid ti e s)).le nid (appendB nid ti e s x) := by
  unfold appendB
  rw [if_pos hc]
  have main : ∀ x, (newsT std ti.sz x (appT std nid ti e s)).le nid (newsB ti x fun xs =>
      match s with
      | .d .snil => if xs.length = 0 then just nid (.d .snil) else if xs.length ≤ big then .pure ⟨.slc nid ti.sz 0 xs.length, [(nid, some ⟨xs, ti.sz, e, true, true⟩)], nid + 1⟩ else .fail
      | .zc => if xs.length = 0 then just nid .zc else if xs.length ≤ big then .pure ⟨.slc nid ti.sz 0 xs.length, [(nid, some ⟨xs, ti.sz, e, true, true⟩)], nid + 1⟩ else .fail
      | .slc b es 0 len => .get b fun q =>
          if q.live = true ∧ q.plain = true ∧ q.ty = e ∧ es = ti.sz ∧ len ≤ q.els.length ∧ len + xs.length ≤ big then
            .pure ⟨.slc nid ti.sz 0 (len + xs.length), [(b, none), (nid, some ⟨q.els.take len ++ xs, ti.sz, e, true, true⟩)], nid + 1⟩ else .fail
      | _ => .fail) := fun x => newsT_ok rfl fun xs => appT_ok xs
  cases x with
  | d v =>
    refine ⟨fun h => ?_, fun h => ?_⟩
    · cases v <;> first | (simp [std, isSnil] at h; done) | skip
      simp only
      cases s with
      | d u =>
        intro hu
        cases u <;> first | (simp [std, isSlD] at hu; done) | rfl
      | slc b es off len => rfl
      | zc => rfl
      | _ => trivial
    · have := main (.d v)
      cases v <;> first | exact this | (simp [std, isSnil] at h; done)
  | _ => exact main _

set_option maxHeartbeats 4000000 in
theorem opT_ok (hT : TabOk P T) (nid : Nat) (ev : Operand → AV) (hev : ∀ k n, ev (.const (.int k n)) = .d (.int k n)) (o : Op) : (opT std T nid ev o).le nid (opB P nid ev o) := by
  have ok1 : ∀ {d : Option DV}, (d.isSome) = true → d = some (d.getD .inil) := fun {d} h => by cases d <;> first | rfl | cases h
  cases o with
  | move x => rfl
  | assign x => rfl
  | pick c a b =>
    simp only [opT, opB]
    split
    · rename_i y hy
      intro hb
      cases y <;> simp [std, isBoolD] at hb
      rename_i t
      rw [hy]
      show (match ev a, ev b with
        | .d u, .d v => TM.val (.d (if t then u else v))
        | u, v => .ite t (.val u) (.val v)).le nid (just nid (if t then ev a else ev b))
      generalize ev a = u
      generalize ev b = v
      have key : (TM.ite t (.val u) (.val v)).le nid (just nid (if t then u else v)) := by
        cases t
        · exact ⟨(fun h => by cases h), fun _ => rfl⟩
        · exact ⟨fun _ => rfl, (fun h => by cases h)⟩
      cases u <;> first | exact key | skip
      cases v <;> first | exact key | skip
      cases t <;> rfl
    · trivial
  | alloc t =>
    simp only [opT, opB]
    split
    · rename_i ti h; rw [zI3 hT h]; rfl
    · trivial
  | box t x =>
    simp only [opT, opB]
    split
    · rename_i ti h
      generalize hc : cellsT std ti.agg ti.sz (ev x) = q
      obtain ⟨cs, b⟩ := q
      simp only
      split
      · rename_i hl
        intro hb
        simp only [std_and, Bool.and_eq_true] at hb
        have := cellsT_ok hc hb.1
        rw [this, if_pos (onesT_ok hb.2), hl]; rfl
      · trivial
    · trivial
  | build t parts =>
    simp only [opT, opB]
    split
    · rename_i ti un fl pl hr
      have hrow := hT _ _ hr
      simp only [rowOf, TRow.mk.injEq] at hrow
      split
      · rename_i ha
        split
        · rename_i b cs hf
          intro hb
          obtain ⟨h1, h2⟩ := fillT_ok hT hf hb
          rw [hrow.1, hrow.2.2.2]
          simp only [BM.ofO]
          rw [List.all_map] at h2
          rw [if_pos ⟨h2, ha⟩, h1]
          rfl
        · trivial
      · trivial
    · trivial
  | buildSlice t len parts =>
    simp only [opT, opB]
    split
    · rename_i e hu
      have hu := zG9 hT hu
      simp only [UKis] at hu
      split
      · rename_i ti h
        split
        · rename_i hc
          split
          · rename_i b els hf
            intro hb
            obtain ⟨h1, h2⟩ := fillLT_ok hf hb
            rw [hu]
            simp only [zI3 hT h, BM.ofO]
            rw [List.all_map] at h2
            rw [if_pos ⟨hc.1, hc.2, h2⟩, h1]
            rfl
          · trivial
        · trivial
      · trivial
    · trivial
  | load t a =>
    simp only [opT, opB]
    split
    · rename_i ti h
      rw [zI3 hT h]
      simp only [BM.ofO]
      split
      · rename_i els i fo he
        intro hb
        rw [he]
        simp only
        have : dload ti (els.getD i .inil) fo = some (dlV ti.sz ti.agg (els.getD i .inil) fo) := dl_ok hb
        rw [this]; rfl
      · rename_i b es i fo he
        rw [he]
        refine ⟨_, rfl, fun k => ?_⟩
        simp only
        by_cases hsr : symR T b = true
        · rw [if_pos hsr]
          split
          · rename_i hc
            intro hb
            simp only [std, Bool.and_eq_true, decide_eq_true_eq] at hb
            rw [if_pos hb.1]
            have hb2 := hb.2
            generalize he2 : k.els.getD i .undef = v at hb2
            cases v <;> first | (simp [isDatSA] at hb2; done) | skip
            rename_i x
            obtain ⟨l, rfl, hl⟩ := isAgg_std (n := k.es) (x := x) hb2
            have hcl : (AV.d (.agg l)).cells.length = ti.sz := by simp only [AV.cells, List.length_map]; rw [hl, hc.2.2]
            have hag : aIsAgg (.d (.agg l)) = true := rfl
            have : aload ti (.d (.agg l)) fo = some (.d (.agg l)) := by
              unfold aload
              rw [if_pos hc.1, if_pos ⟨hc.2.1, hcl, hag⟩]
            rw [this]
            simp only [std, dgetA, he2]
            rfl
          · trivial
        rw [if_neg hsr]
        by_cases hpl : (!k.plain || (arrM T && atomU (rowUn T k.ty))) = true
        · rw [if_pos hpl]
          split
          · rename_i hc
            intro hb
            simp only [std, Bool.and_eq_true, decide_eq_true_eq] at hb
            rw [if_pos hb.1]
            have hb2 := hb.2
            generalize he2 : k.els.getD i .undef = v at hb2
            cases v <;> first | (simp [isDatA] at hb2; done) | skip
            rename_i x
            have hx : (AV.d x).cells = [.d x] := one_cells hb2
            have : aload ti (.d x) fo = some (.d x) := by simp only [aload, hc.1, hx, hc.2]; rfl
            simp only [this]
            have hd : std.dget k.els i = x := by
              show dgetA k.els i = x
              unfold dgetA; rw [he2]
            rw [hd]; rfl
          · trivial
        rw [if_neg hpl]
        by_cases hi : i < k.els.length
        · rw [if_pos hi, if_pos hi]
          split
          · split
            · exact aloadT_ok (fun v hv => by rw [hv]) rfl
            · trivial
          · trivial
        · rw [if_neg hi]; trivial
      · trivial
    · trivial
  | store t a x =>
    simp only [opT, opB]
    split
    · rename_i ti h
      rw [zI3 hT h]
      simp only [BM.ofO]
      split
      · rename_i b es i fo he
        rw [he]
        refine ⟨_, rfl, fun k => ?_⟩
        simp only
        by_cases hsr : symR T b = true
        · rw [if_pos hsr]
          split
          · rename_i hc
            split
            · rename_i v hv
              intro hb h1 h2
              simp only [std, Bool.and_eq_true, decide_eq_true_eq] at hb
              have hb2 := hb.2
              generalize he2 : k.els.getD i .undef = y at hb2
              cases y <;> first | (simp [isDatSA] at hb2; done) | skip
              rename_i z
              obtain ⟨l2, rfl, hl2⟩ := isAgg_std (n := k.es) (x := z) hb2
              obtain ⟨l, rfl, hl⟩ := isAgg_std h1
              have hx : (AV.d (.agg l)).cells.length = ti.sz := by simp only [AV.cells, DV.cells, List.length_map]; exact hl
              have hz : (AV.d (.agg l2)).cells.length = ti.sz := by simp only [AV.cells, List.length_map]; rw [hl2, hc.2.2.2]
              have hone : (AV.d (.agg l)).cells.all avOne = true := by
                have h2 : ((DV.agg l).cells.length == ti.sz && (AV.d (.agg l)).cells.all avOne) = true := h2
                rw [Bool.and_eq_true] at h2
                exact h2.2
              have hst : astore (.d (.agg l2)) fo (.d (.agg l)) = .d (.agg l) := by
                unfold astore
                rw [if_pos ⟨hc.2.2.1, by rw [hx, hz], fun hh => by have := hh.2.1; simp [aIsAgg, dIsAgg] at this⟩]
              rw [hv, if_pos ⟨hc.1, hb.1, hx, hone, by rw [hc.2.2.1, hc.2.2.2]; omega⟩, hst]
              rfl
            · trivial
          · trivial
        rw [if_neg hsr]
        by_cases harr : (arrM T && atomU (rowUn T k.ty)) = true
        · rw [if_pos harr]
          split
          · rename_i hc
            split
            · rename_i v hv
              intro hb h1
              simp only [std, Bool.and_eq_true, decide_eq_true_eq] at hb
              have hb2 := hb.2
              generalize he2 : k.els.getD i .undef = y at hb2
              cases y <;> first | (simp [isDatA] at hb2; done) | skip
              rename_i z
              have hz : (AV.d z).cells = [.d z] := one_cells hb2
              have hx : (AV.d v).cells = [.d v] := one_cells h1
              have h1' : avOne (.d v) = true := h1
              have hb2' : avOne (.d z) = true := hb2
              have hne : ¬ ((AV.d v).cells.length = 1 ∧ aIsAgg (.d v) = false ∧ aIsAgg (.d z) = true) := fun hh => by
                cases z <;> first | (simp [avOne] at hb2'; done) | exact absurd hh.2.2 (by simp [aIsAgg])
              have hst : astore (.d z) fo (.d v) = .d v := by
                unfold astore
                rw [if_pos ⟨hc.2.2.2.1, by rw [hx, hz]; rfl, hne⟩]
              rw [hv, if_pos ⟨hc.1, hb.1, by rw [hx, hc.2.2.1]; rfl, by rw [hx]; simp [h1'], by rw [hc.2.2.1, hc.2.2.2.1]; omega⟩, hst]
              rfl
            · trivial
          · trivial
        rw [if_neg harr]
        by_cases hc : k.live = true ∧ i < k.els.length ∧ fo + ti.sz ≤ k.es
        · rw [if_pos hc]
          split
          · rename_i te vs c hte hcv
            split
            · rename_i hl
              split
              · rename_i c' e' hst
                intro hb
                simp only [std_and, Bool.and_eq_true] at hb
                have hv := cellsT_ok hcv hb.1
                have hs := astoreT_ok hst hb.2.1 (by rw [← hb.1]; exact hcv)
                rw [if_pos ⟨hc.1, hc.2.1, by rw [hv]; exact hl.2, by rw [hv]; exact onesT_ok hb.2.2, hc.2.2⟩, hs]
                rfl
              · trivial
            · trivial
          · trivial
        · rw [if_neg hc]; trivial
      · trivial
    · trivial
  | nilCheck x =>
    simp only [opT, opB]
    split <;> first | (rename_i h; rw [h]; rfl) | trivial
  | binOp op t x y yt =>
    simp only [opT, opB]
    split
    · rename_i u v hu hv
      have num : (std.binOk op u v = true → binD P op t (.d u) (.d v) = some (std.bin op u v)) := fun h => by
        have h1 := ok1 (d := binV op u v) h
        show _ = some ((binV op u v).getD .inil)
        rw [← h1]
        cases u <;> cases v <;> first | rfl | simp [std, binV] at h
      split
      · rename_i k _
        split
        · rename_i hp
          intro h1 h2
          have : binD P op t (.d u) (.d v) = some (std.ibin k op u v) := ibin_ok hp h1 h2
          rw [← hu, ← hv] at this; simp only [this]; rfl
        · intro h; have := num h; rw [← hu, ← hv] at this; simp only [this]; rfl
      · split
        · rename_i hp
          intro h1 h2
          have : binD P op t (.d u) (.d v) = some (std.sbin op u v) := sbin_ok hp h1 h2
          rw [← hu, ← hv] at this; simp only [this]; rfl
        · intro h; have := num h; rw [← hu, ← hv] at this; simp only [this]; rfl
      · rename_i hun
        have hun := zG9 hT hun
        simp only [UKis] at hun
        intro h
        have : binD P op t (.d u) (.d v) = some (std.bbin op u v) := by
          have h1 := ok1 (d := bbinV op u v) h
          show _ = some ((bbinV op u v).getD .inil)
          rw [← h1]
          cases u <;> cases v <;> first | (simp [std, bbinV] at h; done) | skip
          simp only [binD, hun, bbinV]
        rw [← hu, ← hv] at this; simp only [this]; rfl
      · rename_i e hun
        have hun := zG9 hT hun
        simp only [UKis] at hun
        split
        · split
          · rename_i hop
            intro h
            have : binD P op t (.d u) (.d .snil) = some (std.nilC op u) := by
              cases op <;> first | (simp [eqNeq] at hop; done) | skip
              all_goals cases u <;> first | (simp [std, isSlD] at h; done) | skip
              all_goals simp only [binD, hun, isNilSlice, Option.bind_some, eqOp]; rfl
            rw [← hu, ← hv] at this; simp only [this]; rfl
          · trivial
        · trivial
      · trivial
    · rename_i b es off n hu hv
      split
      · rename_i e hun
        have hun := zG9 hT hun
        simp only [UKis] at hun
        split
        · rename_i hop
          have : binD P op t (.slc b es off n) (.d .snil) = some (.bool (isNeq op)) := by
            cases op <;> first | (simp [eqNeq] at hop; done) | skip
            all_goals simp only [binD, hun, isNilSlice, Option.bind_some, eqOp]; rfl
          rw [← hu, ← hv] at this; simp only [this]; rfl
        · trivial
      · trivial
    · trivial
  | unOp op t x =>
    simp only [opT, opB]
    split
    · rename_i u hu
      rw [hu]
      split
      · intro h
        cases u <;> first | (simp [std, isBoolD] at h; done) | skip
        rfl
      · intro h
        have h1 := ok1 (d := unV op u) h
        have : unD op (.d u) = some ((unV op u).getD .inil) := by
          rw [← h1]
          cases op <;> cases u <;> first | rfl | simp [std, unV] at h
        rw [this]; rfl
    · trivial
  | convert s t x =>
    simp only [opT, opB]
    split
    · rename_i k1 k2 u h1 h2 hu
      have h1 : UKis _ _ := zG9 hT h1
      have h2 := zG9 hT h2
      simp only [UKis] at h1 h2
      intro h
      cases u <;> simp [std, isIntD] at h
      rw [hu]
      simp only [convB, h1, h2, convA, BM.ofO]
      rfl
    · rename_i e u h1 h2 hu
      have h1 : UKis _ _ := zG9 hT h1
      have h2 := zG9 hT h2
      simp only [UKis] at h1 h2
      split
      · rename_i h3
        have h3 := zG9 hT h3
        simp only [UKis] at h3
        intro h
        cases u <;> simp [std, isStrD] at h
        rw [hu]
        simp only [convB, h1, h2, h3]
        rfl
      · trivial
    · trivial
  | makeFunc fn first caps =>
    cases fn with
    | func f =>
      simp only [opT, opB]
      split
      · rename_i hf
        cases allD (caps.toList.map ev) <;> rfl
      · trivial
    | _ => trivial
  | slice t x lo hi mx =>
    cases mx with
    | none =>
      simp only [opT, opB]
      split
      · rename_i u l h hx hl hh
        have hl := bounds_ok hl
        have hh := bounds_ok hh
        split
        · rename_i hun
          have hun := zG9 hT hun
          simp only [UKis] at hun
          intro hb
          simp only [std, Bool.and_eq_true, decide_eq_true_eq] at hb
          obtain ⟨⟨⟨⟨⟨h0, h1⟩, h2⟩, h3⟩, h4⟩, h5⟩ := hb
          cases u <;> first | (simp [isStrD] at h0; done) | skip
          rename_i s
          have : sliceA P t (.d (.str s)) (lo.map ev) (hi.map ev) = some (.d (std.sub (.str s) l h)) := by
            simp only [sliceA, hun, hl, hh]
            have := bounds_std (n := s.size) h1 h2 h3 h4 h5
            rw [this]; rfl
          rw [hx, this]; rfl
        · rename_i e hun
          have hun := zG9 hT hun
          simp only [UKis] at hun
          split
          · rename_i ti hti
            have hti := zI3 hT hti
            intro hb
            simp only [std, Bool.and_eq_true, decide_eq_true_eq] at hb
            obtain ⟨⟨⟨⟨⟨⟨h0, ha⟩, h1⟩, h2⟩, h3⟩, h4⟩, h5⟩ := hb
            cases u <;> first | (simp [isSlD] at h0; done) | skip
            · rename_i els
              have : sliceA P t (.d (.sim els)) (lo.map ev) (hi.map ev) = some (.d (std.sl ti.sz (.sim els) l h)) := by
                have ha : (els.all fun x => decide (x.cells.length = ti.sz)) = true := ha
                simp only [sliceA, hun, hl, hh, hti, Option.bind_some, ha, if_true]
                have := bounds_std (n := els.length) h1 h2 h3 h4 h5
                rw [this]; rfl
              rw [hx, this]; rfl
            · have : sliceA P t (.d .snil) (lo.map ev) (hi.map ev) = some (.d (std.sl ti.sz .snil l h)) := by
                simp only [sliceA, hun, hl, hh, hti, Option.bind_some]
                have := bounds_std (n := 0) h1 h2 h3 h4 h5
                rw [this]; rfl
              rw [hx, this]; rfl
          · trivial
        · trivial
      · rename_i b es off len hx hl hh
        have hl := bounds_ok hl
        have hh := bounds_ok hh
        split
        · rename_i e hun
          have hun := zG9 hT hun
          simp only [UKis] at hun
          split
          · rename_i ti hti
            have hti := zI3 hT hti
            split
            · rename_i hc
              rw [hx]
              have : sliceA P t (.slc b es off len) (lo.map ev) (hi.map ev) = some (.slc b es 0 len) := by
                simp only [sliceA, hun, hl, hh, hti, Option.bind_some, hc.1, if_true, Option.map_none, sliceBoundsA, Nat.le_refl, Option.map_some, hc.2]
                simp
              rw [this]; rfl
            · trivial
          · trivial
        · trivial
      · rename_i b es off len h _ hx hl hh
        have hl := bounds_ok hl
        have hh := bounds_ok hh
        split
        · rename_i e hun
          have hun := zG9 hT hun
          simp only [UKis] at hun
          split
          · rename_i ti hti
            have hti := zI3 hT hti
            split
            · rename_i hc
              intro hb
              simp only [std, Bool.and_eq_true, decide_eq_true_eq] at hb
              obtain ⟨⟨⟨⟨h1, h2⟩, h3⟩, h4⟩, h5⟩ := hb
              have hbd := bounds_std (n := len) h1 h2 h3 h4 h5
              rw [hx]
              have : sliceA P t (.slc b es off len) (lo.map ev) (hi.map ev) = some (.slc b es off (std.ln len none h)) := by
                simp only [sliceA, hun, hl, hh, hti, Option.bind_some, hc, if_true, hbd, Option.map_some]
                simp [loN, std]
              rw [this]; rfl
            · trivial
          · trivial
        · trivial
      · rename_i b es off len l h _ _ hx hl hh
        have hl := bounds_ok hl
        have hh := bounds_ok hh
        split
        · rename_i e hun
          have hun := zG9 hT hun
          simp only [UKis] at hun
          split
          · rename_i ti hti
            have hti := zI3 hT hti
            split
            · rename_i hc
              intro hb
              simp only [std, Bool.and_eq_true, decide_eq_true_eq] at hb
              obtain ⟨⟨⟨⟨h1, h2⟩, h3⟩, h4⟩, h5⟩ := hb
              have hbd := bounds_std (n := len) h1 h2 h3 h4 h5
              rw [hx]
              refine ⟨fun he => ?_, fun he => ?_⟩
              · have he : ¬ ((loN l).toNat = 0 ∨ (loN l).toNat < (hiN len h).toNat) := of_decide_eq_true he
                have : sliceA P t (.slc b es off len) (lo.map ev) (hi.map ev) = some (.d (.sim [])) := by
                  simp only [sliceA, hun, hl, hh, hti, Option.bind_some, hc, if_true, hbd, Option.map_some, if_neg he]
                rw [this]; rfl
              · have he : (loN l).toNat = 0 ∨ (loN l).toNat < (hiN len h).toNat := Decidable.not_not.1 (of_decide_eq_false he)
                have : sliceA P t (.slc b es off len) (lo.map ev) (hi.map ev) = some (.slc b es (off + (loN l).toNat) ((hiN len h).toNat - (loN l).toNat)) := by
                  simp only [sliceA, hun, hl, hh, hti, Option.bind_some, hc, if_true, hbd, Option.map_some, if_pos he]
                rw [this]; rfl
            · trivial
          · trivial
        · trivial
      · trivial
    | some mx => trivial
  | makeSlice t l c =>
    simp only [opT, opB]
    split
    · rename_i e u v hun hu hv
      have hun : UKis _ _ := zG9 hT hun
      simp only [UKis] at hun
      split
      · rename_i ti hti
        have hti := zI3 hT hti
        split
        · rename_i hby
          intro hb
          simp only [std, Bool.and_eq_true, decide_eq_true_eq] at hb
          obtain ⟨⟨⟨⟨h1, h2⟩, h3⟩, h4⟩, h5⟩ := hb
          cases u <;> first | (simp [isIK] at h1; done) | skip
          cases v <;> first | (simp [isIK] at h2; done) | skip
          have h1 := of_decide_eq_true h1
          have h2 := of_decide_eq_true h2
          subst h1 h2
          rw [hun, hu, hv]
          simp only [hti, BM.ofO]
          rw [if_pos ⟨h3, h4, h5, hby⟩]
          rfl
        · trivial
      · trivial
    · trivial
  | fieldAddr s x f =>
    simp only [opT, opB]
    split
    · rename_i r hr
      have hrow := hT _ _ hr
      subst hrow
      split
      · rename_i off ft hun hfl
        obtain ⟨fs, hfs⟩ := un_ok hun
        split
        · rename_i ti hti
          have hti := zI3 hT hti
          have hfo : fieldO P s f = some (off, ft) := by
            simp only [rowOf, fldsOf, hfs] at hfl
            simp only [fieldO, hfs]
            simpa using hfl
          split
          · trivial
          · rename_i hsz
            split
            · rename_i he; rw [he]; simp only [fieldAddrA, hfo, Option.bind_some, hti, hsz, if_false, BM.ofO]; rfl
            · rename_i he; rw [he]; simp only [fieldAddrA, hfo, Option.bind_some, hti, hsz, if_false, BM.ofO]; rfl
            · trivial
        · trivial
      · trivial
    · trivial
  | field s x f =>
    simp only [opT, opB]
    split
    · rename_i r hr
      have hrow := hT _ _ hr
      subst hrow
      split
      · rename_i off ft ts hun hfl hts
        obtain ⟨fs, hfs⟩ := un_ok hun
        have hfo : fieldO P s f = some (off, ft) := by
          simp only [rowOf, fldsOf, hfs] at hfl
          simp only [fieldO, hfs]
          simpa using hfl
        split
        · rename_i ti cs hti he
          have hti := zI3 hT hti
          rw [he]
          refine aloadT_ok (o := aload ti (.agg cs) off) (fun v hv => ?_) rfl
          simp only [fieldA, hfo, Option.bind_some, hti, aIsAgg, if_true, hv, BM.ofO]
        · rename_i ti u hti he
          have hti := zI3 hT hti
          rw [he]
          by_cases hu : aIsAgg (.d u) = true
          · refine aloadT_ok (o := aload ti (.d u) off) (fun v hv => ?_) rfl
            simp only [fieldA, hfo, Option.bind_some, hti, hu, if_true, hv, BM.ofO]
          · have : ∀ n, std.isAgg u n = false := fun n => by
              cases u <;> first | rfl | exact absurd rfl hu
            unfold aloadT
            simp only
            split
            · split
              · intro h; rw [this] at h; cases h
              · split
                · intro h; rw [this] at h; cases h
                · trivial
            · split
              · split
                · intro h; rw [this] at h; cases h
                · trivial
              · rename_i hx; exact absurd trivial hx
        · trivial
      · trivial
    · trivial
  | indexAddr t x i =>
    simp only [opT, opB]
    split
    · rename_i e hun
      have hun := zG9 hT hun
      simp only [UKis] at hun
      split
      · rename_i ti hti
        have hti := zI3 hT hti
        split
        · rename_i u j hx hi
          intro hb
          simp only [std, Bool.and_eq_true, decide_eq_true_eq] at hb
          obtain ⟨⟨⟨h0, h1⟩, h2⟩, h3⟩ := hb
          cases j <;> first | (simp [isIntD] at h0; done) | skip
          cases u <;> first | (exfalso; simp only [lstD, asInt, List.length_nil] at h1 h2; omega) | skip
          rw [hx, hi]
          simp only [indexAddrA, hun, hti, Option.bind_some]
          rw [if_pos ⟨h1, h2, h3⟩]
          rfl
        · rename_i b es off len j hx hi
          split
          · rename_i hes
            split
            · rename_i n hlit
              split
              · rename_i hn
                split at hlit
                · cases hlit
                unfold litOf at hlit
                split at hlit
                · rename_i k m
                  cases hlit
                  have hc := hev k (.ofNat n)
                  rw [hx, hc]
                  simp only [indexAddrA, hun, hti, Option.bind_some]
                  rw [if_pos ⟨Int.natCast_nonneg n, by simpa using hn, hes⟩]
                  rfl
                · cases hlit
              · trivial
            · intro hb
              simp only [std, Bool.and_eq_true, decide_eq_true_eq] at hb
              obtain ⟨⟨h0, h1⟩, h2⟩ := hb
              cases j <;> first | (simp [isIntD] at h0; done) | skip
              rw [hx, hi]
              simp only [indexAddrA, hun, hti, Option.bind_some]
              rw [if_pos ⟨h1, h2, hes⟩]
              rfl
          · trivial
        · trivial
      · trivial
    · rename_i n e hun
      have hun := zG9 hT hun
      simp only [UKis] at hun
      split
      · rename_i ti b es k fo j hti hx hlit
        have hti := zI3 hT hti
        split
        · rename_i hn
          unfold litOf at hlit
          split at hlit
          · rename_i kk m
            cases hlit
            have hc := hev kk (.ofNat j)
            rw [hx, hc]
            simp only [indexAddrA, hun, hti, Option.bind_some]
            rw [if_pos ⟨Int.natCast_nonneg j, by simpa using hn⟩]
            rfl
          · cases hlit
        · trivial
      · rename_i ti els k fo j hti hx hlit
        have hti := zI3 hT hti
        split
        · rename_i hn
          unfold litOf at hlit
          split at hlit
          · rename_i kk m
            cases hlit
            have hc := hev kk (.ofNat j)
            rw [hx, hc]
            simp only [indexAddrA, hun, hti, Option.bind_some]
            rw [if_pos ⟨Int.natCast_nonneg j, by simpa using hn⟩]
            rfl
          · cases hlit
        · trivial
      · trivial
    · trivial
  | index t x i =>
    simp only [opT, opB]
    split
    · rename_i u j hun hx hi
      have hun := zG9 hT hun
      simp only [UKis] at hun
      intro hb
      simp only [std, Bool.and_eq_true, decide_eq_true_eq] at hb
      obtain ⟨⟨⟨h0, h1⟩, h2⟩, h3⟩ := hb
      cases u <;> first | (simp [isStrD] at h0; done) | skip
      cases j <;> first | (simp [isIntD] at h1; done) | skip
      rw [hun, hx, hi]
      simp only
      rw [if_pos ⟨h2, h3⟩]; rfl
    · trivial
  | extract x i =>
    simp only [opT, opB]
    split
    · rename_i vs he; rw [he]; simp only
      split
      · rename_i v hv; rw [hv]; rfl
      · trivial
    · rename_i u he; rw [he]
      intro hb
      have hb : i < (tupD u).length := of_decide_eq_true hb
      cases u <;> first | (simp [tupD] at hb; done) | skip
      rename_i vs _
      have hb : i < vs.length := hb
      simp only [List.getElem?_eq_getElem hb, BM.ofO]
      show just nid (.d vs[i]) = just nid (.d ((tupD (.tup vs)).getD i .inil))
      simp [tupD, List.getD, hb]
    · trivial
  | call cl =>
    obtain ⟨callee, args, ts⟩ := cl
    cases callee with
    | value fv =>
      simp only [opT, opB]
      split <;> first | (rename_i h; rw [h]; rfl) | trivial
    | invoke r m => trivial
    | builtin b =>
      cases b with
      | append =>
        simp only [opT, opB]
        split
        · rename_i hsz
          split
          · rename_i e e' h1 h2
            have h1 : UKis _ _ := zG9 hT h1
            have h2 := zG9 hT h2
            simp only [UKis] at h1 h2
            rw [h1, h2]
            simp only
            split
            · rename_i ti hti
              rw [zI3 hT hti]
              simp only [BM.ofO]
              split
              · rename_i hc
                exact app_ok hc
              · trivial
            · trivial
          · trivial
        · trivial
      | len =>
        simp only [opT, opB]
        split
        · rename_i hsz
          split
          · rename_i u h1 h2
            have h1 : UKis _ _ := zG9 hT h1
            simp only [UKis] at h1
            intro hb
            cases u <;> first | (simp [std, isStrD] at hb; done) | skip
            rw [h2]; simp only [lenA, h1, BM.ofO]; rfl
          · rename_i u h1 h2
            have h1 : UKis _ _ := zG9 hT h1
            simp only [UKis] at h1
            intro hb
            cases u <;> first | (simp [std, isSlD] at hb; done) | skip
            · rw [h2]; simp only [lenA, h1, BM.ofO]; rfl
            · rw [h2]; simp only [lenA, h1, BM.ofO]; rfl
          · rename_i h1 h2
            have h1 : UKis _ _ := zG9 hT h1
            simp only [UKis] at h1
            rw [h2]; simp only [lenA, h1, BM.ofO]; rfl
          · rename_i h1 h2
            have h1 : UKis _ _ := zG9 hT h1
            simp only [UKis] at h1
            rw [h2]; simp only [lenA, h1, BM.ofO]; rfl
          · trivial
        · trivial
      | _ => trivial
  | makeInterface t x =>
    simp only [opT, opB]
    have key : ∀ d, P.underlying t = some d → (∀ m, d ≠ .interface m) → TM.le nid (match ev x with | .d v => .val (.d (.iface t v)) | v => .val (.iface t v)) (match P.underlying t with | some (.interface _) => .fail | some _ => (match ev x with | .d v => just nid (.d (.iface t v)) | v => just nid (.iface t v)) | none => .fail) := by
      intro d hd hn
      rw [hd]
      cases d <;> first | exact absurd rfl (hn _) | skip
      all_goals (simp only; cases ev x <;> rfl)
    cases hu : rowUn T t with
    | other => trivial
    | int k => have h1 := zG9 hT hu; simp only [UKis] at h1; exact key _ h1 (fun _ h => by cases h)
    | str => have h1 := zG9 hT hu; simp only [UKis] at h1; exact key _ h1 (fun _ h => by cases h)
    | bool => have h1 := zG9 hT hu; simp only [UKis] at h1; exact key _ h1 (fun _ h => by cases h)
    | slice e => have h1 := zG9 hT hu; simp only [UKis] at h1; exact key _ h1 (fun _ h => by cases h)
    | arr n e => have h1 := zG9 hT hu; simp only [UKis] at h1; exact key _ h1 (fun _ h => by cases h)
    | struct => have h1 := zG9 hT hu; simp only [UKis] at h1; obtain ⟨fs, h1⟩ := h1; exact key _ h1 (fun _ h => by cases h)
  | panic x =>
    simp only [opT, opB]
    split
    · rename_i t v hv; rw [hv]; rfl
    · rename_i t cs hv
      rw [hv]
      simp only
      split
      · rename_i ds hd; rw [hd]; rfl
      · trivial
    · trivial
  | _ => trivial
end
end Go.Proofs.Am
