/- Regions whose order is drawn: the order of the text serves all. -/
import Derived.Test.YtmjkaekhjmlnbaaGreatDoorAmWalk
set_option linter.unusedVariables false
set_option linter.unusedSimpArgs false
namespace Go.Proofs.Am
open Go Go.RowKit

/-- What an operation read and wrote among the local blocks. -/
structure TE where
  reads : List Nat
  writes : List Nat

inductive RunB (E : CallE) : BM → (Nat → Option LB) → List Nat → OpR → Prop where
  | pure (a : OpR) (lh : Nat → Option LB) : RunB E (.pure a) lh [] a
  | get (b : Nat) (k : LB → BM) (lh : Nat → Option LB) (x : LB) (rs : List Nat) (a : OpR) (h : lh b = some x) (t : RunB E (k x) lh rs a) : RunB E (.get b k) lh (b :: rs) a
  | call (nid : Nat) (g : FuncId) (args : List AV) (lh : Nat → Option LB) (r : OpR) (rs : List Nat) (h : E.ok lh nid g args rs r) : RunB E (.call nid g args) lh rs r

/-- The walk of one operation, that notes what it reads. -/
def wpBT (E : CallE) : BM → (Nat → Option LB) → (OpR → List Nat → Prop) → Prop
  | .pure a, _, K => K a []
  | .get b k, lh, K => match lh b with | some x => wpBT E (k x) lh (fun a rs => K a (b :: rs)) | none => False
  | .call nid g args, lh, K => ∃ r rs, E.ok lh nid g args rs r ∧ K r rs
  | _, _, _ => False

theorem wpBT_run {E : CallE} : ∀ (m : BM) (lh : Nat → Option LB) (K : OpR → List Nat → Prop), wpBT E m lh K → ∃ a rs, RunB E m lh rs a ∧ K a rs
  | .pure a, lh, K, h => ⟨a, [], .pure a lh, h⟩
  | .get b k, lh, K, h => by
    simp only [wpBT] at h
    cases hb : lh b with
    | none => simp [hb] at h
    | some x =>
      simp only [hb] at h
      obtain ⟨a, rs, h1, h2⟩ := wpBT_run (k x) lh _ h
      exact ⟨a, b :: rs, .get b k lh x rs a hb h1, h2⟩
  | .call nid g args, lh, K, h => by
    obtain ⟨r, rs, h0, h⟩ := h
    exact ⟨r, rs, .call nid g args lh r rs h0, h⟩
  | .pan _ _, _, _, h => h.elim
  | .fail, _, _, h => h.elim

theorem RunB.wp {E : CallE} {m : BM} {lh : Nat → Option LB} {rs : List Nat} {a : OpR} (h : RunB E m lh rs a) {tx : Bool} {K : Res → Prop} {KP : DV → Res → Prop} (hK : K (a.res lh)) : wpB E tx m lh K KP := by
  induction h with
  | pure a lh => exact hK
  | get b k lh x rs a h t ih => simp only [wpB, h]; exact ih hK
  | call nid g args lh r rs h => exact .inl ⟨r, rs, h, hK⟩

theorem frz_congr {lh lh' : Nat → Option LB} : ∀ (n : Nat) (v : AV), (∀ b ∈ reach lh n v, lh' b = lh b) → frz lh' n v = frz lh n v ∧ reach lh' n v = reach lh n v := by
  intro n
  induction n with
  | zero => intro v _; cases v <;> exact ⟨rfl, rfl⟩
  | succ n ih =>
    have many : ∀ (l : List AV), (∀ b ∈ l.flatMap (reach lh n), lh' b = lh b) → l.mapM (frz lh' n) = l.mapM (frz lh n) ∧ l.flatMap (reach lh' n) = l.flatMap (reach lh n) := fun l => by
      induction l with
      | nil => intro _; exact ⟨rfl, rfl⟩
      | cons x l ihl =>
        intro h
        simp only [List.flatMap_cons, List.mem_append] at h
        obtain ⟨h1, h2⟩ := ih x (fun b hb => h b (.inl hb))
        obtain ⟨h3, h4⟩ := ihl (fun b hb => h b (.inr hb))
        exact ⟨by simp only [List.mapM_cons, h1, h3], by simp only [List.flatMap_cons, h2, h4]⟩
    have part : ∀ (l : List AV) (off len : Nat), (∀ b ∈ l.flatMap (reach lh n), lh' b = lh b) → ((l.drop off).take len).mapM (frz lh' n) = ((l.drop off).take len).mapM (frz lh n) := fun l off len h =>
      (many _ (fun b hb => h b (by
        obtain ⟨x, hx, hb⟩ := List.mem_flatMap.1 hb
        exact List.mem_flatMap.2 ⟨x, List.mem_of_mem_drop (List.mem_of_mem_take hx), hb⟩))).1
    intro v h
    cases v with
    | d v => exact ⟨rfl, rfl⟩
    | undef => exact ⟨rfl, rfl⟩
    | zc => exact ⟨rfl, rfl⟩
    | slc b es off len =>
      have hb := h b (by simp [reach])
      simp only [frz, reach, hb]
      cases hk : lh b with
      | none => exact ⟨rfl, rfl⟩
      | some k =>
        simp only [reach, hk] at h
        have h' := fun b hb => h b (List.mem_cons_of_mem _ hb)
        simp only
        exact ⟨by rw [part k.els off len h'], by rw [(many k.els h').2]⟩
    | loc b es i fo =>
      have hb := h b (by simp [reach])
      simp only [frz, reach, hb]
      cases hk : lh b with
      | none => exact ⟨rfl, rfl⟩
      | some k =>
        simp only [reach, hk] at h
        have h' := fun b hb => h b (List.mem_cons_of_mem _ hb)
        simp only
        exact ⟨by rw [(many k.els h').1], by rw [(many k.els h').2]⟩
    | agg cs => obtain ⟨h1, h2⟩ := many cs h; exact ⟨by simp only [frz, h1], by simp only [reach, h2]⟩
    | tup cs => obtain ⟨h1, h2⟩ := many cs h; exact ⟨by simp only [frz, h1], by simp only [reach, h2]⟩
    | fn f cs => obtain ⟨h1, h2⟩ := many cs h; exact ⟨by simp only [frz, h1], by simp only [reach, h2]⟩
    | iface t v => obtain ⟨h1, h2⟩ := ih v h; exact ⟨by simp only [frz, h1], by simp only [reach, h2]⟩

theorem frz_all {lh lh' : Nat → Option LB} (n : Nat) : ∀ (l : List AV), (∀ b ∈ l.flatMap (reach lh n), lh' b = lh b) → l.mapM (frz lh' n) = l.mapM (frz lh n) ∧ l.flatMap (reach lh' n) = l.flatMap (reach lh n)
  | [], _ => ⟨rfl, rfl⟩
  | x :: l, h => by
    simp only [List.flatMap_cons, List.mem_append] at h
    obtain ⟨h1, h2⟩ := frz_congr n x (fun b hb => h b (.inl hb))
    obtain ⟨h3, h4⟩ := frz_all n l (fun b hb => h b (.inr hb))
    exact ⟨by simp only [List.mapM_cons, h1, h3], by simp only [List.flatMap_cons, h2, h4]⟩

theorem RunB.frame {P : Program} {gs : List Nat} {m : BM} {lh : Nat → Option LB} {rs : List Nat} {a : OpR} (h : RunB (calls P gs) m lh rs a) {lh' : Nat → Option LB}
    (hr : ∀ b ∈ rs, lh' b = lh b) : RunB (calls P gs) m lh' rs a := by
  induction h with
  | pure a lh => exact .pure a lh'
  | get b k lh x rs a h t ih => exact .get b k lh' x rs a (by rw [hr b (by simp)]; exact h) (ih (fun b hb => hr b (by simp [hb])))
  | call nid g args lh r rs h =>
    refine .call nid g args lh' r rs ?_
    obtain ⟨ds, p, h1, h2, h3, h4⟩ := h
    subst h3
    obtain ⟨e1, e2⟩ := frz_all 8 args hr
    refine ⟨ds, p, by rw [e1]; exact h1, h2, e2.symm, ?_⟩
    rcases h4 with h4 | h4
    · exact .inl h4
    · refine .inr ?_
      rw [h4]
      have : deaden lh' (args.flatMap (reach lh 8)) = deaden lh (args.flatMap (reach lh 8)) := List.map_congr_left fun b hb => by rw [hr b hb]
      rw [this]

theorem map_ev {ev ev' : Operand → AV} (l : List Operand) (h : ∀ x ∈ l, ev x = ev' x) : l.map ev = l.map ev' := List.map_congr_left h

theorem map_parts {ev ev' : Operand → AV} (l : List (Nat × Operand)) (h : ∀ p ∈ l, ev p.2 = ev' p.2) : (l.map fun (i, x) => (i, ev x)) = (l.map fun (i, x) => (i, ev' x)) :=
  List.map_congr_left fun p hp => by simp only [h p hp]

theorem all_parts {ev ev' : Operand → AV} (l : List (Nat × Operand)) (h : ∀ p ∈ l, ev p.2 = ev' p.2) : (l.all fun (_, x) => (ev x).cells.all avOne) = (l.all fun (_, x) => (ev' x).cells.all avOne) := by
  induction l with
  | nil => rfl
  | cons p l ih => simp only [List.all_cons, h p (by simp), ih (fun q hq => h q (by simp [hq]))]

theorem opt_ev {ev ev' : Operand → AV} (x : Option Operand) (h : ∀ y ∈ x.toArray, ev y = ev' y) : x.map ev = x.map ev' := by
  cases x with
  | none => rfl
  | some y => simp only [Option.map_some, h y (by simp)]

/-- What an operation's abstract form hangs on. -/
theorem opB_congr (P : Program) (nid : Nat) {ev ev' : Operand → AV} (o : Op) (h : ∀ x ∈ o.operands, ev x = ev' x) : opB P nid ev o = opB P nid ev' o := by
  cases o with
  | build t parts =>
    have hp : ∀ p ∈ parts.toList, ev p.2 = ev' p.2 := fun p hp => h p.2 (by simp only [Op.operands]; simpa using ⟨p.1, by simpa using hp⟩)
    simp only [opB, map_parts _ hp, all_parts _ hp]
  | buildSlice t len parts =>
    have hp : ∀ p ∈ parts.toList, ev p.2 = ev' p.2 := fun p hp => h p.2 (by simp only [Op.operands]; simpa using ⟨p.1, by simpa using hp⟩)
    simp only [opB, map_parts _ hp, all_parts _ hp]
  | makeFunc fn first caps =>
    have hp : ∀ x ∈ caps.toList, ev x = ev' x := fun x hx => h x (by simp only [Op.operands]; simp; exact .inr (by simpa using hx))
    cases fn <;> simp only [opB, map_ev _ hp]
  | slice t x lo hi mx =>
    have h1 := h x (by simp [Op.operands])
    have h2 := opt_ev (ev := ev) (ev' := ev') lo (fun y hy => h y (by simp only [Op.operands, Array.mem_append]; exact .inl (.inl (.inr hy))))
    have h3 := opt_ev (ev := ev) (ev' := ev') hi (fun y hy => h y (by simp only [Op.operands, Array.mem_append]; exact .inl (.inr hy)))
    cases mx with
    | none => simp only [opB, h1, h2, h3]
    | some m =>
      have h4 := h m (by simp [Op.operands])
      simp only [opB, h1, h2, h3, h4]
  | call cl =>
    obtain ⟨callee, args, ts⟩ := cl
    have ha : ∀ x ∈ args.toList, ev x = ev' x := fun x hx => h x (by simp only [Op.operands, Call.operands, Array.mem_append]; exact .inr (by simpa using hx))
    have hg : ∀ i, i < args.size → ev (args.getD i (.tmp 0)) = ev' (args.getD i (.tmp 0)) := fun i hi => ha _ (by simp [Array.getD, hi])
    cases callee with
    | value fv =>
      have hv := h fv (by simp [Op.operands, Call.operands])
      simp only [opB, hv, map_ev _ ha]
    | invoke r m => rfl
    | builtin b =>
      cases b with
      | append =>
        simp only [opB]
        split
        · rename_i hsz
          rw [hg 0 (by omega), hg 1 (by omega)]
        · rfl
      | len =>
        simp only [opB]
        split
        · rename_i hsz
          rw [hg 0 (by omega)]
        · rfl
      | min =>
        simp only [opB]
        split
        · rename_i hsz
          rw [hg 0 (by omega), hg 1 (by omega)]
        · rfl
      | max =>
        simp only [opB]
        split
        · rename_i hsz
          rw [hg 0 (by omega), hg 1 (by omega)]
        · rfl
      | cap =>
        simp only [opB]
        split
        · rename_i hsz
          rw [hg 0 (by omega)]
        · rfl
      | copy =>
        simp only [opB]
        split
        · rename_i hsz
          rw [hg 0 (by omega), hg 1 (by omega)]
        · rfl
      | _ => rfl
  | move x => have h1 := h x (by simp [Op.operands]); simp only [opB, h1]
  | assign x => have h1 := h x (by simp [Op.operands]); simp only [opB, h1]
  | pick a b c => have h1 := h a (by simp [Op.operands]); have h2 := h b (by simp [Op.operands]); have h3 := h c (by simp [Op.operands]); simp only [opB, h1, h2, h3]
  | box t x => have h1 := h x (by simp [Op.operands]); simp only [opB, h1]
  | load t x => have h1 := h x (by simp [Op.operands]); simp only [opB, h1]
  | store t x y => have h1 := h x (by simp [Op.operands]); have h2 := h y (by simp [Op.operands]); simp only [opB, h1, h2]
  | nilCheck x => have h1 := h x (by simp [Op.operands]); simp only [opB, h1]
  | binOp op t x y t' =>
    have h1 := h x (by simp [Op.operands])
    have h2 := h y (by simp [Op.operands])
    cases y <;> simp only [opB, h1, h2]
  | unOp op t x => have h1 := h x (by simp [Op.operands]); simp only [opB, h1]
  | convert s t x => have h1 := h x (by simp [Op.operands]); simp only [opB, h1]
  | makeInterface t x => have h1 := h x (by simp [Op.operands]); simp only [opB, h1]
  | makeSlice t x y => have h1 := h x (by simp [Op.operands]); have h2 := h y (by simp [Op.operands]); simp only [opB, h1, h2]
  | fieldAddr s x f => have h1 := h x (by simp [Op.operands]); simp only [opB, h1]
  | field s x f => have h1 := h x (by simp [Op.operands]); simp only [opB, h1]
  | indexAddr t x i => have h1 := h x (by simp [Op.operands]); have h2 := h i (by simp [Op.operands]); simp only [opB, h1, h2]
  | index t x i => have h1 := h x (by simp [Op.operands]); have h2 := h i (by simp [Op.operands]); simp only [opB, h1, h2]
  | extract x i => have h1 := h x (by simp [Op.operands]); simp only [opB, h1]
  | typeAssert x s t ok => have h1 := h x (by simp [Op.operands]); simp only [opB, h1]
  | panic x => have h1 := h x (by simp [Op.operands]); simp only [opB, h1]
  | _ => rfl

theorem applyChg_notin : ∀ (chg : List (Nat × Option LB)) (lh : Nat → Option LB) (b : Nat), b ∉ chg.map (·.1) → applyChg lh chg b = lh b
  | [], _, _, _ => rfl
  | p :: r, lh, b, h => by
    simp only [List.map_cons, List.mem_cons, not_or] at h
    have := applyChg_notin r (upd lh p.1 p.2) b h.2
    simp only [applyChg, List.foldl_cons] at this ⊢
    rw [this, upd_ne _ _ _ _ h.1]

theorem applyChg_in : ∀ (chg : List (Nat × Option LB)) (lh lh' : Nat → Option LB) (b : Nat), b ∈ chg.map (·.1) → applyChg lh chg b = applyChg lh' chg b
  | [], _, _, _, h => by simp at h
  | p :: r, lh, lh', b, h => by
    simp only [applyChg, List.foldl_cons]
    by_cases hr : b ∈ r.map (·.1)
    · exact applyChg_in r (upd lh p.1 p.2) (upd lh' p.1 p.2) b hr
    · have hb : b = p.1 := by simp only [List.map_cons, List.mem_cons] at h; rcases h with h | h; exact h; exact absurd h hr
      have e1 := applyChg_notin r (upd lh p.1 p.2) b hr
      have e2 := applyChg_notin r (upd lh' p.1 p.2) b hr
      simp only [applyChg] at e1 e2
      rw [e1, e2, hb, upd_same, upd_same]

theorem applyChg_comm (lh : Nat → Option LB) (c1 c2 : List (Nat × Option LB)) (h : ∀ b ∈ c1.map (·.1), b ∉ c2.map (·.1)) : applyChg (applyChg lh c1) c2 = applyChg (applyChg lh c2) c1 := by
  funext b
  by_cases h1 : b ∈ c1.map (·.1)
  · rw [applyChg_notin c2 _ b (h b h1)]
    exact applyChg_in c1 _ _ b h1
  · rw [applyChg_notin c1 _ b h1]
    by_cases h2 : b ∈ c2.map (·.1)
    · exact applyChg_in c2 _ _ b h2
    · rw [applyChg_notin c2 _ b h2, applyChg_notin c2 _ b h2, applyChg_notin c1 _ b h1]

/-- One operation of a region, its number giving the name of the block that it makes. -/
inductive StepD (E : CallE) (P : Program) (ops : Array Oper) (n0 : Nat) (pd : Option (Nat × DV)) (i : Nat) (o : Oper) (σ : St) : St → TE → Prop where
  | run (r : OpR) (rs : List Nat) (hg : guardA ops σ.env o = some true) (h : RunB E (opB P (n0 + i) σ.eval o.op) σ.lh rs r) (hn : r.nid ≤ n0 + i + 1) (hi : ∀ d, pd ≠ some (i, d)) :
      StepD E P ops n0 pd i o σ { env := putE σ.env o.dst r.v, lh := applyChg σ.lh r.chg, nid := σ.nid, dfs := σ.dfs } ⟨rs, r.chg.map (·.1)⟩
  | skip (hg : guardA ops σ.env o = some false) (hi : ∀ d, pd ≠ some (i, d)) : StepD E P ops n0 pd i o σ { σ with env := putE σ.env o.dst (.d (.tup [])) } ⟨[], []⟩
  | pan (d : DV) (f : FuncId) (args : List AV) (rs : List Nat) (hpd : pd = some (i, d)) (hg : guardA ops σ.env o = some true) (h : opB P (n0 + i) σ.eval o.op = .call (n0 + i) f args) (hp : E.panD σ.lh f args rs d) :
      StepD E P ops n0 pd i o σ { σ with env := putE σ.env o.dst .undef } ⟨rs, []⟩

/-- Two operations have nothing to do with each other. -/
def Indep (x y : TE) : Prop :=
  (∀ b ∈ y.writes, b ∉ x.reads ∧ b ∉ x.writes) ∧ (∀ b ∈ x.writes, b ∉ y.reads)

theorem eval_putE (σ : St) (dst : Option Tmp) (v : AV) (lh : Nat → Option LB) (nid : Nat) (dfs : List (FuncId × List AV)) (x : Operand) (h : ∀ d, dst = some d → x ≠ .tmp d) : St.eval ⟨putE σ.env dst v, lh, nid, dfs⟩ x = σ.eval x := by
  cases x with
  | tmp t =>
    cases dst with
    | none => rfl
    | some d =>
      simp only [St.eval, putE]
      exact upd_ne _ _ _ _ (fun e => h d rfl (by rw [e]))
  | _ => rfl

theorem guardA_putE {ops : Array Oper} {o : Oper} (env : Nat → AV) (dst : Option Tmp) (v : AV) (h : ∀ d, dst = some d → d ∉ o.looksAt ops) : guardA ops (putE env dst v) o = guardA ops env o := by
  cases dst with
  | none => rfl
  | some d =>
    unfold guardA
    cases hg : o.guard with
    | none => rfl
    | some p =>
      obtain ⟨j, want⟩ := p
      simp only
      cases hd : (ops[j]?).bind (·.dst) with
      | none => rfl
      | some d' =>
        simp only [putE]
        have hne : d' ≠ d := fun e => by
          apply h d rfl
          simp only [Oper.looksAt, hg, hd, List.mem_append]
          right; simp [e]
        rw [upd_ne _ _ _ _ hne]

theorem putE_comm (env : Nat → AV) (x y : Option Tmp) (v u : AV) (h : ∀ d, x = some d → y ≠ some d) : putE (putE env x v) y u = putE (putE env y u) x v := by
  cases x with
  | none => rfl
  | some d =>
    cases y with
    | none => rfl
    | some e =>
      have hne : d ≠ e := fun q => h d rfl (by rw [q])
      funext j
      simp only [putE, upd]
      by_cases h1 : j = e <;> by_cases h2 : j = d <;> simp_all

section
variable {P : Program} {gs : List Nat} {ops : Array Oper} {n0 : Nat} {pd : Option (Nat × DV)}

theorem StepD.parts {E : CallE} {i : Nat} {o : Oper} {σ σ' : St} {t : TE} (h : StepD E P ops n0 pd i o σ σ' t) : ∃ v chg, σ' = { env := putE σ.env o.dst v, lh := applyChg σ.lh chg, nid := σ.nid, dfs := σ.dfs } ∧ t.writes = chg.map (·.1) ∧
    (∀ τ : St, (∀ x ∈ o.op.operands, τ.eval x = σ.eval x) → guardA ops τ.env o = guardA ops σ.env o → (∀ b ∈ t.reads, τ.lh b = σ.lh b) → E = calls P gs →
      StepD E P ops n0 pd i o τ { env := putE τ.env o.dst v, lh := applyChg τ.lh chg, nid := τ.nid, dfs := τ.dfs } t) := by
  cases h with
  | run r rs hg h hn hi =>
    refine ⟨r.v, r.chg, rfl, rfl, fun τ h1 h2 h3 hE => ?_⟩
    subst hE
    refine .run r rs (h2.trans hg) ?_ hn hi
    rw [opB_congr P (n0 + i) o.op h1]
    exact h.frame h3
  | skip hg hi =>
    refine ⟨.d (.tup []), [], rfl, rfl, fun τ h1 h2 h3 hE => ?_⟩
    exact .skip (h2.trans hg) hi
  | pan d f args rs hpd hg h hp =>
    refine ⟨.undef, [], rfl, rfl, fun τ h1 h2 h3 hE => ?_⟩
    subst hE
    obtain ⟨ds, p1, p2, p3, rfl⟩ := hp
    obtain ⟨e1, e2⟩ := frz_all (lh' := τ.lh) 8 args h3
    exact .pan d f args _ hpd (h2.trans hg) (by rw [opB_congr P (n0 + i) o.op h1]; exact h) ⟨ds, by rw [e1]; exact p1, p2, p3, e2.symm⟩

/-- They may change places. -/
theorem StepD.swap {i j : Nat} {oi oj : Oper} {σ σ1 σ2 : St} {ti tj : TE} (hj : StepD (calls P gs) P ops n0 pd j oj σ σ1 tj) (hi : StepD (calls P gs) P ops n0 pd i oi σ1 σ2 ti) (hap : oi.apart ops oj = true) (hI : Indep ti tj) :
    ∃ σ1', StepD (calls P gs) P ops n0 pd i oi σ σ1' ti ∧ StepD (calls P gs) P ops n0 pd j oj σ1' σ2 tj := by
  obtain ⟨a1, a2, a3⟩ := Oper.apart_spec hap
  obtain ⟨vj, cj, rfl, wj, mj⟩ := hj.parts (gs := gs)
  obtain ⟨vi, ci, rfl, wi, mi⟩ := hi.parts (gs := gs)
  obtain ⟨i1, i2⟩ := hI
  have look : ∀ (o : Oper) (x : Operand) (d : Tmp), x ∈ o.op.operands → x = .tmp d → d ∈ o.looksAt ops := fun o x d hx e => by
    subst e
    exact List.mem_append_left _ (List.mem_filterMap.2 ⟨.tmp d, by simpa using hx, rfl⟩)
  have step1 := mi σ (fun x hx => (eval_putE σ oj.dst vj _ _ _ x (fun d hd e => a3 d hd (look oi x d hx e))).symm) (guardA_putE σ.env oj.dst vj a3).symm
    (fun b hb => (applyChg_notin cj σ.lh b (fun hw => (i1 b (by rw [wj]; exact hw)).1 hb)).symm) rfl
  refine ⟨_, step1, ?_⟩
  have step2 := mj ⟨putE σ.env oi.dst vi, applyChg σ.lh ci, σ.nid, σ.dfs⟩ (fun x hx => eval_putE σ oi.dst vi _ _ _ x (fun d hd e => a1 d hd (look oj x d hx e))) (guardA_putE σ.env oi.dst vi a1)
    (fun b hb => applyChg_notin ci σ.lh b (fun hw => i2 b (by rw [wi]; exact hw) hb)) rfl
  have e1 : putE (putE σ.env oi.dst vi) oj.dst vj = putE (putE σ.env oj.dst vj) oi.dst vi := putE_comm _ _ _ _ _ a2
  have e2 : applyChg (applyChg σ.lh ci) cj = applyChg (applyChg σ.lh cj) ci := (applyChg_comm σ.lh cj ci (fun b hb => by
    rw [← wj] at hb; rw [← wi]; exact (i1 b hb).2)).symm
  simp only [e1, e2] at step2
  exact step2
end
end Go.Proofs.Am
