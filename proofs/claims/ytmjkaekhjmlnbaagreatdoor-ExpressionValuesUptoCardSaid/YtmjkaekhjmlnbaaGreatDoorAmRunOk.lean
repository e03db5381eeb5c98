/- What is run holds of the model. -/
import Derived.Test.YtmjkaekhjmlnbaaGreatDoorAmRun
set_option linter.unusedVariables false
set_option linter.unusedSimpArgs false
namespace Go.Proofs.Am
open Go Go.RowKit

def Out.sat (o : Out) (Q : Exit → St → Prop) (QP : DV → St → Prop) : Prop :=
  match o with
  | .fin e σ => Q e σ
  | .pan d σ => QP d σ
  | .stuck => False

def COut.sat (o : COut) (K : Res → Prop) (KP : DV → Res → Prop) : Prop :=
  match o with
  | .ok r => K r
  | .pan d r => KP d r
  | .stuck => False

def OutS.sat (o : OutS) (Q : Exit → St → Option DV → Prop) : Prop :=
  match o with
  | .fin e σ pn => Q e σ pn
  | .stuck => False

structure RunsOk (P : Program) (gs : List Nat) (R : Runs) : Prop where
  call : ∀ lh nid f args r, R.call lh nid f args = .ok r → (∃ r' rs, (calls P gs).ok lh nid f args rs r' ∧ r = r'.res lh) ∨ (calls P gs).okT lh nid f args r
  pan : ∀ lh nid f args d r, R.call lh nid f args = .pan d r → (calls P gs).pan lh nid f args d r
  pure : ∀ f ds p, R.pure f ds = some p → PureCall P gs f ds p
  panP : ∀ f ds d, R.pan f ds = some d → PanicCall P gs f ds d

section
variable {P : Program} {gs : List Nat} {R : Runs}

theorem opRun_ok (hR : RunsOk P gs R) {K : Res → Prop} {KP : DV → Res → Prop} : ∀ (m : BM) (lh : Nat → Option LB), (opRun R m lh).sat K KP → wpB (calls P gs) true m lh K KP
  | .pure r, lh, h => h
  | .get b k, lh, h => by
    simp only [opRun] at h
    simp only [wpB]
    cases hb : lh b with
    | none => simp [hb, COut.sat] at h
    | some x => simp only [hb] at h; exact opRun_ok hR (k x) lh h
  | .call nid f args, lh, h => by
    simp only [opRun] at h
    simp only [wpB]
    cases hc : R.call lh nid f args with
    | ok r =>
      rw [hc] at h
      rcases hR.call _ _ _ _ _ hc with ⟨r', rs, h1, rfl⟩ | h1
      · exact .inl ⟨r', rs, h1, h⟩
      · exact .inr (.inl ⟨trivial, r, h1, h⟩)
    | pan d r => rw [hc] at h; exact .inr (.inr (.inl ⟨trivial, d, r, hR.pan _ _ _ _ _ _ hc, h⟩))
    | stuck => rw [hc] at h; exact h.elim
  | .pan nid d, lh, h => h
  | .fail, lh, h => h.elim

theorem pureRes_ok {lh : Nat → Option LB} {nid : Nat} {f : FuncId} {args : List AV} {ds : List DV} {p : Ret} (hf : args.mapM (frz lh 8) = some ds) (hp : PureCall P gs f ds p) :
    (calls P gs).ok lh nid f args (args.flatMap (reach lh 8)) (pureRes lh nid args p) := by
  refine ⟨ds, p, hf, hp, rfl, ?_⟩
  unfold pureRes
  split
  · rename_i h
    refine .inl ⟨?_, rfl⟩
    simp only [Bool.or_eq_true] at h
    rcases h with h | h
    · exact .inl h
    · right
      unfold scalarRet at h
      split at h
      · exact ⟨_, rfl, h⟩
      · cases h
  · exact .inr rfl

theorem opRunD_ok (hR : RunsOk P gs R) {K : OpR → List Nat → Prop} : ∀ (m : BM) (lh : Nat → Option LB) (r : OpR) (rs : List Nat), opRunD R m lh = some (r, rs) → K r rs → wpBT (calls P gs) m lh K
  | .pure r, lh, r', rs, h, hK => by simp only [opRunD, Option.some.injEq, Prod.mk.injEq] at h; obtain ⟨rfl, rfl⟩ := h; exact hK
  | .get b k, lh, r', rs, h, hK => by
    simp only [opRunD] at h
    simp only [wpBT]
    cases hb : lh b with
    | none => simp [hb] at h
    | some x =>
      simp only [hb, Option.map_eq_some_iff] at h
      obtain ⟨⟨r1, rs1⟩, h1, h2⟩ := h
      simp only [Prod.mk.injEq] at h2
      obtain ⟨rfl, rfl⟩ := h2
      exact opRunD_ok hR (k x) lh r1 rs1 h1 hK
  | .call nid f args, lh, r', rs, h, hK => by
    simp only [opRunD] at h
    cases hf : args.mapM (frz lh 8) with
    | none => simp [hf] at h
    | some ds =>
      simp only [hf, Option.map_eq_some_iff] at h
      obtain ⟨p, h1, h2⟩ := h
      simp only [Prod.mk.injEq] at h2
      obtain ⟨rfl, rfl⟩ := h2
      exact ⟨_, _, pureRes_ok hf (hR.pure _ _ _ h1), hK⟩
  | .pan nid d, lh, _, _, h, _ => by simp [opRunD] at h
  | .fail, lh, _, _, h, _ => by simp [opRunD] at h

theorem regT_ok (hR : RunsOk P gs R) {ops : Array Oper} {K : St → Prop} {KP : DV → St → Prop} : ∀ (l : List Oper) (σ : St), (regT R P ops l σ).sat (fun e σ' => e = .normal ∧ K σ') KP → wpT (calls P gs) P ops l σ K KP
  | [], σ, h => h.2
  | o :: rest, σ, h => by
    simp only [regT] at h
    simp only [wpT]
    cases hg : guardA ops σ.env o with
    | none => simp [hg, Out.sat] at h
    | some b =>
      cases b with
      | false => simp only [hg] at h; exact regT_ok hR rest _ h
      | true =>
        simp only [hg] at h ⊢
        cases hd : dfrOf σ.eval o.op with
        | some d => simp only [hd] at h; exact regT_ok hR rest _ h
        | none =>
          simp only [hd] at h ⊢
          refine opRun_ok hR _ _ ?_
          cases ho : opRun R (opB P σ.nid σ.eval o.op) σ.lh with
          | ok r => simp only [ho] at h; exact regT_ok hR rest _ h
          | pan d r => simp only [ho] at h; exact h
          | stuck => simp only [ho] at h; exact h.elim

theorem regD_ok (hR : RunsOk P gs R) {ops : Array Oper} {n0 : Nat} : ∀ (l : List Oper) (i : Nat) (σ : St) (K : St → List TE → Prop) (σ' : St) (tr : List TE), regD R P ops n0 l i σ = some (σ', tr) → K σ' tr → wpD (calls P gs) P ops n0 l i σ K
  | [], i, σ, K, σ', tr, h, hK => by simp only [regD, Option.some.injEq, Prod.mk.injEq] at h; obtain ⟨rfl, rfl⟩ := h; exact hK
  | o :: rest, i, σ, K, σ', tr, h, hK => by
    simp only [regD] at h
    simp only [wpD]
    cases hg : guardA ops σ.env o with
    | none => simp [hg] at h
    | some b =>
      cases b with
      | false =>
        simp only [hg, Option.map_eq_some_iff] at h ⊢
        obtain ⟨⟨σ1, tr1⟩, h1, h2⟩ := h
        simp only [Prod.mk.injEq] at h2
        obtain ⟨rfl, rfl⟩ := h2
        exact regD_ok hR rest (i + 1) _ _ σ1 tr1 h1 hK
      | true =>
        simp only [hg] at h ⊢
        cases ho : opRunD R (opB P (n0 + i) σ.eval o.op) σ.lh with
        | none => simp [ho] at h
        | some q =>
          obtain ⟨r, rs⟩ := q
          simp only [ho] at h
          split at h
          · rename_i hn
            obtain ⟨⟨σ1, tr1⟩, h1, h2⟩ := Option.map_eq_some_iff.1 h
            simp only [Prod.mk.injEq] at h2
            obtain ⟨rfl, rfl⟩ := h2
            exact opRunD_ok hR _ _ r rs ho ⟨hn, regD_ok hR rest (i + 1) _ _ σ1 tr1 h1 hK⟩
          · cases h

theorem regDP_ok (hR : RunsOk P gs R) {ops : Array Oper} {n0 p : Nat} {d : DV} {D : List Nat} : ∀ (l : List Oper) (i : Nat) (σ : St) (K : List TE → Prop) (tr : List TE), regDP R P ops n0 p d D l i σ = some tr → K tr → wpDP (calls P gs) P ops n0 p d D l i σ K
  | [], i, σ, K, tr, h, hK => by simp only [regDP, Option.some.injEq] at h; subst h; exact hK
  | o :: rest, i, σ, K, tr, h, hK => by
    simp only [regDP] at h
    simp only [wpDP]
    split at h
    · rename_i hD
      rw [if_pos hD]
      obtain ⟨tr1, h1, rfl⟩ := Option.map_eq_some_iff.1 h
      exact regDP_ok hR rest (i + 1) _ _ tr1 h1 hK
    · rename_i hD
      rw [if_neg hD]
      split at h
      · rename_i hip
        rw [if_pos hip]
        split at h
        · rename_i nid f args hg ho
          split at h
          · rename_i hnid
            split at h
            · rename_i ds hfz
              split at h
              · rename_i d' hpan
                split at h
                · rename_i hsc
                  have := scalarEq_eq hsc.2
                  subst this
                  obtain ⟨tr1, h1, rfl⟩ := Option.map_eq_some_iff.1 h
                  subst hnid
                  exact ⟨hg, f, args, _, ho, ⟨ds, hfz, hR.panP f ds _ hpan, hsc.1, rfl⟩, regDP_ok hR rest (i + 1) _ _ tr1 h1 hK⟩
                · cases h
              · cases h
            · cases h
          · cases h
        · cases h
      · rename_i hip
        rw [if_neg hip]
        cases hg : guardA ops σ.env o with
        | none => simp [hg] at h
        | some b =>
          cases b with
          | false =>
            simp only [hg, Option.map_eq_some_iff] at h ⊢
            obtain ⟨tr1, h1, rfl⟩ := h
            exact regDP_ok hR rest (i + 1) _ _ tr1 h1 hK
          | true =>
            simp only [hg] at h ⊢
            cases ho : opRunD R (opB P (n0 + i) σ.eval o.op) σ.lh with
            | none => simp [ho] at h
            | some q =>
              obtain ⟨r, rs⟩ := q
              simp only [ho] at h
              split at h
              · rename_i hn
                obtain ⟨tr1, h1, rfl⟩ := Option.map_eq_some_iff.1 h
                exact opRunD_ok hR _ _ r rs ho ⟨hn, regDP_ok hR rest (i + 1) _ _ tr1 h1 hK⟩
              · cases h

theorem indepB_ok {x y : TE} (h : indepB x y = true) : Indep x y := by
  simp only [indepB, Bool.and_eq_true, List.all_eq_true] at h
  refine ⟨fun b hb => ?_, fun b hb => ?_⟩
  · have := h.1 b hb
    simpa using this
  · have := h.2 b hb
    simpa using this

theorem Out.sat_mono {o : Out} {Q Q' : Exit → St → Prop} {QP : DV → St → Prop} (h : o.sat Q QP) (hq : ∀ e σ, Q e σ → Q' e σ) : o.sat Q' QP := by
  cases o with
  | fin e σ => exact hq _ _ h
  | _ => exact h

theorem regT_normal : ∀ (l : List Oper) (ops : Array Oper) (σ : St) (e : Exit) (σ' : St), regT R P ops l σ = .fin e σ' → e = .normal
  | [], ops, σ, e, σ', h => by simp only [regT, Out.fin.injEq] at h; exact h.1.symm
  | o :: rest, ops, σ, e, σ', h => by
    simp only [regT] at h
    split at h
    · split at h
      · exact regT_normal rest ops _ e σ' h
      · split at h
        · exact regT_normal rest ops _ e σ' h
        · cases h
        · cases h
    · exact regT_normal rest ops _ e σ' h
    · cases h

theorem exec_ok (hR : RunsOk P gs R) {lb : Nat} : ∀ (code : Code) (σ : St) (Q : Exit → St → Prop) (QP : DV → St → Prop), (exec R P lb code σ).sat Q QP → WP (calls P gs) P code Q QP σ := by
  intro code
  induction code with
  | skip => intro σ Q QP h; exact h
  | label l => intro σ Q QP h; exact h
  | exit id => intro σ Q QP h; exact h
  | ret => intro σ Q QP h; exact h
  | region id ops d =>
    intro σ Q QP h
    cases d with
    | false =>
      simp only [exec] at h
      simp only [WP]
      refine regT_ok hR ops.toList σ ?_
      cases hr : regT R P ops ops.toList σ with
      | fin e σ' =>
        have := regT_normal _ _ _ _ _ hr
        subst this
        rw [hr] at h; exact ⟨rfl, h⟩
      | pan d σ' => rw [hr] at h; exact h
      | stuck => rw [hr] at h; exact h.elim
    | true =>
      simp only [exec] at h
      simp only [WP]
      cases hr : regD R P ops σ.nid ops.toList 0 σ with
      | none =>
        rw [hr] at h
        simp only at h
        split at h
        · rename_i p d hfp
          split at h
          · rename_i hsk
            split at h
            · rename_i tr htr
              split at h
              · rename_i hi
                exact .inr ⟨p, d, _, hsk, regDP_ok hR _ _ _ _ tr htr ⟨fun p hp => indepB_ok (List.all_eq_true.1 hi p hp), h⟩⟩
              · exact h.elim
            · exact h.elim
          · exact h.elim
        · exact h.elim
      | some q =>
        obtain ⟨σ', tr⟩ := q
        rw [hr] at h
        simp only at h
        split at h
        · rename_i hi
          exact .inl (regD_ok hR _ _ _ _ σ' tr hr ⟨fun p hp => indepB_ok (List.all_eq_true.1 hi p hp), h⟩)
        · exact h.elim
  | seq a b iha ihb =>
    intro σ Q QP h
    simp only [exec] at h
    simp only [WP]
    refine iha σ _ _ ?_
    cases hx : exec R P lb a σ with
    | fin e σ' =>
      rw [hx] at h
      cases e <;> first | exact ihb _ _ _ h | exact h
    | pan d σ' => rw [hx] at h; exact h
    | stuck => rw [hx] at h; exact h.elim
  | cond c a b iha ihb =>
    intro σ Q QP h
    simp only [exec] at h
    simp only [WP]
    split at h
    · rename_i hc; rw [hc]; exact iha σ Q QP h
    · rename_i hc; rw [hc]; exact ihb σ Q QP h
    · exact h.elim
  | block id c ih =>
    intro σ Q QP h
    simp only [exec] at h
    simp only [WP]
    refine ih σ _ _ ?_
    cases hx : exec R P lb c σ with
    | fin e σ' =>
      rw [hx] at h
      cases e with
      | exit id' =>
        simp only at h
        simp only [Out.sat, blockQ]
        split at h
        · rename_i hid; rw [if_pos hid]; exact h
        · rename_i hid; rw [if_neg hid]; exact h
      | _ => exact h
    | pan d σ' => rw [hx] at h; exact h
    | stuck => rw [hx] at h; exact h.elim
  | loop c ih =>
    intro σ Q QP h
    simp only [exec] at h
    simp only [WP]
    have key : ∀ (m n : Nat) (σ : St), (iter (exec R P lb c) n σ).sat Q QP → iterN m (fun Q' σ' => WP (calls P gs) P c Q' QP σ') Q n σ := by
      intro m n
      induction n with
      | zero => intro σ h; exact h.elim
      | succ n ihn =>
        intro σ h
        simp only [iter] at h
        simp only [iterN]
        refine ⟨σ, .inl rfl, ih σ _ _ ?_⟩
        cases hx : exec R P lb c σ with
        | fin e σ' =>
          rw [hx] at h
          cases e <;> first | exact ihn _ h | exact h
        | pan d σ' => rw [hx] at h; exact h
        | stuck => rw [hx] at h; exact h.elim
    exact ⟨lb, key _ lb σ h⟩
  | scope c ih =>
    intro σ Q QP h
    simp only [exec] at h
    simp only [WP]
    refine ih σ _ _ ?_
    cases hx : exec R P lb c σ with
    | fin e σ' =>
      rw [hx] at h
      cases e <;> first | exact h | exact h.elim
    | pan d σ' => rw [hx] at h; exact h
    | stuck => rw [hx] at h; exact h.elim
  | _ => intro σ Q QP h; exact h.elim

theorem regTS_ok (hR : RunsOk P gs R) {ops : Array Oper} {K : St → Option DV → Prop} : ∀ (l : List Oper) (σ : St) (pn : Option DV), (regTS R P ops l σ pn).sat (fun e σ' pn' => e = .normal → K σ' pn') → (∀ e σ' pn', regTS R P ops l σ pn = .fin e σ' pn' → e = .normal) → wpTS (calls P gs) P ops l σ pn K
  | [], σ, pn, h, hn => h rfl
  | o :: rest, σ, pn, h, hn => by
    simp only [regTS] at h hn
    simp only [wpTS]
    cases hg : guardA ops σ.env o with
    | none => simp [hg, OutS.sat] at h
    | some b =>
      cases b with
      | false => simp only [hg] at h hn; exact regTS_ok hR rest _ _ h hn
      | true =>
        simp only [hg] at h hn ⊢
        split
        · rename_i hr
          simp only [hr, if_true] at h hn
          exact regTS_ok hR rest _ _ h hn
        · rename_i hr
          rw [if_neg hr] at h
          refine opRun_ok hR _ _ ?_
          cases ho : opRun R (opB P σ.nid σ.eval o.op) σ.lh with
          | ok r =>
            simp only [ho] at h
            refine regTS_ok hR rest _ _ h (fun e σ' pn' he => hn e σ' pn' ?_)
            rw [if_neg hr, ho]; exact he
          | pan d r => simp only [ho] at h; exact h.elim
          | stuck => simp only [ho] at h; exact h.elim

theorem regTS_normal : ∀ (l : List Oper) (ops : Array Oper) (σ : St) (pn : Option DV) (e : Exit) (σ' : St) (pn' : Option DV), regTS R P ops l σ pn = .fin e σ' pn' → e = .normal
  | [], ops, σ, pn, e, σ', pn', h => by simp only [regTS, OutS.fin.injEq] at h; exact h.1.symm
  | o :: rest, ops, σ, pn, e, σ', pn', h => by
    simp only [regTS] at h
    split at h
    · split at h
      · exact regTS_normal rest ops _ _ e σ' pn' h
      · split at h
        · exact regTS_normal rest ops _ _ e σ' pn' h
        · cases h
    · exact regTS_normal rest ops _ _ e σ' pn' h
    · cases h

theorem withPn_sat {o : Out} {pn : Option DV} {Q : Exit → St → Option DV → Prop} (h : (o.withPn pn).sat Q) : o.sat (fun e σ => Q e σ pn) (fun _ _ => False) := by
  cases o with
  | fin e σ => exact h
  | _ => exact h.elim

theorem execS_ok (hR : RunsOk P gs R) {lb : Nat} : ∀ (code : Code) (σ : St) (pn : Option DV) (Q : Exit → St → Option DV → Prop), (execS R P lb code σ pn).sat Q → WPS (calls P gs) P code Q σ pn := by
  intro code
  induction code with
  | seq a b iha ihb =>
    intro σ pn Q h
    simp only [execS] at h
    simp only [WPS]
    refine iha σ pn _ ?_
    cases hx : execS R P lb a σ pn with
    | fin e σ' pn' =>
      rw [hx] at h
      cases e <;> first | exact ihb _ _ _ h | exact h
    | stuck => rw [hx] at h; exact h.elim
  | cond c a b iha ihb =>
    intro σ pn Q h
    simp only [execS] at h
    simp only [WPS]
    split at h
    · rename_i hc; rw [hc]; exact iha σ pn Q h
    · rename_i hc; rw [hc]; exact ihb σ pn Q h
    · exact h.elim
  | region id ops d =>
    intro σ pn Q h
    simp only [execS] at h
    simp only [WPS]
    split at h
    · rename_i hr
      rw [if_pos hr]
      split at h
      · rename_i hd
        refine ⟨hd, regTS_ok hR _ σ pn ?_ (fun e σ' pn' he => regTS_normal _ _ _ _ _ _ _ he)⟩
        cases hx : regTS R P ops ops.toList σ pn with
        | fin e σ' pn' =>
          have := regTS_normal _ _ _ _ _ _ _ hx
          subst this
          rw [hx] at h; exact fun _ => h
        | stuck => rw [hx] at h; exact h.elim
      · exact h.elim
    · rename_i hr
      rw [if_neg hr]
      exact exec_ok hR _ σ _ _ (withPn_sat h)
  | _ => intro σ pn Q h; exact exec_ok hR _ σ _ _ (withPn_sat h)

theorem fnOk_is {f : FuncId} {k : Nat} {code : Code} {rs : Array ResultVar} {n : Nat} (h : fnOk P f k = some (code, rs, n)) : FnIs P f code rs n ∧ k ≤ n := by
  unfold fnOk at h
  split at h
  · rename_i fn hfn
    split at h
    · rename_i c hc
      split at h
      · rename_i hh
        simp only [Option.some.injEq, Prod.mk.injEq] at h
        obtain ⟨rfl, rfl, rfl⟩ := h
        exact ⟨⟨⟨fn, hfn, hc, rfl, rfl, hh.1⟩, hh.2.1⟩, hh.2.2⟩
      · cases h
    · cases h
  · cases h

def BOut.sat (o : BOut) (K : AV → St → Prop) (KP : DV → St → Prop) : Prop :=
  match o with
  | .ret v σ => K v σ
  | .pan d σ => KP d σ
  | .stuck => False

theorem leave_ok (hR : RunsOk P gs R) {lb : Nat} {rs : List ResultVar} {K : AV → St → Prop} {KP : DV → St → Prop} : ∀ (ds : List (FuncId × List AV)) (pn : Option DV) (σ : St), (leave R P lb rs ds pn σ).sat K KP → LeaveW (calls P gs) P rs K KP ds pn σ
  | [], none, σ, h => by
    simp only [leave] at h
    cases hv : resA P rs σ with
    | none => rw [hv] at h; exact h.elim
    | some v => rw [hv] at h; exact ⟨v, hv, h⟩
  | [], some d, σ, h => h
  | (f, args) :: ds, pn, σ, h => by
    simp only [leave] at h
    cases hf : fnOk P f args.length with
    | none => rw [hf] at h; exact h.elim
    | some q =>
      obtain ⟨code, rs', n⟩ := q
      rw [hf] at h
      obtain ⟨f1, f2⟩ := fnOk_is hf
      refine ⟨code, rs', n, f1, f2, execS_ok hR (lb := lb) code _ pn _ ?_⟩
      simp only at h
      cases hx : execS R P lb code ⟨envA args, σ.lh, σ.nid, []⟩ pn with
      | stuck => rw [hx] at h; exact h.elim
      | fin e σ' pn' =>
        rw [hx] at h
        have fin : BOut.sat (match σ'.dfs, resA P rs'.toList σ' with
          | [], some _ => leave R P lb rs ds pn' { σ with lh := σ'.lh, nid := σ'.nid }
          | _, _ => .stuck) K KP → σ'.dfs = [] ∧ (∃ v, resA P rs'.toList σ' = some v) ∧ LeaveW (calls P gs) P rs K KP ds pn' { σ with lh := σ'.lh, nid := σ'.nid } := fun h => by
          split at h
          · rename_i v hd hv
            exact ⟨hd, ⟨v, hv⟩, leave_ok hR ds pn' _ h⟩
          · exact h.elim
        cases e with
        | normal => exact ⟨.inl rfl, fin h⟩
        | ret => exact ⟨.inr rfl, fin h⟩
        | _ => exact h.elim

theorem bodyRun_ok (hR : RunsOk P gs R) {lb : Nat} {code : Code} {rs : List ResultVar} {σ : St} {K : AV → St → Prop} {KP : DV → St → Prop} (h : (bodyRun R P lb code rs σ).sat K KP) : BodyW (calls P gs) P code rs K KP σ := by
  refine exec_ok hR (lb := lb) code σ _ _ ?_
  unfold bodyRun at h
  cases hx : exec R P lb code σ with
  | fin e σ' =>
    rw [hx] at h
    cases e with
    | normal => exact leave_ok hR _ _ _ h
    | ret => exact leave_ok hR _ _ _ h
    | _ => exact h.elim
  | pan d σ' => rw [hx] at h; exact leave_ok hR _ _ _ h
  | stuck => rw [hx] at h; exact h.elim

theorem retOf_ok {v : AV} {σ : St} {r : Ret} (h : retOf v σ = some r) : RetOk σ v r := by
  unfold retOf at h
  split at h
  · rename_i b es len
    split at h
    · rename_i k hk
      split at h
      · rename_i hh
        obtain ⟨ds, h1, rfl⟩ := Option.map_eq_some_iff.1 h
        exact .fresh b es len k ds hk hh.1 h1 (by have := hh.2; simpa using this)
      · cases h
    · cases h
  · obtain ⟨d, h1, rfl⟩ := Option.map_eq_some_iff.1 h
    exact .imm _ d h1

/-- What is known of functions holds. -/
def PrimsOk (P : Program) (gs : List Nat) (prim : Prims) : Prop := ∀ f g ds p, prim f = some g → g ds = some p → PureCall P gs f ds p

theorem runs_ok (hm : P.follows .mixedOrders = true) {prim : Prims} (hp : PrimsOk P gs prim) (lb : Nat) : ∀ n, RunsOk P gs (runs P prim lb n)
  | 0 => ⟨fun _ _ _ _ _ h => by simp [runs] at h, fun _ _ _ _ _ _ h => by simp [runs] at h, fun _ _ _ h => by simp [runs] at h, fun _ _ _ h => by simp [runs] at h⟩
  | n + 1 => by
    have ih := runs_ok hm hp lb n
    refine ⟨fun lh nid f args r h => ?_, fun lh nid f args d r h => ?_, fun f ds p h => ?_, fun f ds d h => ?_⟩
    · simp only [runs] at h
      cases hpf : prim f with
      | some g =>
        simp only [hpf] at h
        cases hf : args.mapM (frz lh 8) with
        | none => simp [hf] at h
        | some ds =>
          simp only [hf] at h
          cases hg : g ds with
          | none => simp [hg] at h
          | some p =>
            simp only [hg, COut.ok.injEq] at h
            subst h
            exact .inl ⟨_, _, pureRes_ok hf (hp f g ds p hpf hg), rfl⟩
      | none =>
        simp only [hpf] at h
        cases hf : fnOk P f args.length with
        | none => simp [hf] at h
        | some q =>
          obtain ⟨code, rs, m⟩ := q
          simp only [hf] at h
          obtain ⟨f1, f2⟩ := fnOk_is hf
          refine .inr (hcall_of_body hm f1 f2 (bodyRun_ok ih (lb := lb) ?_))
          cases hb : bodyRun (runs P prim lb n) P lb code rs.toList ⟨envA args, lh, nid, []⟩ with
          | ret v σ => simp only [hb, COut.ok.injEq] at h; exact h.symm
          | pan d σ => simp [hb] at h
          | stuck => simp [hb] at h
    · simp only [runs] at h
      cases hpf : prim f with
      | some g =>
        simp only [hpf] at h
        split at h
        · split at h <;> cases h
        · cases h
      | none =>
        simp only [hpf] at h
        cases hf : fnOk P f args.length with
        | none => simp [hf] at h
        | some q =>
          obtain ⟨code, rs, m⟩ := q
          simp only [hf] at h
          obtain ⟨f1, f2⟩ := fnOk_is hf
          refine .inr (hpanic_of_body hm f1 f2 (bodyRun_ok ih (lb := lb) ?_))
          cases hb : bodyRun (runs P prim lb n) P lb code rs.toList ⟨envA args, lh, nid, []⟩ with
          | ret v σ => simp [hb] at h
          | pan d' σ =>
            simp only [hb, COut.pan.injEq] at h
            obtain ⟨rfl, rfl⟩ := h
            exact ⟨rfl, rfl, rfl⟩
          | stuck => simp [hb] at h
    · simp only [runs] at h
      cases hpf : prim f with
      | some g => simp only [hpf] at h; exact hp f g ds p hpf h
      | none =>
        simp only [hpf] at h
        cases hf : fnOk P f ds.length with
        | none => simp [hf] at h
        | some q =>
          obtain ⟨code, rs, m⟩ := q
          simp only [hf] at h
          obtain ⟨f1, f2⟩ := fnOk_is hf
          refine pure_of_body hm f1 f2 (bodyRun_ok ih (lb := lb) ?_)
          cases hb : bodyRun (runs P prim lb n) P lb code rs.toList (st0 ds) with
          | ret v σ => simp only [hb] at h; exact retOf_ok h
          | pan d σ => simp [hb] at h
          | stuck => simp [hb] at h
    · simp only [runs] at h
      cases hpf : prim f with
      | some g => simp [hpf] at h
      | none =>
        simp only [hpf] at h
        cases hf : fnOk P f ds.length with
        | none => simp [hf] at h
        | some q =>
          obtain ⟨code, rs, m⟩ := q
          simp only [hf] at h
          obtain ⟨f1, f2⟩ := fnOk_is hf
          refine panic_of_body hm f1 f2 (bodyRun_ok ih (lb := lb) ?_)
          cases hb : bodyRun (runs P prim lb n) P lb code rs.toList (st0 ds) with
          | ret v σ => simp [hb] at h
          | pan d' σ => simp only [hb, Option.some.injEq] at h; exact h
          | stuck => simp [hb] at h

/-- A CALL ON GIVEN DATA, RUN. -/
theorem pure_of_run (hm : P.follows .mixedOrders = true) {prim : Prims} (hp : PrimsOk P gs prim) (lb n : Nat) {f : FuncId} {ds : List DV} {p : Ret} (h : (runs P prim lb n).pure f ds = some p) : PureCall P gs f ds p :=
  (runs_ok hm hp lb n).pure f ds p h
end
#print axioms pure_of_run
end Go.Proofs.Am
