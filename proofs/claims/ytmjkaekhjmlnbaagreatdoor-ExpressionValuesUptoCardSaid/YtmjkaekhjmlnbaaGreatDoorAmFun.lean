/- A function's body, its deferred calls with it. -/
import Derived.Test.YtmjkaekhjmlnbaaGreatDoorAmRec
set_option linter.unusedVariables false
set_option linter.unusedSimpArgs false
namespace Go.Proofs.Am
open Go Go.RowKit

/-- One result. -/
def res1 (P : Program) (σ : St) : ResultVar → Option AV
  | .tmp t => some (σ.env t)
  | .cell a t => (tinfo P t).bind fun ti => match σ.env a with
    | .loc b _ i fo => (σ.lh b).bind fun k => if i < k.els.length then aload ti (k.els.getD i .undef) fo else none
    | _ => none

def resA (P : Program) (rs : List ResultVar) (σ : St) : Option AV :=
  (rs.mapM (res1 P σ)).map fun vs => match vs with | [v] => v | vs => .tup vs

def resSem (tmps : Array Value) : ResultVar → Sem Value
  | .tmp t => pure (tmps.getD t undef)
  | .cell a t => do loadVar t (← asAddr (tmps.getD a undef))

theorem results_eq (fn : Func) (tmps : Array Value) : results fn tmps = (do let vs ← fn.results.mapM (resSem tmps); pure (if h : vs.size = 1 then vs[0] else .tuple vs)) := by
  unfold results
  congr 2

section
variable {P : Program} {gs : List Nat}

theorem mapM_run {α β : Type} (w : World) (f : α → Sem β) : ∀ (l : List α) (g : List β), l.length = g.length → (∀ (i : Nat) (x : α) (y : β), l[i]? = some x → g[i]? = some y → (f x).run P w = .ok y w) → (l.mapM f).run P w = .ok g w
  | [], [], _, _ => rfl
  | [], _ :: _, h, _ => by simp at h
  | _ :: _, [], h, _ => by simp at h
  | x :: l, y :: g, hl, h => by
    have h0 := h 0 x y (by simp) (by simp)
    have ih := mapM_run w f l g (by simpa using hl) (fun i x y h1 h2 => h (i + 1) x y (by simpa using h1) (by simpa using h2))
    simp [List.mapM_cons, h0, ih]

theorem results_sound {c : Ctx} {A : Nat → Prop} {ρ : Nat → Option BR} {σ : St} {a : Act} {w : World} (hS : Sim c A ρ σ a w) {fn : Func} {v : AV} (h : resA P fn.results.toList σ = some v) :
    ∃ x, (results fn a.tmps).run P w = .ok x w ∧ ARep w A ρ v x := by
  unfold resA at h
  obtain ⟨vs, hvs, rfl⟩ := Option.map_eq_some_iff.1 h
  obtain ⟨h1, h2⟩ := mapM_some hvs
  have one : ∀ rv v, res1 P σ rv = some v → ∃ x, (resSem a.tmps rv).run P w = .ok x w ∧ ARep w A ρ v x := fun rv v hv => by
    cases rv with
    | tmp t => simp only [res1, Option.some.injEq] at hv; subst hv; exact ⟨_, rfl, hS.env t⟩
    | cell q t =>
      simp only [res1] at hv
      cases hti : tinfo P t with
      | none => simp [hti] at hv
      | some ti =>
        simp only [hti, Option.bind_some] at hv
        split at hv
        · rename_i b es i fo he
          cases hk : σ.lh b with
          | none => simp [hk] at hv
          | some k =>
            simp only [hk, Option.bind_some] at hv
            split at hv
            · rename_i hi
              have hr := hS.env q
              rw [he] at hr
              obtain ⟨y, hy, hyr⟩ := load_loc_sound (P := P) hS hti hr hk hi hv
              refine ⟨y, ?_, hyr⟩
              simp only [resSem]
              generalize a.tmps.getD q undef = x at hr hy
              cases hr with
              | loc _ _ _ _ r hrr he => simpa [Instr.loadAt, Instr.sureAddr, asAddr] using hy
            · cases hv
        · cases hv
  have hex : ∃ xs : List Value, xs.length = fn.results.toList.length ∧ ∀ (i : Nat) (rv : ResultVar) (v : AV), fn.results.toList[i]? = some rv → vs[i]? = some v → ∃ x, xs[i]? = some x ∧ (resSem a.tmps rv).run P w = .ok x w ∧ ARep w A ρ v x := by
    clear hvs h
    generalize fn.results.toList = rs at h1 h2
    induction rs generalizing vs with
    | nil => exact ⟨[], rfl, fun i rv v h => by simp at h⟩
    | cons rv rs ih =>
      cases vs with
      | nil => simp at h1
      | cons v0 vs =>
        obtain ⟨y, hy, hf⟩ := h2 0 rv (by simp)
        simp at hy; subst hy
        obtain ⟨x, hx1, hx2⟩ := one rv v0 hf
        obtain ⟨xs, q1, q2⟩ := ih vs (by simpa using h1) (fun i x hx => by
          obtain ⟨y, hy, hf⟩ := h2 (i + 1) x (by simpa using hx)
          exact ⟨y, by simpa using hy, hf⟩)
        refine ⟨x :: xs, by simp [q1], fun i rv' v' e1 e2 => ?_⟩
        cases i with
        | zero => simp at e1 e2; subst e1; subst e2; exact ⟨x, by simp, hx1, hx2⟩
        | succ i => simp at e1 e2; obtain ⟨x', p1, p2, p3⟩ := q2 i rv' v' e1 e2; exact ⟨x', by simpa using p1, p2, p3⟩
  obtain ⟨xs, q1, q2⟩ := hex
  have hrun : (fn.results.mapM (resSem a.tmps)).run P w = .ok xs.toArray w := by
    have := mapM_run (P := P) w (resSem a.tmps) fn.results.toList xs q1.symm (fun i rv x e1 e2 => by
      have hi : i < vs.length := by rw [h1]; exact (List.getElem?_eq_some_iff.1 e1).1
      obtain ⟨x', p1, p2, _⟩ := q2 i rv vs[i] e1 (List.getElem?_eq_getElem hi)
      rw [e2] at p1; cases p1; exact p2)
    rw [Array.mapM_eq_mapM_toList]
    simp [this]
  rw [results_eq]
  refine ⟨if h : xs.toArray.size = 1 then xs.toArray[0] else .tuple xs.toArray, by simp only [Sem.run_bind, hrun, Result.andThen_ok]; rfl, ?_⟩
  have hlen : xs.length = vs.length := by omega
  have rep : ∀ i (hi : i < xs.length), ARep w A ρ (vs.getD i .undef) xs[i] := fun i hi => by
    have h3 : i < fn.results.toList.length := by omega
    obtain ⟨x', p1, _, p3⟩ := q2 i (fn.results.toList[i]) (vs[i]) (List.getElem?_eq_getElem h3) (List.getElem?_eq_getElem (by omega))
    rw [List.getElem?_eq_getElem hi] at p1; cases p1
    have : vs.getD i .undef = vs[i] := by simp [List.getD, List.getElem?_eq_getElem (show i < vs.length by omega)]
    rw [this]; exact p3
  by_cases hone1 : xs.length = 1
  · rw [dif_pos (by simpa using hone1)]
    match vs, hlen, rep with
    | [], hlen, _ => simp at hlen; rw [hlen] at hone1; simp at hone1
    | [v], hlen, rep => have := rep 0 (by rw [hone1]; exact Nat.zero_lt_one); simpa using this
    | v1 :: v2 :: r, hlen, _ => simp at hlen; omega
  · rw [dif_neg (by simpa using hone1)]
    have tup : ARep w A ρ (.tup vs) (.tuple xs.toArray) := .tup vs _ (by simpa using hlen) (fun i hi => by
      have := rep i (by omega)
      have e : xs.toArray.getD i undef = xs[i] := by simp [Array.getD, show i < xs.length by omega]
      rw [e]; exact this)
    match vs, hlen, tup with
    | [], _, tup => exact tup
    | [v], hlen, _ => simp at hlen; omega
    | v1 :: v2 :: r, _, tup => exact tup


structure FnIs (P : Program) (f : FuncId) (code : Code) (rs : Array ResultVar) (n : Nat) : Prop where
  mk' ::
  ex : ∃ fn, P.funcs[f]? = some fn ∧ fn.body = some code ∧ fn.results = rs ∧ fn.ntmps = n ∧ enterOk P f = true
  ok : codeOk n code = true

/-- The slots when a call begins. -/
def envA (args : List AV) : Nat → AV := fun t => args.getD t .undef

/-- The deferred calls, and what is handed back, or given up with, behind them. -/
def LeaveW (E : CallE) (P : Program) (rs : List ResultVar) (K : AV → St → Prop) (KP : DV → St → Prop) : List (FuncId × List AV) → Option DV → St → Prop
  | [], none, σ => ∃ v, resA P rs σ = some v ∧ K v σ
  | [], some d, σ => KP d σ
  | (f, args) :: ds, pn, σ => ∃ code rs' n, FnIs P f code rs' n ∧ args.length ≤ n ∧
      WPS E P code (fun e σ' pn' => (e = .normal ∨ e = .ret) ∧ σ'.dfs = [] ∧ (∃ v, resA P rs'.toList σ' = some v) ∧ LeaveW E P rs K KP ds pn' { σ with lh := σ'.lh, nid := σ'.nid }) ⟨envA args, σ.lh, σ.nid, []⟩ pn

def bodyQ (E : CallE) (P : Program) (rs : List ResultVar) (K : AV → St → Prop) (KP : DV → St → Prop) : Exit → St → Prop
  | .normal, σ | .ret, σ => LeaveW E P rs K KP σ.dfs none σ
  | _, _ => False

/-- The walk of a body to its end. -/
def BodyW (E : CallE) (P : Program) (code : Code) (rs : List ResultVar) (K : AV → St → Prop) (KP : DV → St → Prop) (σ : St) : Prop :=
  WP E P code (bodyQ E P rs K KP) (fun d σ' => LeaveW E P rs K KP σ'.dfs (some d) σ') σ

/-- The end of a body stands for the end of the model's call. -/
def LeaveR (c : Ctx) (K : AV → St → Prop) (KP : DV → St → Prop) : Ending → World → Prop
  | .returned x, w => ∃ v σ A ρ a, K v σ ∧ ARep w A ρ v x ∧ Sim c A ρ σ a w ∧ Fr c ρ σ.nid
  | .panicked chain, w => ∃ d x σ A ρ a, chain = [{ v := x, recovered := false }] ∧ KP d σ ∧ DRep w A d x ∧ Sim c A ρ σ a w ∧ Fr c ρ σ.nid
  | .outgrown, _ => False

section
variable {P : Program} {gs : List Nat} {c : Ctx} {A : Nat → Prop} {ρ : Nat → Option BR} {σ : St} {a : Act} {w : World}

theorem envA_rep {args : List AV} {vals : Array Value} (h : ARepL w A ρ args vals) (n t : Nat) : ARep w A ρ (envA args t) ((vals ++ Array.replicate n undef).getD t undef) := by
  unfold envA
  by_cases ht : t < args.length
  · have e : (vals ++ Array.replicate n undef).getD t undef = vals.getD t undef := by
      simp only [Array.getD_eq_getD_getElem?]; rw [Array.getElem?_append_left (by have := h.size; omega)]
    rw [e]; exact h.at_ t ht
  · have e : args.getD t .undef = .undef := by simp only [List.getD_eq_getElem?_getD]; rw [List.getElem?_eq_none (by omega)]; rfl
    rw [e]; exact .un _

theorem HS.begin {lh : Nat → Option LB} {n m : Nat} (h : HS (ctx0 w A ρ lh n m) A ρ lh w) {args : List AV} {vals : Array Value} (hr : ARepL w A ρ args vals) (hn : args.length ≤ n) (nid : Nat) :
    Sim (ctx0 w A ρ lh n m) A ρ ⟨envA args, lh, nid, []⟩ { tmps := vals ++ Array.replicate (n - vals.size) undef, defers := [] } w := {
  toHS := h
  size := by have := hr.size; simp [ctx0]; omega
  defers := .nil
  env := fun t => envA_rep hr _ t }

theorem Fr.start {lh : Nat → Option LB} {n m : Nat} (h : Free ρ m) : Fr (ctx0 w A ρ lh n m) ρ m := ⟨h, Nat.le_refl _, fun _ _ => rfl⟩

theorem Fr.names {lh : Nat → Option LB} {n m k : Nat} {ρ' : Nat → Option BR} (h : Fr (ctx0 w A ρ lh n m) ρ' k) (hF : Free ρ m) : Names ρ ρ' m k :=
  ⟨h.le, fun b hb => by
    by_cases hlt : b < m
    · exact h.base b hlt
    · rw [h.free b (by have := h.le; simp only [ctx0] at this; omega), hF b (by omega)]⟩

theorem settle_mode {u : FrameMode} {pn : Option DV} (h : ModeRel c u pn) : match pn with | none => settle u = .returning | some d => ∃ x, settle u = .panicking [{ v := x, recovered := false }] ∧ DRep c.w0 c.A0 d x := by
  cases pn with
  | some d => obtain ⟨x, rfl, hx⟩ := h; exact ⟨x, rfl, hx⟩
  | none => rcases h with rfl | ⟨x, rfl⟩ <;> rfl

theorem leaves_sound (hm : P.follows .mixedOrders = true) (hc : CtxOk gs c) {fn : Func} {rs : List ResultVar} (hrs : fn.results.toList = rs) {K : AV → St → Prop} {KP : DV → St → Prop} : ∀ (ds : List (FuncId × List AV)) (pn : Option DV) (σ : St) (A : Nat → Prop) (ρ : Nat → Option BR) (a : Act) (w : World) (u : FrameMode),
    LeaveW (calls P gs) P rs K KP ds pn σ → Sim c A ρ { σ with dfs := ds } a w → Fr c ρ σ.nid → (match pn with | none => u = .returning | some d => ∃ x, u = .panicking [{ v := x, recovered := false }] ∧ DRep w A d x) →
    Leaves P fn a.tmps (fun e w' => LeaveR c (fun v σ' => ∃ τ, K v τ ∧ σ' = { τ with dfs := [] }) (fun d σ' => ∃ τ, KP d τ ∧ σ' = { τ with dfs := [] }) e w') a.defers u w := by
  intro ds
  induction ds with
  | nil =>
    intro pn σ A ρ a w u h hS hF hu
    have hd : a.defers = [] := by have := hS.defers; generalize a.defers = l at this; cases this; rfl
    rw [hd]
    cases pn with
    | none =>
      subst hu
      obtain ⟨v, hv, hK⟩ := h
      have hv' : resA P fn.results.toList { σ with dfs := [] } = some v := by
        rw [hrs]; rw [← hv]; unfold resA; congr 2
      obtain ⟨x, hx, hxr⟩ := results_sound (P := P) hS hv'
      exact ⟨x, hx, v, _, A, ρ, a, ⟨σ, hK, rfl⟩, hxr, hS, hF⟩
    | some d =>
      obtain ⟨x, rfl, hx⟩ := hu
      exact ⟨d, x, _, A, ρ, a, rfl, ⟨σ, h, rfl⟩, hx, hS, hF⟩
  | cons dd ds ih =>
    intro pn σ A ρ a w u h hS hF hu
    obtain ⟨f, args⟩ := dd
    obtain ⟨code, rs', n, hf, hn, hW⟩ := h
    obtain ⟨fn', hfn, hbody, hrs', hnt, hent⟩ := hf.ex
    have hdf := hS.defers
    generalize hld : a.defers = ld at hdf
    cases hdf with
    | cons _ _ _ cap vals r hargs htl =>
      have hurun : u ≠ .run := by
        cases pn with
        | none => simp only at hu; subst hu; simp
        | some d => obtain ⟨x, rfl, _⟩ := hu; simp
      refine leaves_cons hurun (f := f) (args := vals ++ cap) ?_ ?_
      · simp only [invoke]; exact run_callFunc hent _ w
      · subst hnt
        have hhs := hS.hs fn'.ntmps σ.nid
        have hc' : CtxOk gs (ctx0 w A ρ σ.lh fn'.ntmps σ.nid) := ⟨hS.gint hc, hS.gown hc⟩
        have hap := hhs.apart fn'.ntmps σ.nid
        have hsim := hhs.begin hargs hn σ.nid
        refine callsD_of_wpS hfn hbody fun c₀ cs hc₀ => ?_
        have hM : ModeRel (ctx0 w A ρ σ.lh fn'.ntmps σ.nid) u pn := by
          cases pn with
          | none => exact .inl hu
          | some d => exact hu
        have hsound := WPS_sound (P := P) hm hc' hap c₀ cs code _ _ pn u A ρ _ w hf.ok hW hsim (Fr.start hF.free) hM
        have he : ({ c₀ with mode := u } : Frame) = c₀ := by rw [← hc₀]
        rw [he] at hsound
        intro b k hb hro
        obtain ⟨e, a', cs', w', hq, harr⟩ := hsound b k hb hro
        refine ⟨e, a', cs', w', ?_, harr⟩
        have fin : ∀ (σ' : St) (A' : Nat → Prop) (ρ' : Nat → Option BR) (pn' : Option DV) (u' : FrameMode), σ'.dfs = [] → (∃ v, resA P rs'.toList σ' = some v) → LeaveW (calls P gs) P rs K KP ds pn' { σ with lh := σ'.lh, nid := σ'.nid } → Sim (ctx0 w A ρ σ.lh fn'.ntmps σ.nid) A' ρ' σ' a' w' → Fr (ctx0 w A ρ σ.lh fn'.ntmps σ.nid) ρ' σ'.nid →
            ModeRel (ctx0 w A ρ σ.lh fn'.ntmps σ.nid) u' pn' → a'.defers = [] ∧ ∃ v, (results fn' a'.tmps).run P w' = .ok v w' ∧
              Leaves P fn a.tmps (fun e w' => LeaveR c (fun v σ' => ∃ τ, K v τ ∧ σ' = { τ with dfs := [] }) (fun d σ' => ∃ τ, KP d τ ∧ σ' = { τ with dfs := [] }) e w') r (settle u') w' := fun σ' A' ρ' pn' u' hd0 hres hL hS' hF' hM' => by
          have hd' : a'.defers = [] := by have := hS'.defers; rw [hd0] at this; generalize a'.defers = l at this; cases this; rfl
          obtain ⟨v, hv⟩ := hres
          subst hrs'
          obtain ⟨x, hx, _⟩ := results_sound (P := P) hS' hv
          refine ⟨hd', x, hx, ?_⟩
          have hN := hF'.names hF.free
          have htk := hS.take hS'.toHS hN (fun k hk => hF.free _ (Nat.le_add_right _ _))
          have hdr : DfRep w' A' ρ' ds r := by
            refine htl.mono (hhs.keeps hS'.toHS) (fun b rr hb => ?_)
            rw [hN.2 b ?_]; exact hb
            rintro ⟨h1, h2⟩
            rw [hF.free b h1] at hb; cases hb
          have hSn : Sim c A' ρ' { { σ with lh := σ'.lh, nid := σ'.nid } with dfs := ds } { a with defers := r } w' := { htk with defers := hdr }
          refine ih pn' _ A' ρ' _ w' (settle u') hL hSn (hF.step hN) ?_
          have := settle_mode hM'
          cases pn' with
          | none => exact this
          | some d => obtain ⟨x, h1, h2⟩ := this; exact ⟨x, h1, h2.mono (hS'.toHS.keeps0 hap)⟩
        cases e with
        | normal => obtain ⟨σ', A', ρ', pn', u', ⟨_, h1, h2, h3⟩, h4, h5, rfl, h6⟩ := hq; obtain ⟨q1, v, q2, q3⟩ := fin σ' A' ρ' pn' u' h1 h2 h3 h4 h5 h6; exact ⟨q1, u', rfl, v, q2, q3⟩
        | ret => obtain ⟨σ', A', ρ', pn', u', ⟨_, h1, h2, h3⟩, h4, h5, rfl, h6⟩ := hq; obtain ⟨q1, v, q2, q3⟩ := fin σ' A' ρ' pn' u' h1 h2 h3 h4 h5 h6; exact ⟨q1, u', rfl, v, q2, q3⟩
        | panic ch => exact hq.elim
        | exit id => obtain ⟨σ', A', ρ', pn', u', ⟨h1, _⟩, _⟩ := hq; rcases h1 with h | h <;> cases h
        | goto l => obtain ⟨σ', A', ρ', pn', u', ⟨h1, _⟩, _⟩ := hq; rcases h1 with h | h <;> cases h
        | outgrown => obtain ⟨σ', A', ρ', pn', u', ⟨h1, _⟩, _⟩ := hq; rcases h1 with h | h <;> cases h

/-- THE BODY's WALK is the model's call. -/
theorem body_sound (hm : P.follows .mixedOrders = true) {f : FuncId} {code : Code} {rs : Array ResultVar} {n : Nat} (hf : FnIs P f code rs n) {args : List AV} (hn : args.length ≤ n) {lh : Nat → Option LB} {nid : Nat} {K : AV → St → Prop} {KP : DV → St → Prop}
    (h : BodyW (calls P gs) P code rs.toList K KP ⟨envA args, lh, nid, []⟩) {vals : Array Value} (hS : HS (ctx0 w A ρ lh 0 0) A ρ lh w) (hG : GInt gs w) (hO : ∀ g ∈ gs, ¬ Own ρ lh g) (hF : Free ρ nid) (hr : ARepL w A ρ args vals) :
    Calls P f vals w fun e w' => LeaveR (ctx0 w A ρ lh n nid) (fun v σ' => ∃ τ, K v τ ∧ σ' = { τ with dfs := [] }) (fun d σ' => ∃ τ, KP d τ ∧ σ' = { τ with dfs := [] }) e w' := by
  obtain ⟨fn, hfn, hbody, hrs, hnt, hent⟩ := hf.ex
  subst hnt
  have hS' : HS (ctx0 w A ρ lh fn.ntmps nid) A ρ lh w := { hS with }
  have hc : CtxOk gs (ctx0 w A ρ lh fn.ntmps nid) := ⟨hG, hO⟩
  refine calls_of_wp_defers hfn hbody (wp_mono (WP_sound (P := P) (gs := gs) hm hc code _ _ A ρ _ w hf.ok h (hS'.begin hr hn nid) (Fr.start hF)) fun e a w' hq => ?_)
  have hrs' : fn.results.toList = rs.toList := by rw [hrs]
  cases e with
  | normal => obtain ⟨σ, A', ρ', h1, h2, h3⟩ := hq; exact leaves_sound hm hc hrs' σ.dfs none σ A' ρ' a w' _ h1 h2 h3 rfl
  | ret => obtain ⟨σ, A', ρ', h1, h2, h3⟩ := hq; exact leaves_sound hm hc hrs' σ.dfs none σ A' ρ' a w' _ h1 h2 h3 rfl
  | panic ch => obtain ⟨d, x, σ, A', ρ', rfl, h1, h2, h3, h4⟩ := hq; exact leaves_sound hm hc hrs' σ.dfs (some d) σ A' ρ' a w' _ h1 h2 h4 ⟨x, rfl, h3⟩
  | exit id => obtain ⟨σ, A', ρ', h1, _⟩ := hq; exact h1.elim
  | goto l => obtain ⟨σ, A', ρ', h1, _⟩ := hq; exact h1.elim
  | outgrown => obtain ⟨σ, A', ρ', h1, _⟩ := hq; exact h1.elim

theorem FnIs.enter {f : FuncId} {code : Code} {rs : Array ResultVar} {n : Nat} (hf : FnIs P f code rs n) : enterOk P f = true := by
  obtain ⟨fn, hfn, hbody, hrs, hnt, hent⟩ := hf.ex; exact hent

/-- A contract with the local blocks of the caller, exactly as the walk leaves them. -/
theorem hcall_of_body (hm : P.follows .mixedOrders = true) {f : FuncId} {code : Code} {rs : Array ResultVar} {n : Nat} (hf : FnIs P f code rs n) {args : List AV} (hn : args.length ≤ n) {lh : Nat → Option LB} {nid : Nat} {r : Res}
    (h : BodyW (calls P gs) P code rs.toList (fun v σ => r = ⟨v, σ.lh, σ.nid⟩) (fun _ _ => False) ⟨envA args, lh, nid, []⟩) : HCall P gs f args lh nid r := by
  refine ⟨hf.enter, fun w A ρ vals hS hG hO hF hr => (body_sound hm hf hn h hS hG hO hF hr).mono fun e w' hL => ?_⟩
  cases e with
  | returned x =>
    obtain ⟨v, σ, A', ρ', a, ⟨τ, rfl, rfl⟩, h2, h3, h4⟩ := hL
    exact ⟨x, rfl, A', ρ', { h3.toHS with }, h2, h4.names hF⟩
  | panicked ch => obtain ⟨d, x, σ, A', ρ', a, _, ⟨τ, hf, _⟩, _⟩ := hL; exact hf.elim
  | outgrown => exact hL.elim

theorem hpanic_of_body (hm : P.follows .mixedOrders = true) {f : FuncId} {code : Code} {rs : Array ResultVar} {n : Nat} (hf : FnIs P f code rs n) {args : List AV} (hn : args.length ≤ n) {lh : Nat → Option LB} {nid : Nat} {d : DV} {r : Res}
    (h : BodyW (calls P gs) P code rs.toList (fun _ _ => False) (fun d' σ => d' = d ∧ r.lh = σ.lh ∧ r.nid = σ.nid) ⟨envA args, lh, nid, []⟩) : HPanic P gs f args lh nid d r := by
  refine ⟨hf.enter, fun w A ρ vals hS hG hO hF hr => (body_sound hm hf hn h hS hG hO hF hr).mono fun e w' hL => ?_⟩
  cases e with
  | returned x => obtain ⟨v, σ, A', ρ', a, ⟨τ, hf, rfl⟩, _⟩ := hL; exact hf.elim
  | panicked ch =>
    obtain ⟨d', x, σ, A', ρ', a, rfl, ⟨τ, ⟨rfl, e1, e2⟩, rfl⟩, h2, h3, h4⟩ := hL
    refine ⟨x, rfl, A', ρ', ?_, h2, ?_⟩
    · rw [e1]; exact { h3.toHS with }
    · rw [e2]; exact h4.names hF
  | outgrown => exact hL.elim

/-- Data, read off a walk's end. -/
theorem frz_donated {n : Nat} (hS : Sim c A ρ σ a w) {v : AV} {d : DV} {x : Value} (h : frz σ.lh n v = some d) (hv : ARep w A ρ v x) {bs : List Nat} (hb : ∀ b ∈ reach σ.lh n v, b ∈ bs) :
    DRep w (fun g => A g ∨ ∃ b r k, b ∈ bs ∧ ρ b = some r ∧ σ.lh b = some k ∧ r.g = g) d x :=
  frz_sound (fun g h => .inl h) (fun b r k h1 h2 => hS.blk b r k h1 h2) n v d x h (fun b hb' r k h1 h2 => .inr ⟨b, r, k, hb b hb', h1, h2, rfl⟩) hv

/-- What stands behind the result. -/
inductive RetOk (σ : St) : AV → Ret → Prop where
  | imm (v : AV) (d : DV) (h : frz σ.lh 8 v = some d) : RetOk σ v ⟨.d d, []⟩
  | fresh (b es len : Nat) (k : LB) (ds : List DV) (h : σ.lh b = some k) (hl : k.live = true) (hf : k.els.mapM (frz σ.lh 7) = some ds) (hn : b ∉ k.els.flatMap (reach σ.lh 7)) :
      RetOk σ (.slc b es 0 len) ⟨.slc 0 es 0 len, [{ k with els := ds.map .d }]⟩

def lh0 : Nat → Option LB := fun _ => none

theorem below_of {m : Nat} {w' : World} {A' : Nat → Prop} {lh : Nat → Option LB} (hS : HS (ctx0 w A (fun _ => none) lh0 m 0) A' ρ lh w') : Below w.heap.size w w' :=
  ⟨hS.os, hS.tape, hS.output, hS.hsize, fun k hk => hS.frame k hk (fun ⟨b, r, q, h, _⟩ => by cases h)⟩

theorem new_of {m : Nat} {w' : World} {A' : Nat → Prop} {lh : Nat → Option LB} (hS : HS (ctx0 w A (fun _ => none) lh0 m 0) A' ρ lh w') {g : Nat} (h : A' g) : A g ∨ w.heap.size ≤ g := by
  rcases hS.new g h with h | h | h
  · exact .inl h
  · obtain ⟨b, r, q, h, _⟩ := h; cases h
  · exact .inr h

theorem retrep_of {m : Nat} {w' : World} {A' : Nat → Prop} (hS : Sim (ctx0 w A (fun _ => none) lh0 m 0) A' ρ σ a w') {v : AV} {r : Ret} (hr : RetOk σ v r) {x : Value} (hx : ARep w' A' ρ v x) :
    RetRep w A r x w' := by
  have hB := below_of hS.toHS
  cases hr with
  | imm _ d h =>
    have hD := hS.donate (reach σ.lh 8 v)
    exact ⟨_, fun _ => none, hB, fun g h => hD.up g h, fun g h => new_of hD.toHS h, hD.lt, .d _ _ (frz_donated hS h hx (fun b hb => hb)), (fun b k h => by simp at h), (fun b q b' q' h => by cases h), (fun b q h => by cases h)⟩
  | fresh b es len k ds hk hlive hf hn =>
    cases hx with
    | slc _ _ _ _ q hq he hle =>
      have hD := hS.donate (k.els.flatMap (reach σ.lh 7))
      have hlh : applyChg σ.lh (deaden σ.lh (k.els.flatMap (reach σ.lh 7))) b = some k := by
        unfold deaden; rw [applyChg_map, if_neg hn]; exact hk
      have hown := hD.own b q k hq hlh hlive
      have hbr := hS.blk b q k hq hk
      obtain ⟨f1, f2⟩ := frz_list hf
      let ρ' : Nat → Option BR := fun i => if i = 0 then some q else none
      have toflat : BRep w' (fun g => A' g ∨ ∃ b r k', b ∈ k.els.flatMap (reach σ.lh 7) ∧ ρ b = some r ∧ σ.lh b = some k' ∧ r.g = g) ρ' { k with els := ds.map .d } q := by
        obtain ⟨⟨cur, fr, h1, h2, h3, h4, h5⟩, e1, e2, e3, e4⟩ := hbr
        have cel : ∀ j, j < k.els.length → (ds.map AV.d).getD j .undef = .d (ds.getD j .inil) := fun j hj => getD_map_d _ _ (by omega)
        refine ⟨⟨cur, fr, h1, h2, h3, h4, fun j m hj hm => ?_⟩, e1, by simp only [List.length_map]; omega, e3, fun j hj => ?_⟩
        · simp only [List.length_map] at hj
          have hj' : j < k.els.length := by omega
          obtain ⟨y, p1, p2, p3⟩ := h5 j m hj' hm
          refine ⟨y, p1, p2, ?_⟩
          obtain ⟨g1, g2⟩ := frz_cells (f2 j hj')
          have hlen := e4 j hj'
          have hm : m < k.es := hm
          obtain ⟨n', _, g3, g4⟩ := g2 m (by omega)
          rw [cel j hj', dcells, getD_map_d _ _ (by omega)]
          exact .d _ _ (frz_donated hS g3 p3 (fun b' hb' => reach_el (lh := σ.lh) (n := 7) hj' b' (g4 b' hb')))
        · simp only [List.length_map] at hj
          have hj' : j < k.els.length := by omega
          obtain ⟨g1, g2⟩ := frz_cells (f2 j hj')
          rw [cel j hj', dcells, List.length_map, g1]; exact e4 j hj'
      refine ⟨_, ρ', hB, fun g h => hD.up g h, fun g h => new_of hD.toHS h, hD.lt, ?_, fun i k' h => ?_, fun i q1 i' q2 h1 h2 _ => ?_, fun i q1 h => ?_⟩
      · have := ARep.slc (w := w') (A := fun g => A' g ∨ ∃ b r k', b ∈ k.els.flatMap (reach σ.lh 7) ∧ ρ b = some r ∧ σ.lh b = some k' ∧ r.g = g) (ρ := ρ') 0 es 0 len q (by simp [ρ']) he (by simpa using hle)
        simpa using this
      · have hi : i = 0 := by
          rcases Nat.eq_zero_or_pos i with h0 | h0
          · exact h0
          · rw [List.getElem?_eq_none (by simp; omega)] at h; cases h
        subst hi
        simp at h; subst h
        refine ⟨hlive, q, by simp [ρ'], toflat, ?_, hown.1⟩
        rcases hown.2 with h | h
        · obtain ⟨b', r', q', h, _⟩ := h; cases h
        · exact h
      · simp only [ρ'] at h1 h2
        split at h1
        · split at h2
          · omega
          · cases h2
        · cases h1
      · simp only [ρ'] at h
        split at h
        · simp; omega
        · cases h

theorem hs0 {vals : Array Value} {args : List DV} (hA : ∀ g, A g → g < w.heap.size) : HS (ctx0 w A (fun _ => none) lh0 0 0) A (fun _ => none) lh0 w := {
  blk := fun b r k h => by cases h
  inj := fun b r b' r' h => by cases h
  own := fun b r k h => by cases h
  dead := fun b r k h => by cases h
  lt := hA
  up := fun g h => h
  new := fun g h => .inl h
  os := rfl
  tape := rfl
  output := rfl
  hsize := Nat.le_refl _
  frame := fun g _ _ => rfl }

theorem argsD {args : List DV} {vals : Array Value} (hl : vals.size = args.length) (hr : ∀ i, i < args.length → DRep w A (args.getD i .inil) (vals.getD i undef)) : ARepL w A ρ (args.map .d) vals :=
  ⟨by simpa using hl, fun i hi => by have hi : i < args.length := by simpa using hi
                                     rw [getD_map_d _ _ hi]; exact .d _ _ (hr i hi)⟩

/-- Where a body's walk begins when all arguments are data. -/
def st0 (args : List DV) : St := ⟨envA (args.map .d), lh0, 0, []⟩

/-- THE CONTRACT OUT OF THE WALK. -/
theorem pure_of_body (hm : P.follows .mixedOrders = true) {f : FuncId} {code : Code} {rs : Array ResultVar} {n : Nat} (hf : FnIs P f code rs n) {args : List DV} (hn : args.length ≤ n) {r : Ret}
    (h : BodyW (calls P gs) P code rs.toList (fun v σ => RetOk σ v r) (fun _ _ => False) (st0 args)) : PureCall P gs f args r := by
  refine ⟨hf.enter, fun w A vals hA hl hr hG => (body_sound (args := args.map .d) (ρ := fun _ => none) hm hf (by simpa using hn) h (hs0 (vals := vals) (args := args) hA) hG (fun g _ ⟨b, r, q, h, _⟩ => by cases h) (fun _ _ => rfl) (argsD hl hr)).mono fun e w' hL => ?_⟩
  cases e with
  | returned x =>
    obtain ⟨v, σ, A', ρ', a, ⟨τ, h1, rfl⟩, h2, h3, h4⟩ := hL
    refine ⟨x, rfl, retrep_of h3 ?_ h2⟩
    cases h1 with
    | imm _ d hd => exact .imm v d hd
    | fresh b es len k ds q1 q2 q3 q4 => exact .fresh b es len k ds q1 q2 q3 q4
  | panicked ch => obtain ⟨d, x, σ, A', ρ', a, _, ⟨τ, hf, _⟩, _⟩ := hL; exact hf.elim
  | outgrown => exact hL.elim

theorem panic_of_body (hm : P.follows .mixedOrders = true) {f : FuncId} {code : Code} {rs : Array ResultVar} {n : Nat} (hf : FnIs P f code rs n) {args : List DV} (hn : args.length ≤ n) {d : DV}
    (h : BodyW (calls P gs) P code rs.toList (fun _ _ => False) (fun d' _ => d' = d) (st0 args)) : PanicCall P gs f args d := by
  refine ⟨hf.enter, fun w A vals hA hl hr hG => (body_sound (args := args.map .d) (ρ := fun _ => none) hm hf (by simpa using hn) h (hs0 (vals := vals) (args := args) hA) hG (fun g _ ⟨b, r, q, h, _⟩ => by cases h) (fun _ _ => rfl) (argsD hl hr)).mono fun e w' hL => ?_⟩
  cases e with
  | returned x => obtain ⟨v, σ, A', ρ', a, ⟨τ, hf, rfl⟩, _⟩ := hL; exact hf.elim
  | panicked ch =>
    obtain ⟨d', x, σ, A', ρ', a, rfl, ⟨τ, rfl, rfl⟩, h2, h3, h4⟩ := hL
    exact ⟨x, rfl, A', fun _ => none, below_of h3.toHS, h3.up, fun g h => new_of h3.toHS h, h3.lt, .d _ _ h2, (fun b k h => by simp at h), (fun b q b' q' h => by cases h), (fun b q h => by cases h)⟩
  | outgrown => exact hL.elim
end
end
#print axioms pure_of_body
end Go.Proofs.Am
