/- One operation of whatever kind. -/
import Derived.Test.YtmjkaekhjmlnbaaGreatDoorAmFrz
set_option linter.unusedVariables false
set_option linter.unusedSimpArgs false
namespace Go.Proofs.Am
open Go Go.RowKit

def scalar0 : DV → Bool
  | .int _ _ | .bool _ | .str _ | .pnil | .snil | .fnil | .inil => true
  | _ => false

def scalar1 : DV → Bool
  | .tup l => l.all scalar0
  | .agg l => l.all scalar0
  | v => scalar0 v

/-- Data without memory of its own. -/
def scalarD : DV → Bool
  | .iface _ v => scalar1 v
  | v => scalar1 v

theorem scalar0_rep {d : DV} (h : scalar0 d = true) {w w' : World} {A A' : Nat → Prop} {v : Value} (hd : DRep w A d v) : DRep w' A' d v := by
  cases hd with
  | str s hs => exact .str s hs
  | int k n => exact .int k n
  | bool b => exact .bool b
  | pnil => exact .pnil
  | snil => exact .snil
  | fnil => exact .fnil
  | inil => exact .inil
  | _ => simp [scalar0] at h

theorem scalar1_rep {d : DV} (h : scalar1 d = true) {w w' : World} {A A' : Nat → Prop} {v : Value} (hd : DRep w A d v) : DRep w' A' d v := by
  have el : ∀ (l : List DV), l.all scalar0 = true → ∀ i, i < l.length → scalar0 (l.getD i .inil) = true := fun l hl i hi =>
    List.all_eq_true.1 hl _ (by simp [List.getD, List.getElem?_eq_getElem hi])
  cases hd with
  | agg cs vs hl hone hh => exact .agg cs vs hl hone (fun i hi => scalar0_rep (el cs h i hi) (hh i hi))
  | tup cs vs hl hh => exact .tup cs vs hl (fun i hi => scalar0_rep (el cs h i hi) (hh i hi))
  | str s hs => exact .str s hs
  | int k n => exact .int k n
  | bool b => exact .bool b
  | pnil => exact .pnil
  | snil => exact .snil
  | fnil => exact .fnil
  | inil => exact .inil
  | _ => simp [scalar1, scalar0] at h

theorem scalarD_rep {d : DV} (h : scalarD d = true) {w w' : World} {A A' : Nat → Prop} {v : Value} (hd : DRep w A d v) : DRep w' A' d v := by
  cases hd with
  | iface t d x hh => exact .iface t d x (scalar1_rep h hh)
  | agg cs vs hl hone hh => exact scalar1_rep (d := .agg cs) h (.agg cs vs hl hone hh)
  | tup cs vs hl hh => exact scalar1_rep (d := .tup cs) h (.tup cs vs hl hh)
  | str s hs => exact .str s hs
  | int k n => exact .int k n
  | bool b => exact .bool b
  | pnil => exact .pnil
  | snil => exact .snil
  | fnil => exact .fnil
  | inil => exact .inil
  | _ => simp [scalarD, scalar1, scalar0] at h

def isD : AV → Bool
  | .d _ => true
  | _ => false

/-- THE CONTRACT of a call with the local blocks of its caller. -/
def HCall (P : Program) (gs : List Nat) (f : FuncId) (args : List AV) (lh : Nat → Option LB) (nid : Nat) (r : Res) : Prop :=
  enterOk P f = true ∧ ∀ (w : World) (A : Nat → Prop) (ρ : Nat → Option BR) (vals : Array Value), HS (ctx0 w A ρ lh 0 0) A ρ lh w → GInt gs w → (∀ g ∈ gs, ¬ Own ρ lh g) → Free ρ nid → ARepL w A ρ args vals →
    Calls P f vals w fun e w' => ∃ v, e = .returned v ∧ ∃ A' ρ', HS (ctx0 w A ρ lh 0 0) A' ρ' r.lh w' ∧ ARep w' A' ρ' r.v v ∧ Names ρ ρ' nid r.nid

/-- The same for a call that gives up. -/
def HPanic (P : Program) (gs : List Nat) (f : FuncId) (args : List AV) (lh : Nat → Option LB) (nid : Nat) (d : DV) (r : Res) : Prop :=
  enterOk P f = true ∧ ∀ (w : World) (A : Nat → Prop) (ρ : Nat → Option BR) (vals : Array Value), HS (ctx0 w A ρ lh 0 0) A ρ lh w → GInt gs w → (∀ g ∈ gs, ¬ Own ρ lh g) → Free ρ nid → ARepL w A ρ args vals →
    Calls P f vals w fun e w' => ∃ v, e = .panicked [{ v, recovered := false }] ∧ ∃ A' ρ', HS (ctx0 w A ρ lh 0 0) A' ρ' r.lh w' ∧ DRep w' A' d v ∧ Names ρ ρ' nid r.nid

/-- Blocks that are not written any more. -/
def deaden (lh : Nat → Option LB) (bs : List Nat) : List (Nat × Option LB) := bs.map fun b => (b, (lh b).map fun k => { k with live := false })

/-- Calls by contract; local blocks are lent where the result has no memory, or given away. -/
def calls (P : Program) (gs : List Nat) : CallE := {
  ok lh nid f args rs r := ∃ ds p, args.mapM (frz lh 8) = some ds ∧ PureCall P gs f ds p ∧ rs = args.flatMap (reach lh 8) ∧
    (((args.all isD = true ∨ ∃ d, p = ⟨.d d, []⟩ ∧ scalarD d = true) ∧ r = p.op nid) ∨ r = ⟨(p.op nid).v, deaden lh rs ++ (p.op nid).chg, (p.op nid).nid⟩)
  okT lh nid f args r := HCall P gs f args lh nid r
  panD lh f args rs d := ∃ ds, args.mapM (frz lh 8) = some ds ∧ PanicCall P gs f ds d ∧ scalarD d = true ∧ rs = args.flatMap (reach lh 8)
  pan lh nid f args d r := (∃ ds, args.mapM (frz lh 8) = some ds ∧ PanicCall P gs f ds d ∧ scalarD d = true ∧ r = ⟨.undef, lh, nid⟩) ∨ HPanic P gs f args lh nid d r }

section
variable {P : Program} {gs : List Nat} {c : Ctx} {A : Nat → Prop} {ρ : Nat → Option BR} {σ : St} {a : Act} {w : World}

structure CtxOk (gs : List Nat) (c : Ctx) : Prop where
  g0 : GInt gs c.w0
  gO : ∀ g ∈ gs, ¬ c.O0 g

theorem Sim.gint (hS : Sim c A ρ σ a w) (hc : CtxOk gs c) : GInt gs w := fun g hg => by
  obtain ⟨m, hm⟩ := hc.g0 g hg
  have hlt := World.block_lt_of_cell? c.w0 _ hm
  exact ⟨m, by rw [World.cell?_of_block (w := c.w0) (w' := w) (a := ⟨g, 0, none⟩) (hS.frame g hlt (hc.gO g hg))]; exact hm⟩

/-- What follows an operation that yields. -/
theorem wp_yields {o : Oper} (hd : ∀ d, o.dst = some d → d < c.n) {s : Sem Value} (ho : execOp a.eval o = (do pure (.value (← s)))) {r : OpR}
    (hy : Yields P c A ρ σ a s w r) {next : Act → World → Prop} {Q : Exit → Act → World → Prop} (hn : ∀ x A' ρ' w', Names ρ ρ' σ.nid r.nid → Sim c A' ρ' (σ.app o.dst (r.res σ.lh)) (a.put o.dst x) w' → next (a.put o.dst x) w') : o.wp P a w next Q := by
  obtain ⟨x, w', A', ρ', h1, h2, h3, h4⟩ := hy
  unfold Oper.wp
  rw [ho]
  simp only [Sem.run_bind, h1, Result.andThen_ok, Sem.run_pure, Oper.upon_value]
  exact hn x A' ρ' w' h4 (h2.put h3 o.dst hd)

theorem args_rep {vs : Array Operand} {caps : Array Value} {capsA : List AV} (hS : Sim c A ρ σ a w) (hcl : caps.size = capsA.length) (hcr : ∀ i, i < capsA.length → ARep w A ρ (capsA.getD i .undef) (caps.getD i undef)) :
    (vs.map a.eval ++ caps).size = (vs.toList.map σ.eval ++ capsA).length ∧ ∀ i, i < (vs.toList.map σ.eval ++ capsA).length → ARep w A ρ ((vs.toList.map σ.eval ++ capsA).getD i .undef) ((vs.map a.eval ++ caps).getD i undef) := by
  refine ⟨by simp [hcl], fun i hi => ?_⟩
  by_cases h : i < vs.size
  · have e1 : (vs.toList.map σ.eval ++ capsA).getD i .undef = σ.eval (vs[i]) := by
      simp only [List.getD_eq_getElem?_getD]; rw [List.getElem?_append_left (by simpa using h)]; simp [h]
    have e2 : (vs.map a.eval ++ caps).getD i undef = a.eval (vs[i]) := by
      simp only [Array.getD_eq_getD_getElem?]; rw [Array.getElem?_append_left (by simpa using h)]; simp [h]
    rw [e1, e2]; exact eval_rep hS _
  · have hi' : i - vs.size < capsA.length := by simp at hi; omega
    have e1 : (vs.toList.map σ.eval ++ capsA).getD i .undef = capsA.getD (i - vs.size) .undef := by
      simp only [List.getD_eq_getElem?_getD]; rw [List.getElem?_append_right (by simpa using h)]; simp
    have e2 : (vs.map a.eval ++ caps).getD i undef = caps.getD (i - vs.size) undef := by
      simp only [Array.getD_eq_getD_getElem?]; rw [Array.getElem?_append_right (by simpa using h)]; simp
    rw [e1, e2]; exact hcr _ hi'

/-- Arguments as data, all local memory being readable. -/
theorem lent (hS : Sim c A ρ σ a w) {args : List AV} {vals : Array Value} (hl : vals.size = args.length) (hr : ∀ i, i < args.length → ARep w A ρ (args.getD i .undef) (vals.getD i undef))
    {ds : List DV} (hf : args.mapM (frz σ.lh 8) = some ds) {A1 : Nat → Prop} (hA1 : ∀ g, A g → A1 g) (hre : ∀ b ∈ args.flatMap (reach σ.lh 8), ∀ r k, ρ b = some r → σ.lh b = some k → A1 r.g) :
    vals.size = ds.length ∧ (∀ i, i < ds.length → DRep w A1 (ds.getD i .inil) (vals.getD i undef)) := by
  obtain ⟨q1, q2⟩ := frz_list hf
  refine ⟨by omega, fun i hi => ?_⟩
  exact frz_sound hA1 (fun b r k h1 h2 => hS.blk b r k h1 h2) 8 _ _ _ (q2 i (by omega)) (fun b hb r k h1 h2 => hre b (reach_el (lh := σ.lh) (n := 8) (show i < args.length by omega) b hb) r k h1 h2) (hr i (by omega))

theorem reach_isD (lh : Nat → Option LB) (n : Nat) : ∀ (args : List AV), args.all isD = true → args.flatMap (reach lh n) = []
  | [], _ => rfl
  | x :: r, h => by
    simp only [List.all_cons, Bool.and_eq_true] at h
    have hx : reach lh n x = [] := by
      cases x with
      | d v => cases n <;> rfl
      | _ => simp [isD] at h
    rw [List.flatMap_cons, hx, reach_isD lh n r h.2]; rfl

theorem applyChg_map (f : Nat → Option LB) : ∀ (bs : List Nat) (lh : Nat → Option LB) (b : Nat), applyChg lh (bs.map fun b => (b, f b)) b = if b ∈ bs then f b else lh b
  | [], lh, b => by simp [applyChg]
  | x :: bs, lh, b => by
    have := applyChg_map f bs (upd lh x (f x)) b
    simp only [applyChg, List.map_cons, List.foldl_cons] at this ⊢
    rw [this]
    by_cases h : b ∈ bs
    · simp [h]
    · by_cases e : b = x
      · subst e; simp [h]
      · simp [h, e, upd_ne]

/-- Blocks given away: they are data from now on. -/
theorem Sim.donate (hS : Sim c A ρ σ a w) (bs : List Nat) :
    Sim c (fun g => A g ∨ ∃ b r k, b ∈ bs ∧ ρ b = some r ∧ σ.lh b = some k ∧ r.g = g) ρ { σ with lh := applyChg σ.lh (deaden σ.lh bs) } a w := by
  have hlh : ∀ b, applyChg σ.lh (deaden σ.lh bs) b = if b ∈ bs then (σ.lh b).map (fun k => { k with live := false }) else σ.lh b := fun b => applyChg_map _ bs σ.lh b
  have kp : Keeps w w A (fun g => A g ∨ ∃ b r k, b ∈ bs ∧ ρ b = some r ∧ σ.lh b = some k ∧ r.g = g) := fun g h => ⟨.inl h, rfl⟩
  have look : ∀ b k, applyChg σ.lh (deaden σ.lh bs) b = some k → ∃ k0, σ.lh b = some k0 ∧ ((b ∈ bs ∧ k = { k0 with live := false }) ∨ (b ∉ bs ∧ k = k0)) := fun b k h => by
    rw [hlh] at h
    by_cases hb : b ∈ bs
    · rw [if_pos hb] at h
      obtain ⟨k0, h1, rfl⟩ := Option.map_eq_some_iff.1 h
      exact ⟨k0, h1, .inl ⟨hb, rfl⟩⟩
    · rw [if_neg hb] at h; exact ⟨k, h, .inr ⟨hb, rfl⟩⟩
  have some1 : ∀ b, (applyChg σ.lh (deaden σ.lh bs) b).isSome = true → (σ.lh b).isSome = true := fun b h => by
    obtain ⟨k, hk⟩ := Option.isSome_iff_exists.1 h
    obtain ⟨k0, h0, _⟩ := look b k hk
    simp [h0]
  refine { size := hS.size, defers := hS.defers.mono kp (fun _ _ h => h), env := fun t => (hS.env t).mono kp (fun _ _ h => h), blk := ?_, inj := fun b r b' r' h1 h2 s1 s2 hg => hS.inj b r b' r' h1 h2 (some1 b s1) (some1 b' s2) hg, own := ?_, dead := ?_, lt := ?_, up := fun g h => .inl (hS.up g h), new := ?_, os := hS.os, tape := hS.tape, output := hS.output, hsize := hS.hsize, frame := hS.frame }
  · intro b r k h hk
    obtain ⟨k0, h0, hc⟩ := look b k hk
    have hB := (hS.blk b r k0 h h0).mono kp (fun _ _ h => h) rfl
    rcases hc with ⟨_, rfl⟩ | ⟨_, rfl⟩
    · obtain ⟨e, q1, q2, q3, q4⟩ := hB
      exact ⟨e, q1, q2, q3, q4⟩
    · exact hB
  · intro b r k h hk hl
    obtain ⟨k0, h0, hc⟩ := look b k hk
    rcases hc with ⟨_, rfl⟩ | ⟨hnb, rfl⟩
    · cases hl
    · obtain ⟨q1, q2⟩ := hS.own b r k h h0 hl
      refine ⟨?_, q2⟩
      rintro (hA | ⟨b', r', k', hb', h1, h2, hg⟩)
      · exact q1 hA
      · have := hS.inj b' r' b r h1 h (by simp [h2]) (by simp [h0]) hg
        subst this; exact hnb hb'
  · intro b r k h hk hl
    obtain ⟨k0, h0, hc⟩ := look b k hk
    rcases hc with ⟨hb, rfl⟩ | ⟨hnb, rfl⟩
    · exact .inr ⟨b, r, k0, hb, h, h0, rfl⟩
    · exact .inl (hS.dead b r k h h0 hl)
  · intro g hg
    rcases hg with h | ⟨b, r, k, _, h1, h2, rfl⟩
    · exact hS.lt g h
    · exact hS.g_lt h1 h2
  · intro g hg
    rcases hg with h | ⟨b, r, k, _, h1, h2, rfl⟩
    · exact hS.new g h
    · cases hl : k.live with
      | true => exact .inr (hS.own b r k h1 h2 hl).2
      | false => exact hS.new _ (hS.dead b r k h1 h2 hl)

theorem RetRep.scalar {w w' : World} {A A1 : Nat → Prop} {d : DV} (hd : scalarD d = true) {v : Value} (h : RetRep w A1 ⟨.d d, []⟩ v w') (hA : ∀ g, A g → g < w.heap.size) : RetRep w A ⟨.d d, []⟩ v w' := by
  obtain ⟨A', q, hB, hup, hnew, hlt, hv, hblk, hinj, hids⟩ := h.ex
  exact ⟨A, fun _ => none, hB, fun g h => h, fun g h => .inl h, fun g h => Nat.lt_of_lt_of_le (hA g h) hB.size, .d _ _ (scalarD_rep hd hv.ofD), fun b k h => by simp at h, fun b q b' q' h => by simp at h, fun b q h => by simp at h⟩

def callPost (next : Act → World → Prop) (Q : Exit → Act → World → Prop) (a : Act) (dst : Option Tmp) : Ending → World → Prop
  | .returned v, w'' => next (a.put dst v) w''
  | .panicked chain, w'' => Q (.panic chain) a w''
  | .outgrown, _ => LetsOut Q

theorem Sim.gown (hS : Sim c A ρ σ a w) (hc : CtxOk gs c) : ∀ g ∈ gs, ¬ Own ρ σ.lh g := fun g hg ho => by
  obtain ⟨m, hm⟩ := hc.g0 g hg
  have hlt := World.block_lt_of_cell? c.w0 _ hm
  rcases (hS.own_of ho).2 with h | h
  · exact hc.gO g hg h
  · simp only at hlt; omega

theorem call_sound (hc : CtxOk gs c) (hS : Sim c A ρ σ a w) {f : FuncId} {args : List AV} {vals : Array Value} (hl : vals.size = args.length) (hr : ∀ i, i < args.length → ARep w A ρ (args.getD i .undef) (vals.getD i undef))
    {dst : Option Tmp} (hd : ∀ d, dst = some d → d < c.n) {tx : Bool} {K : Res → Prop} {KP : DV → Res → Prop} (h : wpB (calls P gs) tx (.call σ.nid f args) σ.lh K KP)
    {next : Act → World → Prop} {Q : Exit → Act → World → Prop} (hf : ∀ r, K r → ∀ k, σ.nid + k < r.nid → ρ (σ.nid + k) = none) (hF : tx = true → Free ρ σ.nid)
    (hn : ∀ r x A' ρ' w', K r → Names ρ ρ' σ.nid r.nid → Sim c A' ρ' (σ.app dst r) (a.put dst x) w' → next (a.put dst x) w')
    (hp : ∀ d r x A' ρ' w', KP d r → Names ρ ρ' σ.nid r.nid → Sim c A' ρ' { σ with lh := r.lh, nid := r.nid } a w' → DRep w' A' d x → Q (.panic [{ v := x, recovered := false }]) a w') :
    enterOk P f = true ∧ Calls P f vals w (callPost next Q a dst) := by
  rcases h with ⟨r, rs, ⟨ds, p, hfz, ⟨hent, hpure⟩, hrs, hkind⟩, hK⟩ | ⟨htx, r, ⟨hent, hheap⟩, hK⟩ | ⟨htx, d, r, hpan, hK⟩ | ⟨d, rs, ⟨ds, hfz, ⟨hent, hpan⟩, hsc, hrs⟩, hK⟩
  · refine ⟨hent, ?_⟩
    rcases hkind with ⟨hkind, rfl⟩ | rfl
    · have fin : ∀ (e : Ending) w', (∃ v, e = .returned v ∧ RetRep w A p v w') → callPost next Q a dst e w' := fun e w' ⟨v, he, hR⟩ => by
        subst he
        obtain ⟨A', ρ', s1, s2, s3⟩ := hS.adopt (hf := fun k hk => hf _ hK k (by simp only [Ret.op, OpR.res]; omega)) hR
        exact hn _ v A' ρ' w' hK s3 (s1.put s2 dst hd)
      rcases hkind with hall | ⟨d, rfl, hsc⟩
      · obtain ⟨e1, e2⟩ := lent hS hl hr hfz (A1 := A) (fun g h => h) (fun b hb => by rw [reach_isD _ _ _ hall] at hb; cases hb)
        exact (hpure w A vals hS.lt e1 e2 (hS.gint hc)).mono fin
      · obtain ⟨e1, e2⟩ := lent hS hl hr hfz (A1 := fun g => A g ∨ ∃ b r k, ρ b = some r ∧ σ.lh b = some k ∧ r.g = g) (fun g h => .inl h) (fun b hb r k h1 h2 => .inr ⟨b, r, k, h1, h2, rfl⟩)
        refine (hpure w _ vals (fun g h => ?_) e1 e2 (hS.gint hc)).mono fun e w' ⟨v, he, hR⟩ => fin e w' ⟨v, he, hR.scalar hsc hS.lt⟩
        rcases h with h | ⟨b, r, k, h1, h2, rfl⟩
        · exact hS.lt g h
        · exact hS.g_lt h1 h2
    · have hD := hS.donate rs
      obtain ⟨e1, e2⟩ := lent hS hl hr hfz (A1 := fun g => A g ∨ ∃ b r k, b ∈ rs ∧ ρ b = some r ∧ σ.lh b = some k ∧ r.g = g) (fun g h => .inl h) (fun b hb r k h1 h2 => .inr ⟨b, r, k, by rw [hrs]; exact hb, h1, h2, rfl⟩)
      refine (hpure w _ vals hD.lt e1 e2 (hS.gint hc)).mono fun e w' ⟨v, he, hR⟩ => ?_
      subst he
      obtain ⟨A', ρ', s1, s2, s3⟩ := hD.adopt (hf := fun k hk => hf _ hK k (by simp only [Ret.op, OpR.res]; omega)) hR
      refine hn _ v A' ρ' w' hK s3 ?_
      have s4 := s1.put s2 dst hd
      have e3 : applyChg (applyChg σ.lh (deaden σ.lh rs)) (p.op σ.nid).chg = applyChg σ.lh (deaden σ.lh rs ++ (p.op σ.nid).chg) := by simp [applyChg, List.foldl_append]
      simp only [e3] at s4
      exact s4
  · refine ⟨hent, (hheap w A ρ vals (hS.hs 0 0) (hS.gint hc) (hS.gown hc) (hF htx) ⟨hl, hr⟩).mono fun e w' ⟨v, he, A', ρ', q1, q2, q3⟩ => ?_⟩
    subst he
    have s1 := hS.take q1 q3 (fun k hk => hF htx _ (Nat.le_add_right _ _))
    exact hn r v A' ρ' w' hK q3 (s1.put q2 dst hd)
  · rcases hpan with ⟨ds, hfz, ⟨hent, hpan⟩, hsc, rfl⟩ | ⟨hent, hheap⟩
    · obtain ⟨e1, e2⟩ := lent hS hl hr hfz (A1 := fun g => A g ∨ ∃ b r k, ρ b = some r ∧ σ.lh b = some k ∧ r.g = g) (fun g h => .inl h) (fun b hb r k h1 h2 => .inr ⟨b, r, k, h1, h2, rfl⟩)
      refine ⟨hent, (hpan w _ vals (fun g h => ?_) e1 e2 (hS.gint hc)).mono fun e w' ⟨v, he, hR⟩ => ?_⟩
      · rcases h with h | ⟨b, r, k, h1, h2, rfl⟩
        · exact hS.lt g h
        · exact hS.g_lt h1 h2
      · subst he
        obtain ⟨A', ρ', s1, s2, s3⟩ := hS.adopt (hf := fun k hk => by simp at hk) (hR.scalar hsc hS.lt)
        have s1' : Sim c A' ρ' σ a w' := by simpa [Ret.op, applyChg] using s1
        have s2' : ARep w' A' ρ' (.d d) v := by simpa [Ret.op, AV.sh] using s2
        exact hp d _ v A' ρ' w' hK (by simpa [Ret.op] using s3) s1' s2'.ofD
    · refine ⟨hent, (hheap w A ρ vals (hS.hs 0 0) (hS.gint hc) (hS.gown hc) (hF htx) ⟨hl, hr⟩).mono fun e w' ⟨v, he, A', ρ', q1, q2, q3⟩ => ?_⟩
      subst he
      have s1 := hS.take q1 q3 (fun k hk => hF htx _ (Nat.le_add_right _ _))
      exact hp d r v A' ρ' w' hK q3 s1 q2
  · obtain ⟨e1, e2⟩ := lent hS hl hr hfz (A1 := fun g => A g ∨ ∃ b r k, ρ b = some r ∧ σ.lh b = some k ∧ r.g = g) (fun g h => .inl h) (fun b hb r k h1 h2 => .inr ⟨b, r, k, h1, h2, rfl⟩)
    refine ⟨hent, (hpan w _ vals (fun g h => ?_) e1 e2 (hS.gint hc)).mono fun e w' ⟨v, he, hR⟩ => ?_⟩
    · rcases h with h | ⟨b, r, k, h1, h2, rfl⟩
      · exact hS.lt g h
      · exact hS.g_lt h1 h2
    · subst he
      obtain ⟨A', ρ', s1, s2, s3⟩ := hS.adopt (hf := fun k hk => by simp at hk) (hR.scalar hsc hS.lt)
      have s1' : Sim c A' ρ' σ a w' := by simpa [Ret.op, applyChg] using s1
      have s2' : ARep w' A' ρ' (.d d) v := by simpa [Ret.op, AV.sh] using s2
      exact hp d _ v A' ρ' w' hK (by simpa [Ret.op] using s3) s1' s2'.ofD
end
end Go.Proofs.Am
