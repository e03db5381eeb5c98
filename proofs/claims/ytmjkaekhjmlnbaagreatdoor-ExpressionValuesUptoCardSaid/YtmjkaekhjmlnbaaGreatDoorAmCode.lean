/- The walk through code. -/
import Derived.Test.YtmjkaekhjmlnbaaGreatDoorAmDraw2
import Derived.LoopN
import Derived.Scope
set_option linter.unusedVariables false
set_option linter.unusedSimpArgs false
namespace Go.Proofs.Am
open Go Go.RowKit

def te0 : TE := ⟨[], []⟩

/-- Operations that look at no local block. -/
def dry : Op → Bool
  | .move _ | .assign _ | .pick .. | .build .. | .nilCheck _ | .binOp .. | .unOp .. | .makeInterface .. | .makeFunc .. | .slice .. | .fieldAddr .. | .field .. | .indexAddr .. | .index .. | .extract .. | .typeAssert .. => true
  | .call { callee := .builtin .len, .. } => true
  | _ => false

/-- A drawn region's walk: what comes out, and what each operation read and wrote. -/
def wpD (E : CallE) (P : Program) (ops : Array Oper) (n0 : Nat) : List Oper → Nat → St → (St → List TE → Prop) → Prop
  | [], _, σ, K => K σ []
  | o :: rest, i, σ, K => match guardA ops σ.env o with
    | some true => wpBT E (opB P (n0 + i) σ.eval o.op) σ.lh fun r rs => r.nid ≤ n0 + i + 1 ∧
        wpD E P ops n0 rest (i + 1) { env := putE σ.env o.dst r.v, lh := applyChg σ.lh r.chg, nid := σ.nid, dfs := σ.dfs } fun σ' tr => K σ' (⟨rs, r.chg.map (·.1)⟩ :: tr)
    | some false => wpD E P ops n0 rest (i + 1) { σ with env := putE σ.env o.dst (.d (.tup [])) } fun σ' tr => K σ' (te0 :: tr)
    | none => False

/-- The same where operation p gives up with d; what depends on it (the list D) is not carried out. -/
def wpDP (E : CallE) (P : Program) (ops : Array Oper) (n0 p : Nat) (d : DV) (D : List Nat) : List Oper → Nat → St → (List TE → Prop) → Prop
  | [], _, σ, K => K []
  | o :: rest, i, σ, K =>
    if D.contains i = true then wpDP E P ops n0 p d D rest (i + 1) σ fun tr => K (te0 :: tr)
    else if i = p then guardA ops σ.env o = some true ∧ ∃ f args rs, opB P (n0 + i) σ.eval o.op = .call (n0 + i) f args ∧ E.panD σ.lh f args rs d ∧
        wpDP E P ops n0 p d D rest (i + 1) { σ with env := putE σ.env o.dst .undef } fun tr => K (⟨rs, []⟩ :: tr)
    else match guardA ops σ.env o with
      | some true => wpBT E (opB P (n0 + i) σ.eval o.op) σ.lh fun r rs => r.nid ≤ n0 + i + 1 ∧
          wpDP E P ops n0 p d D rest (i + 1) { env := putE σ.env o.dst r.v, lh := applyChg σ.lh r.chg, nid := σ.nid, dfs := σ.dfs } fun tr => K (⟨rs, r.chg.map (·.1)⟩ :: tr)
      | some false => wpDP E P ops n0 p d D rest (i + 1) { σ with env := putE σ.env o.dst (.d (.tup [])) } fun tr => K (te0 :: tr)
      | none => False

/-- D is what depends on p. -/
def skipOk (ops : Array Oper) (p : Nat) (D : List Nat) : Bool :=
  decide (p < ops.size) && !D.contains p && (D.all fun i => match ops[i]? with | some o => direct o p || (List.range ops.size).any fun j => D.contains j && direct o j | none => true) &&
    (ops.toList.zipIdx.all fun (o, i) => D.contains i || D.all fun j => !direct o j)

/-- Pairs whose order is open and of which both may look at local blocks. -/
def loose (ops : Array Oper) : List (Nat × Nat) :=
  ops.toList.zipIdx.flatMap fun (oi, i) => ops.toList.zipIdx.filterMap fun (oj, j) => if j < i ∧ direct oi j = false ∧ dry oi.op = false ∧ dry oj.op = false then some (i, j) else none

def drawOk (n : Nat) (ops : Array Oper) : Bool :=
  backwards ops && ops.toList.all (dstOk n) && ops.toList.zipIdx.all fun (oi, i) => ops.toList.zipIdx.all fun (oj, j) => !decide (j < i) || direct oi j || oi.apart ops oj

def codeOk (n : Nat) : Code → Bool
  | .region _ ops false => ops.toList.all (dstOk n)
  | .region _ ops true => drawOk n ops
  | .seq a b | .cond _ a b => codeOk n a && codeOk n b
  | .block _ c | .loop c | .scope c => codeOk n c
  | _ => true

def seqQ (Q : Exit → St → Prop) (K : St → Prop) : Exit → St → Prop
  | .normal, σ => K σ
  | e, σ => Q e σ

def blockQ (id : Nat) (Q : Exit → St → Prop) : Exit → St → Prop
  | .exit id', σ => if id' = id then Q .normal σ else Q (.exit id') σ
  | e, σ => Q e σ

def noGotoQ (Q : Exit → St → Prop) : Exit → St → Prop
  | .goto _, _ => False
  | e, σ => Q e σ

/-- The names in a value are below m, as far as d steps lead. -/
def bel (m : Nat) : Nat → AV → Bool
  | _, .d _ | _, .zc | _, .undef => true
  | _, .loc b _ _ _ | _, .slc b _ _ _ => decide (b < m)
  | 0, _ => false
  | d + 1, .agg cs => cs.all (bel m d)
  | d + 1, .tup cs => cs.all (bel m d)
  | d + 1, .fn _ cs => cs.all (bel m d)
  | d + 1, .iface _ v => bel m d v

/-- Names given to blocks anew. -/
def ren (π : Nat → Nat) : Nat → AV → AV
  | _, .loc b es i fo => .loc (π b) es i fo
  | _, .slc b es off len => .slc (π b) es off len
  | d + 1, .agg cs => .agg (cs.map (ren π d))
  | d + 1, .tup cs => .tup (cs.map (ren π d))
  | d + 1, .fn f cs => .fn f (cs.map (ren π d))
  | d + 1, .iface t v => .iface t (ren π d v)
  | _, v => v

/-- A state of which some is forgotten, and whose names from m on are given anew. -/
structure Forg (m : Nat) (σ σ₀ : St) : Prop where
  nid : m ≤ σ₀.nid
  dfs : σ₀.dfs = σ.dfs
  args : ∀ p ∈ σ.dfs, ∀ e ∈ p.2, bel m 8 e = true
  ex : ∃ π : Nat → Nat, (∀ b, b < m → π b = b) ∧ (∀ b b', (σ₀.lh b).isSome = true → (σ₀.lh b').isSome = true → π b = π b' → b = b') ∧
    (∀ t, σ₀.env t = .undef ∨ (σ.env t = ren π 8 (σ₀.env t) ∧ bel σ₀.nid 8 (σ₀.env t) = true)) ∧
    (∀ b, σ₀.lh b = none ∨ ∃ k, σ₀.lh b = some k ∧ σ.lh (π b) = some { k with els := k.els.map (ren π 8) } ∧ ∀ e ∈ k.els, bel σ₀.nid 8 e = true)

def iterN (m : Nat) (body : (Exit → St → Prop) → St → Prop) (Q : Exit → St → Prop) : Nat → St → Prop
  | 0, _ => False
  | n + 1, σ => ∃ σ₀, (σ₀ = σ ∨ Forg m σ σ₀) ∧ body (seqQ Q (iterN m body Q n)) σ₀

def WP (E : CallE) (P : Program) : Code → (Exit → St → Prop) → (DV → St → Prop) → St → Prop
  | .skip, Q, _, σ => Q .normal σ
  | .label _, Q, _, σ => Q .normal σ
  | .region _ ops false, Q, QP, σ => wpT E P ops ops.toList σ (Q .normal) QP
  | .region _ ops true, Q, QP, σ => (wpD E P ops σ.nid ops.toList 0 σ fun σ' tr => (∀ p ∈ loose ops, Indep (tr.getD p.1 te0) (tr.getD p.2 te0)) ∧ Q .normal { σ' with nid := σ.nid + ops.size }) ∨
      (∃ p d D, skipOk ops p D = true ∧ wpDP E P ops σ.nid p d D ops.toList 0 σ fun tr => (∀ p ∈ loose ops, Indep (tr.getD p.1 te0) (tr.getD p.2 te0)) ∧ QP d (dropped σ (ops.toList.filterMap (·.dst)) (tr.flatMap (·.writes)) (σ.nid + ops.size)))
  | .seq a b, Q, QP, σ => WP E P a (seqQ Q fun σ' => WP E P b Q QP σ') QP σ
  | .cond c a b, Q, QP, σ => match σ.eval c with
    | .d (.bool true) => WP E P a Q QP σ
    | .d (.bool false) => WP E P b Q QP σ
    | _ => False
  | .block id c, Q, QP, σ => WP E P c (blockQ id Q) QP σ
  | .loop c, Q, QP, σ => ∃ n, iterN σ.nid (fun Q' σ' => WP E P c Q' QP σ') Q n σ
  | .scope c, Q, QP, σ => WP E P c (noGotoQ Q) QP σ
  | .exit id, Q, _, σ => Q (.exit id) σ
  | .ret, Q, _, σ => Q .ret σ
  | _, _, _, _ => False

section
variable {P : Program} {gs : List Nat} {c : Ctx}

/-- Names given anew, below m. -/
def cut (m : Nat) (π : Nat → Nat) (ρ : Nat → Option BR) : Nat → Option BR := fun b => if b < m then ρ (π b) else none

theorem cut_eq {m : Nat} {π : Nat → Nat} {ρ : Nat → Option BR} {b : Nat} {r : BR} (h : cut m π ρ b = some r) : b < m ∧ ρ (π b) = some r := by
  unfold cut at h
  split at h
  · exact ⟨by assumption, h⟩
  · cases h

theorem bel_mono {m n : Nat} (hmn : m ≤ n) : ∀ (d : Nat) (v : AV), bel m d v = true → bel n d v = true := by
  intro d
  induction d with
  | zero =>
    intro v h
    cases v <;> first
      | rfl
      | (simp only [bel, decide_eq_true_eq] at h ⊢; omega)
      | exact h
  | succ d ih =>
    intro v h
    have al : ∀ (cs : List AV), cs.all (bel m d) = true → cs.all (bel n d) = true := fun cs h => List.all_eq_true.2 fun e he => ih e (List.all_eq_true.1 h e he)
    cases v with
    | agg cs => simp only [bel] at h ⊢; exact al cs h
    | tup cs => simp only [bel] at h ⊢; exact al cs h
    | fn f cs => simp only [bel] at h ⊢; exact al cs h
    | iface t v => rw [bel] at h ⊢; exact ih v h
    | loc b es i fo => simp only [bel, decide_eq_true_eq] at h ⊢; omega
    | slc b es o l => simp only [bel, decide_eq_true_eq] at h ⊢; omega
    | _ => rfl

/-- What leads to names below m alone keeps its names. -/
theorem ren_bel {m : Nat} {π : Nat → Nat} (hπ : ∀ b, b < m → π b = b) : ∀ (d : Nat) (v : AV), bel m d v = true → ren π d v = v := by
  intro d
  induction d with
  | zero =>
    intro v h
    cases v <;> first
      | rfl
      | (simp only [bel, decide_eq_true_eq] at h; simp only [ren, hπ _ h])
  | succ d ih =>
    intro v h
    have al : ∀ (cs : List AV), cs.all (bel m d) = true → cs.map (ren π d) = cs := fun cs h => by
      have := List.all_eq_true.1 h
      calc cs.map (ren π d) = cs.map id := List.map_congr_left fun e he => ih e (this e he)
        _ = cs := List.map_id cs
    cases v with
    | agg cs => simp only [bel] at h; simp only [ren, al cs h]
    | tup cs => simp only [bel] at h; simp only [ren, al cs h]
    | fn f cs => simp only [bel] at h; simp only [ren, al cs h]
    | iface t v => rw [bel] at h; rw [ren, ih v h]
    | loc b es i fo => simp only [bel, decide_eq_true_eq] at h; simp only [ren, hπ _ h]
    | slc b es o l => simp only [bel, decide_eq_true_eq] at h; simp only [ren, hπ _ h]
    | _ => rfl

theorem ren_ren (π₁ π₂ : Nat → Nat) : ∀ (d : Nat) (v : AV), ren π₁ d (ren π₂ d v) = ren (fun b => π₁ (π₂ b)) d v := by
  intro d
  induction d with
  | zero => intro v; cases v <;> rfl
  | succ d ih =>
    intro v
    have hf : (ren π₁ d ∘ ren π₂ d) = ren (fun b => π₁ (π₂ b)) d := funext ih
    cases v <;> first | rfl | simp only [ren, List.map_map, hf, ih]

theorem ren_undef {π : Nat → Nat} {d : Nat} {v : AV} (h : ren π d v = .undef) : v = .undef := by
  cases d <;> cases v <;> first | rfl | simp [ren] at h

theorem getD_ren (π : Nat → Nat) (d : Nat) (l : List AV) (i : Nat) : (l.map (ren π d)).getD i .undef = ren π d (l.getD i .undef) := by
  have e : ren π d .undef = .undef := by cases d <;> rfl
  by_cases h : i < l.length
  · simp [List.getD, List.getElem?_eq_getElem h]
  · simp [List.getD, List.getElem?_eq_none (Nat.le_of_not_lt h), e]

theorem bel_rep {w : World} {A : Nat → Prop} {ρ : Nat → Option BR} {π : Nat → Nat} {m : Nat} : ∀ (d : Nat) (v : AV) (x : Value), bel m d v = true → ARep w A ρ (ren π d v) x → ARep w A (cut m π ρ) v x := by
  have hc : ∀ b r, b < m → ρ (π b) = some r → cut m π ρ b = some r := fun b r h k => by unfold cut; rw [if_pos h]; exact k
  intro d
  induction d with
  | zero =>
    intro v x hb h
    cases v with
    | d v => simp only [ren] at h; cases h with
      | d _ _ h => exact .d _ x h
    | loc b es i fo => simp only [ren] at h; cases h with
      | loc _ es i fo r h he => exact .loc _ es i fo r (hc _ _ (by simpa [bel] using hb) h) he
    | slc b es off len => simp only [ren] at h; cases h with
      | slc _ es off len r h he hl => exact .slc _ es off len r (hc _ _ (by simpa [bel] using hb) h) he hl
    | zc => simp only [ren] at h; cases h with
      | zc a => exact .zc a
    | undef => exact .un x
    | _ => simp [bel] at hb
  | succ d ih =>
    intro v x hb h
    have el : ∀ (cs : List AV), cs.all (bel m d) = true → ∀ i, i < cs.length → bel m d (cs.getD i .undef) = true := fun cs h i hi =>
      List.all_eq_true.1 h _ (by simp [List.getD, List.getElem?_eq_getElem hi])
    cases v with
    | d v => simp only [ren] at h; cases h with
      | d _ _ h => exact .d _ x h
    | loc b es i fo => simp only [ren] at h; cases h with
      | loc _ es i fo r h he => exact .loc _ es i fo r (hc _ _ (by simpa [bel] using hb) h) he
    | slc b es off len => simp only [ren] at h; cases h with
      | slc _ es off len r h he hl => exact .slc _ es off len r (hc _ _ (by simpa [bel] using hb) h) he hl
    | zc => simp only [ren] at h; cases h with
      | zc a => exact .zc a
    | undef => exact .un x
    | agg cs => simp only [ren] at h; cases h with
      | agg _ vs hl hone hh =>
        refine .agg cs vs (by simpa using hl) (fun i hi => hone i (by simpa using hi)) fun i hi => ih _ _ (el cs (by simpa only [bel] using hb) i hi) ?_
        have := hh i (by simpa using hi)
        rw [getD_ren] at this; exact this
    | tup cs => simp only [ren] at h; cases h with
      | tup _ vs hl hh =>
        refine .tup cs vs (by simpa using hl) fun i hi => ih _ _ (el cs (by simpa only [bel] using hb) i hi) ?_
        have := hh i (by simpa using hi)
        rw [getD_ren] at this; exact this
    | fn f cs => simp only [ren] at h; cases h with
      | fn _ _ vs hl hh =>
        refine .fn f cs vs (by simpa using hl) fun i hi => ih _ _ (el cs (by simpa only [bel] using hb) i hi) ?_
        have := hh i (by simpa using hi)
        rw [getD_ren] at this; exact this
    | iface t v => simp only [ren] at h; cases h with
      | iface _ _ x hh => exact .iface t v x (ih _ _ (by simpa only [bel] using hb) hh)

theorem bel_getD {m : Nat} {l : List AV} (h : ∀ e ∈ l, bel m 8 e = true) (i : Nat) : bel m 8 (l.getD i .undef) = true := by
  rcases Nat.lt_or_ge i l.length with hi | hi
  · exact h _ (by simp [List.getD, List.getElem?_eq_getElem hi])
  · simp [List.getD, List.getElem?_eq_none hi, bel]

theorem ren_len (π : Nat → Nat) (d : Nat) (e : AV) : (ren π d e).cells.length = e.cells.length := by
  cases d <;> cases e <;> first | rfl | simp [ren, AV.cells]

theorem ren_cells {m : Nat} {π : Nat → Nat} (e : AV) (i : Nat) (h : bel m 8 e = true) : ∃ d, bel m d (e.cells.getD i .undef) = true ∧ (ren π 8 e).cells.getD i .undef = ren π d (e.cells.getD i .undef) := by
  have one : ∀ e : AV, bel m 8 e = true → bel m 8 ([e].getD i .undef) = true ∧ ([ren π 8 e].getD i .undef) = ren π 8 ([e].getD i .undef) := fun e h => by
    cases i with
    | zero => exact ⟨h, rfl⟩
    | succ i => exact ⟨rfl, rfl⟩
  have dat : ∀ l : List DV, bel m 8 ((l.map AV.d).getD i .undef) = true ∧ (l.map AV.d).getD i .undef = ren π 8 ((l.map AV.d).getD i .undef) := fun l => by
    by_cases hi : i < l.length
    · rw [getD_map_d _ _ hi]; exact ⟨rfl, rfl⟩
    · simp [List.getD, List.getElem?_eq_none (Nat.le_of_not_lt hi), bel, ren]
  cases e with
  | agg cs =>
    refine ⟨7, ?_, ?_⟩
    · simp only [bel] at h
      simp only [AV.cells]
      by_cases hi : i < cs.length
      · exact List.all_eq_true.1 h _ (by simp [List.getD, List.getElem?_eq_getElem hi])
      · simp [List.getD, List.getElem?_eq_none (Nat.le_of_not_lt hi), bel]
    · simp only [ren, AV.cells]; exact getD_ren π 7 cs i
  | d v =>
    refine ⟨8, ?_⟩
    rw [show ren π 8 (AV.d v) = .d v from rfl, dcells]
    exact dat _
  | _ => exact ⟨8, one _ h⟩

/-- FORGETTING. -/
theorem Forg.sim {c : Ctx} {A : Nat → Prop} {ρ : Nat → Option BR} {σ σ₀ : St} {a : Act} {w : World} {m : Nat} (hf : Forg m σ σ₀) (hm : c.m ≤ m) (hS : Sim c A ρ σ a w) (hF : Fr c ρ σ.nid) :
    ∃ ρ₀, Sim c A ρ₀ σ₀ a w ∧ Fr c ρ₀ σ₀.nid := by
  obtain ⟨π, hπ, hinj, henv, hlh⟩ := hf.ex
  refine ⟨cut σ₀.nid π ρ, ?_⟩
  have lh' : ∀ b k, σ₀.lh b = some k → σ.lh (π b) = some { k with els := k.els.map (ren π 8) } ∧ ∀ e ∈ k.els, bel σ₀.nid 8 e = true := fun b k h => by
    rcases hlh b with h' | ⟨k', h1, h2, h3⟩
    · rw [h'] at h; cases h
    · rw [h1] at h; cases h; exact ⟨h2, h3⟩
  have some' : ∀ b, (σ₀.lh b).isSome = true → (σ.lh (π b)).isSome = true := fun b h => by
    obtain ⟨k, hk⟩ := Option.isSome_iff_exists.1 h
    rw [(lh' b k hk).1]; rfl
  refine ⟨{ hS with blk := ?_, inj := ?_, own := ?_, dead := ?_, defers := ?_, env := ?_ }, ⟨fun b hb => ?_, ?_, fun b hb => ?_⟩⟩
  · intro b r k h1 h2
    obtain ⟨_, h1⟩ := cut_eq h1
    obtain ⟨h2, h3⟩ := lh' b k h2
    obtain ⟨⟨cur, fr, p1, p2, p3, p4, p5⟩, q1, q2, q3, q4⟩ := hS.blk (π b) r _ h1 h2
    refine ⟨⟨cur, fr, p1, p2, p3, p4, fun j i hj hi => ?_⟩, q1, by simpa using q2, q3, fun j hj => ?_⟩
    · obtain ⟨v, r1, r2, r3⟩ := p5 j i (by simpa using hj) hi
      refine ⟨v, r1, r2, ?_⟩
      obtain ⟨d, s1, s2⟩ := ren_cells (π := π) (k.els.getD j .undef) i (bel_getD h3 j)
      have r3 : ARep w A ρ (((k.els.map (ren π 8)).getD j .undef).cells.getD i .undef) v := r3
      rw [getD_ren, s2] at r3
      exact bel_rep d _ _ s1 r3
    · have := q4 j (by simpa using hj)
      have this : (((k.els.map (ren π 8)).getD j .undef)).cells.length = k.es := this
      rw [getD_ren, ren_len] at this
      exact this
  · intro b r b' r' h1 h2 h3 h4 h5
    exact hinj b b' h3 h4 (hS.inj _ r _ r' (cut_eq h1).2 (cut_eq h2).2 (some' b h3) (some' b' h4) h5)
  · intro b r k h1 h2 h3; exact hS.own (π b) r _ (cut_eq h1).2 (lh' b k h2).1 h3
  · intro b r k h1 h2 h3; exact hS.dead (π b) r _ (cut_eq h1).2 (lh' b k h2).1 h3
  · have hd := hS.defers
    rw [hf.dfs]
    have ha := hf.args
    generalize σ.dfs = l at hd ha
    generalize a.defers = r at hd
    induction hd with
    | nil => exact .nil
    | cons f args l cap vals r h t ih =>
      refine .cons f args l cap vals r ⟨h.size, fun i hi => ?_⟩ (ih fun p hp => ha p (List.mem_cons_of_mem _ hp))
      have hb := bel_getD (ha _ (List.mem_cons_self ..)) i
      refine bel_rep 8 _ _ (bel_mono hf.nid 8 _ hb) ?_
      rw [ren_bel hπ 8 _ hb]
      exact h.at_ i hi
  · intro t
    rcases henv t with h | ⟨h1, h2⟩
    · rw [h]; exact .un _
    · exact bel_rep 8 _ _ h2 (by rw [← h1]; exact hS.env t)
  · unfold cut; rw [if_neg (by omega)]
  · exact Nat.le_trans hm hf.nid
  · have := hf.nid
    unfold cut; rw [if_pos (by omega), hπ b (by omega)]; exact hF.base b hb

theorem dry_opB {nid : Nat} {ev : Operand → AV} {o : Op} (hd : dry o = true) : opB P nid ev o = .fail ∨ ∃ v, opB P nid ev o = just nid v := by
  cases o with
  | call cl =>
    obtain ⟨callee, args, ts⟩ := cl
    cases callee with
    | builtin b =>
      cases b <;> first
        | (simp [dry] at hd; done)
        | (simp only [opB, BM.ofO]; repeat' split
           all_goals first | exact .inl rfl | exact .inr ⟨_, rfl⟩)
    | _ => simp [dry] at hd
  | makeFunc fn first caps =>
    cases fn <;> first
      | exact .inl rfl
      | (simp only [opB, BM.ofO]; repeat' split
         all_goals first | exact .inl rfl | exact .inr ⟨_, rfl⟩)
  | slice t x lo hi mx =>
    cases mx <;> first
      | exact .inl rfl
      | (simp only [opB, BM.ofO]; repeat' split
         all_goals first | exact .inl rfl | exact .inr ⟨_, rfl⟩)
  | _ => first
    | (simp [dry] at hd; done)
    | (simp only [opB, BM.ofO]; repeat' split
       all_goals first | exact .inl rfl | exact .inr ⟨_, rfl⟩)
    | exact .inr ⟨_, rfl⟩

theorem dry_te {E : CallE} {ops : Array Oper} {n0 i : Nat} {pd : Option (Nat × DV)} {o : Oper} {σ σ' : St} {t : TE} (hd : dry o.op = true) (h : StepD E P ops n0 pd i o σ σ' t) : t = te0 := by
  cases h with
  | skip => rfl
  | pan d f args rs hpd hg h hp =>
    rcases dry_opB (P := P) (nid := n0 + i) (ev := σ.eval) hd with e | ⟨v, e⟩
    · rw [e] at h; cases h
    · rw [e] at h; cases h
  | run r rs hg h hn hi =>
    rcases dry_opB (P := P) (nid := n0 + i) (ev := σ.eval) hd with e | ⟨v, e⟩
    · rw [e] at h; cases h
    · rw [e] at h; cases h; rfl

theorem indep_te0_left (t : TE) : Indep te0 t := ⟨fun b h => ⟨by simp [te0], by simp [te0]⟩, fun b h => by simp [te0] at h⟩
theorem indep_te0_right (t : TE) : Indep t te0 := ⟨fun b h => by simp [te0] at h, fun b h => by simp [te0]⟩

theorem wpD_path {E : CallE} {ops : Array Oper} {n0 : Nat} : ∀ (l : List Oper) (i : Nat) (σ : St) (K : St → List TE → Prop), (∀ k, l[k]? = ops[i + k]?) → wpD E P ops n0 l i σ K →
    ∃ σ' tr, K σ' tr ∧ ∀ f : Nat → TE, (∀ k, k < l.length → f (i + k) = tr.getD k te0) → PathD E P ops n0 none f (List.range' i l.length) σ σ'
  | [], i, σ, K, _, h => ⟨σ, [], h, fun f _ => .nil σ⟩
  | o :: rest, i, σ, K, hl, h => by
    have ho : ops[i]? = some o := by have := hl 0; simpa using this.symm
    have hl' : ∀ k, rest[k]? = ops[i + 1 + k]? := fun k => by have := hl (k + 1); simp at this; rw [this]; congr 1; omega
    simp only [wpD] at h
    split at h
    · rename_i hg
      obtain ⟨r, rs, hrun, hn, h⟩ := wpBT_run _ _ _ h
      obtain ⟨σ', tr, hK, hp⟩ := wpD_path rest (i + 1) _ _ hl' h
      refine ⟨σ', _, hK, fun F hF => ?_⟩
      have h0 := hF 0 (by simp)
      simp only [Nat.add_zero, List.getD_cons_zero] at h0
      refine .cons i o _ _ _ _ ho (by rw [h0]; exact .run r rs hg hrun hn (fun _ h => by cases h)) (hp F fun k hk => ?_)
      have := hF (k + 1) (by simp; omega)
      rw [show i + 1 + k = i + (k + 1) by omega, this]; simp
    · rename_i hg
      obtain ⟨σ', tr, hK, hp⟩ := wpD_path rest (i + 1) _ _ hl' h
      refine ⟨σ', _, hK, fun F hF => ?_⟩
      have h0 := hF 0 (by simp)
      simp only [Nat.add_zero, List.getD_cons_zero] at h0
      refine .cons i o _ _ _ _ ho (by rw [h0]; exact .skip hg (fun _ h => by cases h)) (hp F fun k hk => ?_)
      have := hF (k + 1) (by simp; omega)
      rw [show i + 1 + k = i + (k + 1) by omega, this]; simp
    · exact h.elim

theorem wpDP_path {E : CallE} {ops : Array Oper} {n0 p : Nat} {d : DV} {D : List Nat} : ∀ (l : List Oper) (i : Nat) (σ : St) (K : List TE → Prop), (∀ k, l[k]? = ops[i + k]?) → wpDP E P ops n0 p d D l i σ K →
    ∃ σ' tr, K tr ∧ (∀ f : Nat → TE, (∀ k, k < l.length → f (i + k) = tr.getD k te0) → PathD E P ops n0 (some (p, d)) f ((List.range' i l.length).filter fun k => !D.contains k) σ σ') ∧ (∀ k, D.contains (i + k) = true → tr.getD k te0 = te0) ∧ tr.length = l.length
  | [], i, σ, K, _, h => ⟨σ, [], h, fun f _ => .nil σ, fun k _ => rfl, rfl⟩
  | o :: rest, i, σ, K, hl, h => by
    have ho : ops[i]? = some o := by have := hl 0; simpa using this.symm
    have hl' : ∀ k, rest[k]? = ops[i + 1 + k]? := fun k => by have := hl (k + 1); simp at this; rw [this]; congr 1; omega
    have shift : ∀ (f : Nat → TE) (t : TE) (tr : List TE), (∀ k, k < (o :: rest).length → f (i + k) = (t :: tr).getD k te0) → f i = t ∧ ∀ k, k < rest.length → f (i + 1 + k) = tr.getD k te0 := fun f t tr hf => by
      refine ⟨by have := hf 0 (by simp); simpa using this, fun k hk => ?_⟩
      have := hf (k + 1) (by simp; omega)
      rw [show i + 1 + k = i + (k + 1) by omega, this]; simp
    have skip0 : ∀ (t : TE) (tr : List TE), (D.contains i = true → t = te0) → (∀ k, D.contains (i + 1 + k) = true → tr.getD k te0 = te0) → ∀ k, D.contains (i + k) = true → (t :: tr).getD k te0 = te0 := fun t tr h0 h1 k hk => by
      cases k with
      | zero => simpa using h0 (by simpa using hk)
      | succ k => simpa using h1 k (by rw [show i + 1 + k = i + (k + 1) by omega]; exact hk)
    simp only [wpDP] at h
    split at h
    · rename_i hD
      obtain ⟨σ', tr, hK, hp, hs, hlen⟩ := wpDP_path rest (i + 1) _ _ hl' h
      refine ⟨σ', _, hK, fun f hf => ?_, skip0 _ _ (fun _ => rfl) hs, by simp [hlen]⟩
      obtain ⟨_, h2⟩ := shift f _ _ hf
      simp only [List.length_cons, List.range'_succ]
      rw [List.filter_cons_of_neg (by rw [hD]; decide)]
      exact hp f h2
    · rename_i hD
      have filt : (List.range' i (o :: rest).length).filter (fun k => !D.contains k) = i :: (List.range' (i + 1) rest.length).filter (fun k => !D.contains k) := by
        simp only [List.length_cons, List.range'_succ]
        rw [List.filter_cons_of_pos (by simp; simpa using hD)]
      split at h
      · rename_i hip
        obtain ⟨hg, fc, args, rs, h1, h2, h⟩ := h
        obtain ⟨σ', tr, hK, hp, hs, hlen⟩ := wpDP_path rest (i + 1) _ _ hl' h
        refine ⟨σ', _, hK, fun f hf => ?_, skip0 _ _ (fun h => absurd h hD) hs, by simp [hlen]⟩
        obtain ⟨g1, g2⟩ := shift f _ _ hf
        rw [filt]
        exact .cons i o _ _ _ _ ho (by rw [g1]; exact .pan d fc args rs (by rw [hip]) hg h1 h2) (hp f g2)
      · rename_i hip
        have hne : ∀ d', (some (p, d) : Option (Nat × DV)) ≠ some (i, d') := fun d' e => by
          simp only [Option.some.injEq, Prod.mk.injEq] at e; exact hip e.1.symm
        split at h
        · rename_i hg
          obtain ⟨r, rs, hrun, hn, h⟩ := wpBT_run _ _ _ h
          obtain ⟨σ', tr, hK, hp, hs, hlen⟩ := wpDP_path rest (i + 1) _ _ hl' h
          refine ⟨σ', _, hK, fun f hf => ?_, skip0 _ _ (fun h => absurd h hD) hs, by simp [hlen]⟩
          obtain ⟨g1, g2⟩ := shift f _ _ hf
          rw [filt]
          exact .cons i o _ _ _ _ ho (by rw [g1]; exact .run r rs hg hrun hn hne) (hp f g2)
        · rename_i hg
          obtain ⟨σ', tr, hK, hp, hs, hlen⟩ := wpDP_path rest (i + 1) _ _ hl' h
          refine ⟨σ', _, hK, fun f hf => ?_, skip0 _ _ (fun h => absurd h hD) hs, by simp [hlen]⟩
          obtain ⟨g1, g2⟩ := shift f _ _ hf
          rw [filt]
          exact .cons i o _ _ _ _ ho (by rw [g1]; exact .skip hg hne) (hp f g2)
        · exact h.elim

theorem PathD.at {E : CallE} {ops : Array Oper} {n0 : Nat} {pd : Option (Nat × DV)} {f : Nat → TE} : ∀ (l : List Nat) (σ σ' : St), PathD E P ops n0 pd f l σ σ' → ∀ i ∈ l, ∀ o, ops[i]? = some o → ∃ τ τ', StepD E P ops n0 pd i o τ τ' (f i)
  | [], _, _, _, i, hi, _, _ => by simp at hi
  | j :: l, σ, σ', h, i, hi, o, ho => by
    cases h with
    | cons _ oj _ _ σ1 _ hj s t =>
      rcases List.mem_cons.1 hi with e | hi
      · subst e; rw [hj] at ho; cases ho; exact ⟨σ, σ1, s⟩
      · exact PathD.at l σ1 σ' t i hi o ho

theorem zipIdx_mem {α : Type} {l : List α} {x : α} {i : Nat} (h : l[i]? = some x) : (x, i) ∈ l.zipIdx := by
  rw [List.mem_iff_getElem?]
  exact ⟨i, by rw [List.getElem?_zipIdx]; simp [h]⟩

theorem pairs_of {ops : Array Oper} {n n0 : Nat} {E : CallE} {pd : Option (Nat × DV)} {f : Nat → TE} {σ σ' : St} {l : List Nat} (hok : drawOk n ops = true) (hP : PathD E P ops n0 pd f l σ σ') (hl : ∀ i, i < ops.size → i ∈ l ∨ f i = te0) (hI : ∀ p ∈ loose ops, Indep (f p.1) (f p.2)) : PairsOk ops f := by
  intro i oi j oj hji hoi hoj
  simp only [drawOk, Bool.and_eq_true] at hok
  have h1 := List.all_eq_true.1 (List.all_eq_true.1 hok.2 (oi, i) (zipIdx_mem (by simpa using hoi))) (oj, j) (zipIdx_mem (by simpa using hoj))
  simp only [hji, decide_true, Bool.not_true, Bool.false_or, Bool.or_eq_true] at h1
  by_cases hdir : direct oi j = true
  · exact .inl hdir
  · have hap : oi.apart ops oj = true := by rcases h1 with h | h; exact absurd h hdir; exact h
    refine .inr ⟨hap, ?_⟩
    by_cases hdi : dry oi.op = true
    · rcases hl i (Array.getElem?_eq_some_iff.1 hoi).1 with h | h
      · obtain ⟨τ, τ', s⟩ := hP.at _ _ _ i h oi hoi
        rw [dry_te hdi s]; exact indep_te0_left _
      · rw [h]; exact indep_te0_left _
    · by_cases hdj : dry oj.op = true
      · rcases hl j (Array.getElem?_eq_some_iff.1 hoj).1 with h | h
        · obtain ⟨τ, τ', s⟩ := hP.at _ _ _ j h oj hoj
          rw [dry_te hdj s]; exact indep_te0_right _
        · rw [h]; exact indep_te0_right _
      · refine hI (i, j) ?_
        simp only [loose, List.mem_flatMap, List.mem_filterMap]
        refine ⟨(oi, i), zipIdx_mem (by simpa using hoi), (oj, j), zipIdx_mem (by simpa using hoj), ?_⟩
        simp only [Bool.not_eq_true] at hdir hdi hdj
        rw [if_pos ⟨hji, hdir, hdi, hdj⟩]

theorem QC_mono {Q Q' : Exit → St → Prop} {QP : DV → St → Prop} (h : ∀ e σ, Q e σ → Q' e σ) : ∀ e a w, QC c Q QP e a w → QC c Q' QP e a w := by
  intro e a w hq
  cases e with
  | panic ch => exact hq
  | _ => obtain ⟨σ, A, ρ, h1, h2, h3⟩ := hq; exact ⟨σ, A, ρ, h _ _ h1, h2, h3⟩

/-- A region that draws, in which an operation gives up. -/
theorem drawP_sound {ops : Array Oper} {tr : List TE} (hm : P.follows .mixedOrders = true) (hc : CtxOk gs c) {id : Nat} (hd : ∀ o ∈ ops.toList, dstOk c.n o = true) (hb : backwards ops = true) (hp : PairsOk ops fun i => tr.getD i te0) {p : Nat} {d : DV} {D : List Nat} (hsk : skipOk ops p D = true) (hlen : tr.length = ops.toList.length)
    {Q : Exit → St → Prop} {QP : DV → St → Prop} {σ σe : St} {A : Nat → Prop} {ρ : Nat → Option BR} {a : Act} {w : World}
    (hP : PathD (calls P gs) P ops σ.nid (some (p, d)) (fun i => tr.getD i te0) ((List.range ops.size).filter fun k => !D.contains k) σ σe)
    (hQ : QP d (dropped σ (ops.toList.filterMap (·.dst)) (tr.flatMap (·.writes)) (σ.nid + ops.size))) (hS : Sim c A ρ σ a w) (hF : Fr c ρ σ.nid) :
    (Code.region id ops true).wp P (QC c Q QP) a w := by
  simp only [skipOk, Bool.and_eq_true, decide_eq_true_eq, Bool.not_eq_true'] at hsk
  obtain ⟨⟨⟨hlt, hDp⟩, hD1⟩, hD2⟩ := hsk
  have mem : ∀ i, D.contains i = true ↔ i ∈ D := fun i => by simp
  refine wp_region_any hm (anyP_sound (tr := fun i => tr.getD i te0) hc hd hb hp (D := D) (fun h => by rw [(mem p).2 h] at hDp; cases hDp) ?_ ?_ (T := ops.toList.filterMap (·.dst)) ?_ (W := tr.flatMap (·.writes)) ?_ hQ hF.le hlt ops.size _ _ σ A ρ a _ (by simp) ?_ ?_ ?_ ?_ (fun i => ?_) ?_ hP ⟨fun _ _ => rfl, fun _ _ => rfl, rfl⟩ hS.drew (fun b hb _ => hF.free b hb) hF.base)
  · intro i hi o ho
    have := List.all_eq_true.1 hD1 i hi
    rw [ho] at this
    simp only [Bool.or_eq_true, List.any_eq_true, Bool.and_eq_true, List.mem_range] at this
    rcases this with h | ⟨j, hj, h1, h2⟩
    · exact ⟨p, .inl rfl, hlt, h⟩
    · exact ⟨j, .inr ((mem j).1 h1), hj, h2⟩
  · intro i hi hiD o ho j hj
    have := List.all_eq_true.1 hD2 (o, i) (zipIdx_mem (by simpa using ho))
    simp only [Bool.or_eq_true] at this
    rcases this with h | h
    · exact absurd ((mem i).1 h) hiD
    · have := List.all_eq_true.1 h j hj
      simpa using this
  · intro o ho x hx
    simp only [List.contains_iff_mem, List.mem_filterMap]
    exact ⟨o, ho, hx⟩
  · intro i b hbw
    simp only [List.contains_iff_mem, List.mem_flatMap]
    by_cases hi : i < tr.length
    · refine ⟨tr[i], List.getElem_mem hi, ?_⟩
      simpa [List.getD, List.getElem?_eq_getElem hi] using hbw
    · have : tr.getD i te0 = te0 := by simp [List.getD, List.getElem?_eq_none (by omega : tr.length ≤ i)]
      simp only [this] at hbw
      simp [te0] at hbw
  · exact List.Pairwise.filter _ List.pairwise_lt_range
  · simp only [List.mem_filter, List.mem_range]; exact ⟨hlt, by rw [hDp]; rfl⟩
  · simp [Array.getD, hlt]
  · intro i hi
    by_cases h : i < ops.size
    · left; simp [Array.getD, h]
    · right; omega
  · simp only [List.mem_filter, List.mem_range]
    constructor
    · rintro ⟨h1, h2⟩
      refine ⟨h1, (fun h => by rw [(mem i).2 h] at h2; cases h2), by simp [Array.getD, h1]⟩
    · rintro ⟨h1, h2, _⟩
      refine ⟨h1, ?_⟩
      cases hc : D.contains i with
      | true => exact absurd ((mem i).1 hc) h2
      | false => rfl
  · have := List.length_filter_le (fun k => !D.contains k) (List.range ops.size)
    simpa using this

/-- THE WALK OF THE CODE: what it shows holds of the model. -/
theorem WP_sound (hm : P.follows .mixedOrders = true) (hc : CtxOk gs c) {QP : DV → St → Prop} : ∀ (code : Code) (Q : Exit → St → Prop) (σ : St) (A : Nat → Prop) (ρ : Nat → Option BR) (a : Act) (w : World), codeOk c.n code = true →
    WP (calls P gs) P code Q QP σ → Sim c A ρ σ a w → Fr c ρ σ.nid → code.wp P (QC c Q QP) a w := by
  intro code
  induction code with
  | skip => intro Q σ A ρ a w _ h hS hF; exact wp_skip ⟨σ, A, ρ, h, hS, hF⟩
  | label l => intro Q σ A ρ a w _ h hS hF; exact wp_label ⟨σ, A, ρ, h, hS, hF⟩
  | exit id => intro Q σ A ρ a w _ h hS hF; exact wp_exit ⟨σ, A, ρ, h, hS, hF⟩
  | ret => intro Q σ A ρ a w _ h hS hF; exact wp_ret ⟨σ, A, ρ, h, hS, hF⟩
  | goto l => intro Q σ A ρ a w _ h; exact h.elim
  | refuse y => intro Q σ A ρ a w _ h; exact h.elim
  | rangeFunc f ps x y => intro Q σ A ρ a w _ h; exact h.elim
  | region id ops draw =>
    intro Q σ A ρ a w hok h hS hF
    cases draw with
    | false =>
      refine wp_region_list (wpT_sound (P := P) hc ops.toList σ A ρ a w (fun o ho => ?_) h hS hF)
      simp only [codeOk] at hok
      exact List.all_eq_true.1 hok o ho
    | true =>
      simp only [codeOk] at hok
      simp only [WP] at h
      have hok' := hok
      simp only [drawOk, Bool.and_eq_true] at hok'
      rcases h with h | ⟨p, d, D, hsk, h⟩
      · obtain ⟨σe, tr, ⟨hI, hQ⟩, hp⟩ := wpD_path ops.toList 0 σ _ (fun k => by simp) h
        have hP := hp (fun i => tr.getD i te0) (fun k hk => by simp)
        rw [Array.length_toList, ← List.range_eq_range'] at hP
        exact draw_sound hm hc (fun o ho => List.all_eq_true.1 hok'.1.2 o ho) hok'.1.1 (pairs_of hok hP (fun i hi => .inl (by simpa using hi)) hI) hP hQ hS hF
      · obtain ⟨σe, tr, ⟨hI, hQ⟩, hp, hs, hlen⟩ := wpDP_path ops.toList 0 σ _ (fun k => by simp) h
        have hP := hp (fun i => tr.getD i te0) (fun k hk => by simp)
        rw [Array.length_toList, ← List.range_eq_range'] at hP
        have hs : ∀ k, D.contains k = true → tr.getD k te0 = te0 := fun k hk => hs k (by simpa using hk)
        exact drawP_sound hm hc (fun o ho => List.all_eq_true.1 hok'.1.2 o ho) hok'.1.1 (pairs_of hok hP (fun i hi => by
          cases hD : D.contains i with
          | true => exact .inr (hs i hD)
          | false => exact .inl (by simp only [List.mem_filter, List.mem_range]; exact ⟨hi, by rw [hD]; rfl⟩)) hI) hsk hlen hP hQ hS hF
  | seq x y ihx ihy =>
    intro Q σ A ρ a w hok h hS hF
    simp only [codeOk, Bool.and_eq_true] at hok
    refine wp_seq (wp_mono (ihx _ σ A ρ a w hok.1 h hS hF) fun e a w hq => ?_)
    cases e with
    | normal => obtain ⟨σ', A', ρ', h1, h2, h3⟩ := hq; exact ihy Q σ' A' ρ' a w hok.2 h1 h2 h3
    | panic ch => exact hq
    | _ => obtain ⟨σ', A', ρ', h1, h2, h3⟩ := hq; exact ⟨σ', A', ρ', h1, h2, h3⟩
  | cond cc x y ihx ihy =>
    intro Q σ A ρ a w hok h hS hF
    simp only [codeOk, Bool.and_eq_true] at hok
    simp only [WP] at h
    have hr := eval_rep hS cc
    split at h
    · rename_i he
      rw [he] at hr
      have hr := hr.ofD
      refine wp_cond_true ?_ (ihx Q σ A ρ a w hok.1 h hS hF)
      generalize a.eval cc = v at hr
      cases hr; rfl
    · rename_i he
      rw [he] at hr
      have hr := hr.ofD
      refine wp_cond_false ?_ (ihy Q σ A ρ a w hok.2 h hS hF)
      generalize a.eval cc = v at hr
      cases hr; rfl
    · exact h.elim
  | block id x ih =>
    intro Q σ A ρ a w hok h hS hF
    refine wp_block (wp_mono (ih _ σ A ρ a w hok h hS hF) fun e a w hq => ?_)
    cases e with
    | exit id' =>
      obtain ⟨σ', A', ρ', h1, h2, h3⟩ := hq
      simp only [blockQ] at h1
      simp only [Exit.inBlock]
      split
      · rename_i hid; rw [if_pos hid] at h1; exact ⟨σ', A', ρ', h1, h2, h3⟩
      · rename_i hid; rw [if_neg hid] at h1; exact ⟨σ', A', ρ', h1, h2, h3⟩
    | panic ch => exact hq
    | _ => obtain ⟨σ', A', ρ', h1, h2, h3⟩ := hq; exact ⟨σ', A', ρ', h1, h2, h3⟩
  | loop x ih =>
    intro Q σ A ρ a w hok h hS hF
    obtain ⟨n, h⟩ := h
    refine wp_loop_rounds n ?_
    have hle := hF.le
    generalize hmm : σ.nid = m at h hle
    clear hmm
    induction n generalizing σ A ρ a w with
    | zero => exact h.elim
    | succ n ihn =>
      rw [rounds_succ]
      obtain ⟨σ₀, hσ, h⟩ := h
      have hS₀ : ∃ ρ₀, Sim c A ρ₀ σ₀ a w ∧ Fr c ρ₀ σ₀.nid := by
        rcases hσ with rfl | hσ
        · exact ⟨ρ, hS, hF⟩
        · exact hσ.sim hle hS hF
      obtain ⟨ρ₀, hS₀, hF₀⟩ := hS₀
      refine wp_mono (ih _ σ₀ A ρ₀ a w hok h hS₀ hF₀) fun e a w hq => ?_
      cases e with
      | normal => obtain ⟨σ', A', ρ', h1, h2, h3⟩ := hq; exact ihn σ' A' ρ' a w h2 h3 h1
      | panic ch => exact hq
      | _ => obtain ⟨σ', A', ρ', h1, h2, h3⟩ := hq; exact ⟨σ', A', ρ', h1, h2, h3⟩
  | scope x ih =>
    intro Q σ A ρ a w hok h hS hF
    refine wp_scope_straight (wp_mono (ih _ σ A ρ a w hok h hS hF) fun e a w hq => ?_)
    cases e with
    | panic ch => exact hq
    | goto l => obtain ⟨σ', A', ρ', h1, h2, h3⟩ := hq; exact h1.elim
    | _ => obtain ⟨σ', A', ρ', h1, h2, h3⟩ := hq; exact ⟨σ', A', ρ', h1, h2, h3⟩
#print axioms WP_sound
end
end Go.Proofs.Am
