/- Calls by contract: arguments are data (or local blocks that are lent), results are data or new blocks. -/
import Derived.Test.YtmjkaekhjmlnbaaGreatDoorAmAppend
set_option linter.unusedVariables false
set_option linter.unusedSimpArgs false
namespace Go.Proofs.Am
open Go Go.RowKit

/-- The package variables that hold a whole number. -/
def GInt (gs : List Nat) (w : World) : Prop := ∀ g ∈ gs, ∃ m, w.cell? ⟨g, 0, none⟩ = some (.int .i64 m)

/-- What a result says of a value in a world behind a call that began in w with A. -/
structure RetRep (w : World) (A : Nat → Prop) (r : Ret) (v : Value) (w' : World) : Prop where
  mk' ::
  ex : ∃ (A' : Nat → Prop) (ρ : Nat → Option BR), Below w.heap.size w w' ∧ (∀ g, A g → A' g) ∧ (∀ g, A' g → A g ∨ w.heap.size ≤ g) ∧ (∀ g, A' g → g < w'.heap.size) ∧ ARep w' A' ρ r.v v ∧
    (∀ b k, r.blks[b]? = some k → k.live = true ∧ ∃ q, ρ b = some q ∧ BRep w' A' ρ k q ∧ w.heap.size ≤ q.g ∧ ¬ A' q.g) ∧
    (∀ b q b' q', ρ b = some q → ρ b' = some q' → q.g = q'.g → b = b') ∧ (∀ b q, ρ b = some q → b < r.blks.length)

/-- A function that is entered when it is called. -/
def enterOk (P : Program) (f : FuncId) : Bool :=
  match P.funcs[f]? with
  | some fn => !(fn.name == "runtime.NumGoroutine") && fn.body.isSome
  | none => false

/-- THE CONTRACT of a call: for these data it hands back this result, and nothing that was there is changed. -/
def PureCall (P : Program) (gs : List Nat) (f : FuncId) (args : List DV) (r : Ret) : Prop :=
  enterOk P f = true ∧ ∀ (w : World) (A : Nat → Prop) (vals : Array Value), (∀ g, A g → g < w.heap.size) → vals.size = args.length →
    (∀ i, i < args.length → DRep w A (args.getD i .inil) (vals.getD i undef)) → GInt gs w →
    Calls P f vals w fun e w' => ∃ v, e = .returned v ∧ RetRep w A r v w'

/-- It gives up, with this value. -/
def PanicCall (P : Program) (gs : List Nat) (f : FuncId) (args : List DV) (d : DV) : Prop :=
  enterOk P f = true ∧ ∀ (w : World) (A : Nat → Prop) (vals : Array Value), (∀ g, A g → g < w.heap.size) → vals.size = args.length →
    (∀ i, i < args.length → DRep w A (args.getD i .inil) (vals.getD i undef)) → GInt gs w →
    Calls P f vals w fun e w' => ∃ v, e = .panicked [{ v, recovered := false }] ∧ RetRep w A ⟨.d d, []⟩ v w'

section
variable {P : Program} {c : Ctx} {A : Nat → Prop} {ρ : Nat → Option BR} {σ : St} {a : Act} {w : World}

theorem sh_cells (k : Nat) (v : AV) : (v.sh k).cells = v.cells.map (AV.sh k) := by
  cases v with
  | d x => cases x <;> simp [AV.sh, AV.shL_map, AV.cells]
  | _ => simp [AV.sh, AV.shL_map, AV.cells]

theorem ARep.sh {k : Nat} {ρ' : Nat → Option BR} (h : ∀ b r, ρ b = some r → ρ' (b + k) = some r) {v : AV} {x : Value} (hv : ARep w A ρ v x) : ARep w A ρ' (v.sh k) x := by
  have get : ∀ (l : List AV) (i : Nat), i < l.length → (l.map (AV.sh k)).getD i .undef = (l.getD i .undef).sh k := fun l i hi => by
    simp [List.getD, List.getElem?_map, List.getElem?_eq_getElem hi]
  induction hv with
  | d v x h => simp only [AV.sh, AV.shL_map]; exact .d v x h
  | loc b es i fo r h1 he => simp only [AV.sh, AV.shL_map]; exact .loc _ es i fo r (h _ _ h1) he
  | slc b es off len r h1 he hl => simp only [AV.sh, AV.shL_map]; exact .slc _ es off len r (h _ _ h1) he hl
  | agg cs vs hl hone h ih =>
    simp only [AV.sh, AV.shL_map]
    exact .agg _ vs (by simpa using hl) (fun i hi => hone i (by simpa using hi)) (fun i hi => by rw [get _ _ (by simpa using hi)]; exact ih i (by simpa using hi))
  | tup cs vs hl h ih =>
    simp only [AV.sh, AV.shL_map]
    exact .tup _ vs (by simpa using hl) (fun i hi => by rw [get _ _ (by simpa using hi)]; exact ih i (by simpa using hi))
  | fn f caps vals hl h ih =>
    simp only [AV.sh, AV.shL_map]
    exact .fn f _ vals (by simpa using hl) (fun i hi => by rw [get _ _ (by simpa using hi)]; exact ih i (by simpa using hi))
  | iface t v x h ih => simp only [AV.sh, AV.shL_map]; exact .iface t _ x ih
  | zc a => simp only [AV.sh, AV.shL_map]; exact .zc a
  | un x => simp only [AV.sh, AV.shL_map]; exact .un x

theorem BRep.sh {k : Nat} {ρ' : Nat → Option BR} (h : ∀ b r, ρ b = some r → ρ' (b + k) = some r) {b : LB} {r : BR} (hb : BRep w A ρ b r) : BRep w A ρ' (b.sh k) r := by
  obtain ⟨⟨cur, fr, h1, h2, h3, h4, h5⟩, e1, e2, e3, e4⟩ := hb
  have get : ∀ (l : List AV) (i : Nat), i < l.length → (l.map (AV.sh k)).getD i .undef = (l.getD i .undef).sh k := fun l i hi => by
    simp [List.getD, List.getElem?_map, List.getElem?_eq_getElem hi]
  refine ⟨⟨cur, fr, h1, h2, h3, h4, fun j m hj hm => ?_⟩, e1, by simpa [LB.sh] using e2, e3, fun j hj => ?_⟩
  · have hj : j < b.els.length := by simpa [LB.sh] using hj
    have hm : m < b.es := hm
    obtain ⟨v, p1, p2, p3⟩ := h5 j m hj hm
    refine ⟨v, p1, p2, ?_⟩
    simp only [LB.sh]
    rw [get _ _ hj, sh_cells, get _ _ (by rw [e4 j hj]; exact hm)]
    exact p3.sh h
  · have hj : j < b.els.length := by simpa [LB.sh] using hj
    simp only [LB.sh]
    rw [get _ _ hj, sh_cells]; simpa using e4 j hj

theorem fold_upd (nid : Nat) : ∀ (l : List LB) (s : Nat) (lh : Nat → Option LB), ∀ b,
    ((l.zipIdx s).map fun p => (p.2, some (p.1.sh nid))).foldl (fun f (p : Nat × Option LB) => upd f p.1 p.2) lh b = if s ≤ b ∧ b < s + l.length then (l[b - s]?).map (LB.sh nid) else lh b
  | [], s, lh, b => by simp; intro h1 h2; omega
  | k :: l, s, lh, b => by
    simp only [List.zipIdx_cons, List.map_cons, List.foldl_cons]
    rw [fold_upd nid l (s + 1) _ b]
    simp only [List.length_cons]
    by_cases h : s + 1 ≤ b ∧ b < s + 1 + l.length
    · rw [if_pos h, if_pos ⟨by omega, by omega⟩, show b - s = (b - (s + 1)) + 1 by omega]; simp
    · rw [if_neg h]
      by_cases e : b = s
      · subst e; rw [if_pos ⟨by omega, by omega⟩]; simp
      · rw [upd_ne _ _ _ _ e, if_neg (by omega)]

theorem Sim.adopt (hS : Sim c A ρ σ a w) {r : Ret} (hf : ∀ k, k < r.blks.length → ρ (σ.nid + k) = none) {v : Value} {w' : World} (hR : RetRep w A r v w') :
    ∃ A' ρ', Sim c A' ρ' { σ with lh := applyChg σ.lh (r.op σ.nid).chg, nid := (r.op σ.nid).nid } a w' ∧ ARep w' A' ρ' (r.op σ.nid).v v ∧ Names ρ ρ' σ.nid (r.op σ.nid).nid := by
  obtain ⟨A', q, hB, hup, hnew, hlt, hv, hblk, hinj, hids⟩ := hR.ex
  have hlh : ∀ b, applyChg σ.lh (r.op σ.nid).chg b = if σ.nid ≤ b ∧ b < σ.nid + r.blks.length then (r.blks[b - σ.nid]?).map (LB.sh σ.nid) else σ.lh b :=
    fun b => fold_upd σ.nid r.blks σ.nid σ.lh b
  let ρ' : Nat → Option BR := fun b => if σ.nid ≤ b ∧ b < σ.nid + r.blks.length then q (b - σ.nid) else ρ b
  have hr : ∀ b r', ρ b = some r' → ρ' b = some r' := fun b r' h => by
    simp only [ρ']; rw [if_neg]; exact h
    intro hb
    have := hf (b - σ.nid) (by omega)
    rw [show σ.nid + (b - σ.nid) = b by omega] at this
    rw [this] at h; cases h
  have hq : ∀ b r', q b = some r' → ρ' (b + σ.nid) = some r' := fun b r' h => by
    have hb := hids _ _ h
    simp only [ρ']; rw [if_pos ⟨by omega, by omega⟩, Nat.add_sub_cancel]; exact h
  have kp : Keeps w w' A A' := fun g hA => ⟨hup g hA, hB.block g (hS.lt g hA)⟩
  have look : ∀ b r' k, ρ' b = some r' → (if σ.nid ≤ b ∧ b < σ.nid + r.blks.length then (r.blks[b - σ.nid]?).map (LB.sh σ.nid) else σ.lh b) = some k →
      (¬ (σ.nid ≤ b ∧ b < σ.nid + r.blks.length) ∧ ρ b = some r' ∧ σ.lh b = some k) ∨ (σ.nid ≤ b ∧ ∃ k0, q (b - σ.nid) = some r' ∧ r.blks[b - σ.nid]? = some k0 ∧ k = k0.sh σ.nid) := fun b r' k h hk => by
    simp only [ρ'] at h
    by_cases e : σ.nid ≤ b ∧ b < σ.nid + r.blks.length
    · rw [if_pos e] at h
      rw [if_pos e] at hk
      obtain ⟨k0, e1, e2⟩ := Option.map_eq_some_iff.1 hk
      exact .inr ⟨by omega, k0, h, e1, e2.symm⟩
    · rw [if_neg e] at h; rw [if_neg e] at hk; exact .inl ⟨e, h, hk⟩
  refine ⟨A', ρ', ?_, hv.sh hq, by simp only [Ret.op]; omega, fun b hb => by simp only [ρ']; rw [if_neg (by simpa [Ret.op] using hb)]⟩
  refine { size := hS.size, defers := hS.defers.mono kp hr, env := fun t => (hS.env t).mono kp hr, blk := ?_, inj := ?_, own := ?_, dead := ?_, lt := hlt, up := fun g h => hup g (hS.up g h), new := fun g h => ?_, os := hB.os.trans hS.os, tape := hB.tape.trans hS.tape, output := hB.output.trans hS.output, hsize := Nat.le_trans hS.hsize hB.size, frame := ?_ }
  · intro b r' k h hk
    simp only [hlh] at hk
    rcases look b r' k h hk with ⟨_, h1, h2⟩ | ⟨hle, k0, h1, h2, rfl⟩
    · exact (hS.blk b r' k h1 h2).mono kp hr (hB.block _ (hS.g_lt h1 h2))
    · obtain ⟨_, q', p1, p2, _⟩ := hblk _ _ h2
      rw [h1] at p1; cases p1
      exact p2.sh hq
  · intro b r1 b' r2 h h' hs hs' hge
    simp only [hlh] at hs hs'
    obtain ⟨k1, hk1⟩ := Option.isSome_iff_exists.1 hs
    obtain ⟨k2, hk2⟩ := Option.isSome_iff_exists.1 hs'
    rcases look b r1 k1 h hk1 with ⟨_, h1, h2⟩ | ⟨hle, k0, h1, h2, _⟩ <;> rcases look b' r2 k2 h' hk2 with ⟨_, h1', h2'⟩ | ⟨hle', k0', h1', h2', _⟩
    · exact hS.inj b r1 b' r2 h1 h1' (by simp [h2]) (by simp [h2']) hge
    · obtain ⟨_, q', p1, _, p3, _⟩ := hblk _ _ h2'
      rw [h1'] at p1; cases p1
      have := hS.g_lt h1 h2; omega
    · obtain ⟨_, q', p1, _, p3, _⟩ := hblk _ _ h2
      rw [h1] at p1; cases p1
      have := hS.g_lt h1' h2'; omega
    · have := hinj _ _ _ _ h1 h1' hge; omega
  · intro b r' k h hk hl
    simp only [hlh] at hk
    rcases look b r' k h hk with ⟨_, h1, h2⟩ | ⟨hle, k0, h1, h2, rfl⟩
    · obtain ⟨o1, o2⟩ := hS.own b r' k h1 h2 hl
      refine ⟨fun hA => ?_, o2⟩
      rcases hnew _ hA with h | h
      · exact o1 h
      · have := hS.g_lt h1 h2; omega
    · obtain ⟨_, q', p1, _, p3, p4⟩ := hblk _ _ h2
      rw [h1] at p1; cases p1
      exact ⟨p4, .inr (Nat.le_trans hS.hsize p3)⟩
  · intro b r' k h hk hl
    simp only [hlh] at hk
    rcases look b r' k h hk with ⟨_, h1, h2⟩ | ⟨hle, k0, h1, h2, rfl⟩
    · exact hup _ (hS.dead b r' k h1 h2 hl)
    · obtain ⟨q0, _⟩ := hblk _ _ h2
      have hl : k0.live = false := hl
      rw [q0] at hl; cases hl
  · rcases hnew g h with h1 | h1
    · exact hS.new g h1
    · exact .inr (.inr (Nat.le_trans hS.hsize h1))
  · intro g hg hO
    rw [hB.block g (Nat.lt_of_lt_of_le hg hS.hsize)]; exact hS.frame g hg hO

/-- The blocks of a caller's own. -/
def Own (ρ : Nat → Option BR) (lh : Nat → Option LB) (g : Nat) : Prop := ∃ b r k, ρ b = some r ∧ lh b = some k ∧ k.live = true ∧ r.g = g

def ctx0 (w : World) (A : Nat → Prop) (ρ : Nat → Option BR) (lh : Nat → Option LB) (n m : Nat) : Ctx := ⟨w, A, Own ρ lh, n, m, ρ⟩

theorem Sim.own_of (hS : Sim c A ρ σ a w) {g : Nat} (h : Own ρ σ.lh g) : ¬ A g ∧ (c.O0 g ∨ c.w0.heap.size ≤ g) := by
  obtain ⟨b, r, k, h1, h2, h3, rfl⟩ := h
  exact hS.own b r k h1 h2 h3

/-- What a call begins with. -/
theorem Sim.hs (hS : Sim c A ρ σ a w) (n m : Nat) : HS (ctx0 w A ρ σ.lh n m) A ρ σ.lh w := {
  blk := hS.blk
  inj := hS.inj
  own := fun b r k h1 h2 h3 => ⟨(hS.own b r k h1 h2 h3).1, .inl ⟨b, r, k, h1, h2, h3, rfl⟩⟩
  dead := hS.dead
  lt := hS.lt
  up := fun g h => h
  new := fun g h => .inl h
  os := rfl
  tape := rfl
  output := rfl
  hsize := Nat.le_refl _
  frame := fun g _ _ => rfl }

theorem HS.keeps {n m : Nat} {lh : Nat → Option LB} (hS : HS (ctx0 w A ρ lh n m) A ρ lh w) {A' : Nat → Prop} {ρ' : Nat → Option BR} {lh' : Nat → Option LB} {w' : World} (h : HS (ctx0 w A ρ lh n m) A' ρ' lh' w') : Keeps w w' A A' := fun g hA =>
  ⟨h.up g hA, h.frame g (hS.lt g hA) (fun ho => by
    obtain ⟨b, r, k, h1, h2, h3, rfl⟩ := ho
    exact (hS.own b r k h1 h2 h3).1 hA)⟩

/-- What a call left, taken into the caller's state. -/
theorem Sim.take (hS : Sim c A ρ σ a w) {n m0 : Nat} {A' : Nat → Prop} {ρ' : Nat → Option BR} {lh' : Nat → Option LB} {w' : World} (h : HS (ctx0 w A ρ σ.lh n m0) A' ρ' lh' w')
    {m : Nat} (hN : Names ρ ρ' σ.nid m) (hf : ∀ k, σ.nid + k < m → ρ (σ.nid + k) = none) : Sim c A' ρ' { σ with lh := lh', nid := m } a w' := by
  have kp : Keeps w w' A A' := (hS.hs n m0).keeps h
  have hr : ∀ b r, ρ b = some r → ρ' b = some r := fun b r hb => by
    rw [hN.2 b ?_]; exact hb
    rintro ⟨h1, h2⟩
    have := hf (b - σ.nid) (by omega)
    rw [show σ.nid + (b - σ.nid) = b by omega] at this
    rw [this] at hb; cases hb
  refine { size := hS.size, defers := hS.defers.mono kp hr, env := fun t => (hS.env t).mono kp hr, blk := h.blk, inj := h.inj, own := ?_, dead := h.dead, lt := h.lt, up := fun g hg => h.up g (hS.up g hg), new := ?_, os := h.os.trans hS.os, tape := h.tape.trans hS.tape, output := h.output.trans hS.output, hsize := Nat.le_trans hS.hsize h.hsize, frame := ?_ }
  · intro b r k h1 h2 h3
    obtain ⟨q1, q2⟩ := h.own b r k h1 h2 h3
    refine ⟨q1, ?_⟩
    rcases q2 with q2 | q2
    · exact (hS.own_of q2).2
    · exact .inr (Nat.le_trans hS.hsize q2)
  · intro g hg
    rcases h.new g hg with q | q | q
    · exact hS.new g q
    · exact .inr (hS.own_of q).2
    · exact .inr (.inr (Nat.le_trans hS.hsize q))
  · intro g hg hO
    rw [h.frame g (Nat.lt_of_lt_of_le hg hS.hsize) (fun q => ?_)]
    · exact hS.frame g hg hO
    · rcases (hS.own_of q).2 with q | q
      · exact hO q
      · omega
end
end Go.Proofs.Am
