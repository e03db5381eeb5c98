/- One operation, soundly. -/
import Derived.Test.YtmjkaekhjmlnbaaGreatDoorAmVals
set_option linter.unusedVariables false
set_option linter.unusedSimpArgs false
namespace Go.Proofs.Am
open Go Go.RowKit

def putE (env : Nat → AV) : Option Tmp → AV → Nat → AV
  | some d, v => upd env d v
  | none, _ => env

def St.app (σ : St) (dst : Option Tmp) (r : Res) : St :=
  { env := putE σ.env dst r.v
    lh := r.lh
    nid := r.nid
    dfs := σ.dfs }

section
variable {P : Program} {c : Ctx} {A : Nat → Prop} {ρ : Nat → Option BR} {σ : St} {a : Act} {w : World}

theorem Sim.put (hS : Sim c A ρ σ a w) {v : AV} {x : Value} (hv : ARep w A ρ v x) (dst : Option Tmp) (hd : ∀ d, dst = some d → d < c.n) :
    Sim c A ρ { σ with env := putE σ.env dst v } (a.put dst x) w := by
  cases dst with
  | none => exact hS
  | some d =>
    have hdn := hd d rfl
    refine { hS with size := ?_, defers := ?_, env := fun t => ?_ }
    · simp [Act.put, hS.size]
    · exact hS.defers
    · simp only [Act.put, putE, upd]
      by_cases ht : t = d
      · subst ht
        have : (a.tmps.setIfInBounds t x).getD t undef = x := by
          have hlt : t < a.tmps.size := by rw [hS.size]; exact hdn
          simp [Array.getD, hlt]
        rw [this]; simpa using hv
      · have : (a.tmps.setIfInBounds d x).getD t undef = a.tmps.getD t undef := by
          simp only [Array.getD_eq_getD_getElem?, Array.getElem?_setIfInBounds]
          rw [if_neg (by omega)]
        rw [this]; simpa [ht] using hS.env t

theorem Sim.g_lt (hS : Sim c A ρ σ a w) {b : Nat} {r : BR} {k : LB} (h : ρ b = some r) (hk : σ.lh b = some k) : r.g < w.heap.size := by
  obtain ⟨⟨cur, fr, h1, _⟩, _⟩ := hS.blk b r k h hk
  exact (Array.getElem?_eq_some_iff.1 h1).1

/-- A new block of the call's own. -/
theorem Sim.newBlock (hS : Sim c A ρ σ a w) (fresh : ρ σ.nid = none) {w' : World} (ho : w'.os = w.os) (ht : w'.tape = w.tape) (hout : w'.output = w.output) (hsz : w.heap.size ≤ w'.heap.size)
    (hold : ∀ g, g < w.heap.size → w'.heap[g]? = w.heap[g]?) (k : LB) (r : BR) (hg : w.heap.size ≤ r.g)
    (hB : BRep w' A (upd ρ σ.nid (some r)) k r) (hkl : k.live = true) :
    Sim c A (upd ρ σ.nid (some r)) { σ with lh := upd σ.lh σ.nid (some k), nid := σ.nid + 1 } a w' := by
  have hr : ∀ b r', ρ b = some r' → upd ρ σ.nid (some r) b = some r' := fun b r' h => by
    rw [upd_ne _ _ _ _ (fun e => by rw [e] at h; simp_all)]; exact h
  have kp : Keeps w w' A A := fun g hA => ⟨hA, hold g (hS.lt g hA)⟩
  have back : ∀ b r', upd ρ σ.nid (some r) b = some r' → (b = σ.nid ∧ r' = r) ∨ (b ≠ σ.nid ∧ ρ b = some r') := fun b r' h => by
    by_cases e : b = σ.nid
    · subst e; simp at h; exact .inl ⟨rfl, h.symm⟩
    · rw [upd_ne _ _ _ _ e] at h; exact .inr ⟨e, h⟩
  refine { size := hS.size, defers := hS.defers.mono kp hr, env := fun t => (hS.env t).mono kp hr, blk := ?_, inj := ?_, own := ?_, dead := ?_, lt := ?_, up := hS.up, new := hS.new, os := ho.trans hS.os, tape := ht.trans hS.tape, output := hout.trans hS.output, hsize := Nat.le_trans hS.hsize hsz, frame := ?_ }
  · intro b r' k' h hk
    rcases back b r' h with ⟨rfl, rfl⟩ | ⟨e, h⟩
    · simp at hk; subst hk; exact hB
    · simp only [upd_ne _ _ _ _ e] at hk
      exact (hS.blk b r' k' h hk).mono kp hr (hold _ (hS.g_lt h hk))
  · intro b r1 b' r2 h h' hs hs' hgg
    rcases back b r1 h with ⟨eb, er⟩ | ⟨e, hq⟩ <;> rcases back b' r2 h' with ⟨eb', er'⟩ | ⟨e', hq'⟩
    · exact eb.trans eb'.symm
    · simp only [upd_ne _ _ _ _ e'] at hs'
      obtain ⟨k', hk'⟩ := Option.isSome_iff_exists.1 hs'
      have := hS.g_lt hq' hk'; subst er; omega
    · simp only [upd_ne _ _ _ _ e] at hs
      obtain ⟨k', hk'⟩ := Option.isSome_iff_exists.1 hs
      have := hS.g_lt hq hk'; subst er'; omega
    · simp only [upd_ne _ _ _ _ e] at hs
      simp only [upd_ne _ _ _ _ e'] at hs'
      exact hS.inj _ _ _ _ hq hq' hs hs' hgg
  · intro b r' k' h hk hl
    rcases back b r' h with ⟨rfl, rfl⟩ | ⟨e, h⟩
    · exact ⟨fun hA => by have := hS.lt _ hA; omega, .inr (Nat.le_trans hS.hsize hg)⟩
    · simp only [upd_ne _ _ _ _ e] at hk
      exact hS.own b r' k' h hk hl
  · intro b r' k' h hk hl
    rcases back b r' h with ⟨rfl, rfl⟩ | ⟨e, h⟩
    · simp at hk; subst hk; rw [hkl] at hl; cases hl
    · simp only [upd_ne _ _ _ _ e] at hk
      exact hS.dead b r' k' h hk hl
  · intro g hA; exact Nat.lt_of_lt_of_le (hS.lt g hA) hsz
  · intro g hg' hO; rw [hold g (Nat.lt_of_lt_of_le hg' hS.hsize)]; exact hS.frame g hg' hO

theorem zeroD_one {v : Value} {d : DV} (h : zeroD v = some d) : ∀ i, i < d.cells.length → (v.cells.getD i undef).oneCell' = true := by
  have hr := zeroD_rep h default (fun _ => True)
  intro i hi
  cases hr with
  | agg cs vs hl hone h => exact hone i hi
  | _ => simp [zeroD] at h <;> (have := zeroOne_one h; simp [DV.cells] at hi; subst hi; exact this)

theorem avOne_rep {d : AV} {v : Value} (h : avOne d = true) (hr : ARep w A ρ d v) : v.oneCell' = true := by
  cases hr with
  | d x _ hx => cases hx <;> first | rfl | simp [avOne] at h
  | _ => first | rfl | simp [avOne] at h

theorem avOne_cells {d : AV} {v : Value} (h : d.cells.all avOne = true) (hr : ARep w A ρ d v) :
    v.cells.size = d.cells.length ∧ ∀ i, i < d.cells.length → (v.cells.getD i undef).oneCell' = true ∧ ARep w A ρ (d.cells.getD i .undef) (v.cells.getD i undef) := by
  rcases hr.cells with rfl | ⟨h1, h2⟩
  · simp [AV.cells, avOne] at h
  · refine ⟨h1, fun i hi => ⟨avOne_rep ?_ (h2 i hi), h2 i hi⟩⟩
    have := List.all_eq_true.1 h (d.cells.getD i .undef) (by simp [List.getD, List.getElem?_eq_getElem hi])
    exact this

theorem dcells (d : DV) : (AV.d d).cells = d.cells.map .d := by cases d <;> rfl

theorem getD_map_d (l : List DV) (i : Nat) (h : i < l.length) : (l.map AV.d).getD i .undef = .d (l.getD i .inil) := by
  simp [List.getD, List.getElem?_map, List.getElem?_eq_getElem h]

theorem getD_replicate {α : Type} (n : Nat) (x d : α) (i : Nat) (h : i < n) : (List.replicate n x).getD i d = x := by
  simp [List.getD, h]

/-- New names lie from m to n alone. -/
def Names (ρ ρ' : Nat → Option BR) (m n : Nat) : Prop := m ≤ n ∧ ∀ b, ¬ (m ≤ b ∧ b < n) → ρ' b = ρ b

theorem Names.refl (ρ : Nat → Option BR) (m : Nat) : Names ρ ρ m m := ⟨Nat.le_refl _, fun _ _ => rfl⟩
theorem Names.one (ρ : Nat → Option BR) (m : Nat) (r : Option BR) : Names ρ (upd ρ m r) m (m + 1) := ⟨Nat.le_succ _, fun b h => upd_ne _ _ _ _ (by omega)⟩

def Free (ρ : Nat → Option BR) (n : Nat) : Prop := ∀ b, n ≤ b → ρ b = none

/-- The names from n on are free; those that were there when the call began are as they were. -/
structure Fr (c : Ctx) (ρ : Nat → Option BR) (n : Nat) : Prop where
  free : Free ρ n
  le : c.m ≤ n
  base : ∀ b, b < c.m → ρ b = c.ρ0 b

theorem Free.step {ρ ρ' : Nat → Option BR} {m n : Nat} (h : Free ρ m) (k : Names ρ ρ' m n) : Free ρ' n := fun b hb => by
  have := k.1
  rw [k.2 b (by omega)]; exact h b (by omega)

theorem Fr.step {c : Ctx} {ρ ρ' : Nat → Option BR} {m n : Nat} (h : Fr c ρ m) (k : Names ρ ρ' m n) : Fr c ρ' n :=
  ⟨h.free.step k, Nat.le_trans h.le k.1, fun b hb => by rw [k.2 b (by have := h.le; omega)]; exact h.base b hb⟩

/-- What a walk asks of an operation: the model's operation hands back a value that stands for the result's, in a world that stands for the changed state. -/
def Yields (P : Program) (c : Ctx) (A : Nat → Prop) (ρ : Nat → Option BR) (σ : St) (a : Act) (s : Sem Value) (w : World) (r : OpR) : Prop :=
  ∃ x w' A' ρ', s.run P w = .ok x w' ∧ Sim c A' ρ' { σ with lh := r.chg.foldl (fun f p => upd f p.1 p.2) σ.lh, nid := r.nid } a w' ∧ ARep w' A' ρ' r.v x ∧ Names ρ ρ' σ.nid r.nid

theorem Yields.just (hS : Sim c A ρ σ a w) {s : Sem Value} {v : AV} (h : ∃ x, s.run P w = .ok x w ∧ ARep w A ρ v x) : Yields P c A ρ σ a s w ⟨v, [], σ.nid⟩ := by
  obtain ⟨x, h1, h2⟩ := h
  exact ⟨x, w, A, ρ, h1, hS, h2, Names.refl _ _⟩

theorem alloc_sound (hS : Sim c A ρ σ a w) (hf : ρ σ.nid = none) {t : TypeId} {ti : TI} (ht : tinfo P t = some ti) :
    Yields P c A ρ σ a (Instr.alloc t true (.tuple #[])) w ⟨.loc σ.nid ti.sz 0 0, [(σ.nid, some ⟨[.d ti.zero], ti.sz, t, true, true⟩)], σ.nid + 1⟩ := by
  obtain ⟨i, u, z, hi, hu, hz, hzd, hsz, _, _, hzl⟩ := tinfo_parts ht
  have hdr := (zeroD_rep hzd w A)
  obtain ⟨c1, c2⟩ := hdr.cells
  have hone := zeroD_one hzd
  let r : BR := ⟨w.heap.size, 1, ti.sz⟩
  refine ⟨.pointer (some ⟨w.heap.size, 0, none⟩), w.alloc (.cells z.cells t), A, upd ρ σ.nid (some r), ?_, ?_, ?_, Names.one _ _ _⟩
  · simp [Instr.alloc, zeroValue, run_typeInfo' hi, hz, newVar, newRow]
  · refine hS.newBlock hf (w' := w.alloc (.cells z.cells t)) rfl rfl rfl (by simp) (fun g hg => heap_alloc_old w _ g hg) _ r (Nat.le_refl _) ?_ rfl
    have kp : Keeps w (w.alloc (.cells z.cells t)) A A := fun g hA => ⟨hA, heap_alloc_old w _ g (hS.lt g hA)⟩
    refine ⟨⟨z.cells, (0, 0), heap_alloc_new w _, ?_, fun _ => rfl, .inl rfl, ?_⟩, rfl, Nat.le_refl _, by simp [maxLen, r], ?_⟩
    · simp only [r]; omega
    · intro j m hj hm
      have hj0 : j = 0 := by simpa using hj
      subst hj0
      have hm' : m < ti.zero.cells.length := by rw [hzl]; exact hm
      refine ⟨z.cells.getD m undef, ?_, hone m hm', ?_⟩
      · have : m < z.cells.size := by omega
        simp [Array.getD, this]
      · simp only [List.getD_cons_zero, dcells]
        rw [getD_map_d _ _ hm']
        exact .d _ _ ((c2 m hm').mono kp)
    · intro j hj
      have hj0 : j = 0 := by simpa using hj
      subst hj0
      simp [dcells, hzl]
  · have := ARep.loc (w := w.alloc (.cells z.cells t)) (A := A) (ρ := upd ρ σ.nid (some r)) σ.nid ti.sz 0 0 r (by simp) rfl
    simpa using this

theorem box_sound (hS : Sim c A ρ σ a w) (hf : ρ σ.nid = none) {t : TypeId} {v : AV} {x : Value} (hx : ARep w A ρ v x) (h1 : v.cells.all avOne = true) :
    Yields P c A ρ σ a (Instr.box t x) w ⟨.loc σ.nid v.cells.length 0 0, [(σ.nid, some ⟨[v], v.cells.length, t, true, true⟩)], σ.nid + 1⟩ := by
  obtain ⟨c1, c2⟩ := avOne_cells h1 hx
  let r : BR := ⟨w.heap.size, 1, v.cells.length⟩
  have hr : ∀ b r', ρ b = some r' → upd ρ σ.nid (some r) b = some r' := fun b r' h => by
    rw [upd_ne _ _ _ _ (fun e => by rw [e] at h; simp_all)]; exact h
  refine ⟨.pointer (some ⟨w.heap.size, 0, none⟩), w.alloc (.cells x.cells t), A, upd ρ σ.nid (some r), ?_, ?_, ?_, Names.one _ _ _⟩
  · simp [Instr.box, newVar, newRow]
  · refine hS.newBlock hf (w' := w.alloc (.cells x.cells t)) rfl rfl rfl (by simp) (fun g hg => heap_alloc_old w _ g hg) _ r (Nat.le_refl _) ?_ rfl
    have kp : Keeps w (w.alloc (.cells x.cells t)) A A := fun g hA => ⟨hA, heap_alloc_old w _ g (hS.lt g hA)⟩
    refine ⟨⟨x.cells, (0, 0), heap_alloc_new w _, ?_, fun _ => rfl, .inl rfl, ?_⟩, rfl, Nat.le_refl _, by simp [maxLen, r], ?_⟩
    · simp only [r]; omega
    · intro j m hj hm
      have hj0 : j = 0 := by simpa using hj
      subst hj0
      refine ⟨x.cells.getD m undef, ?_, (c2 m hm).1, ?_⟩
      · have : m < x.cells.size := by simp only at hm; omega
        simp [Array.getD, this]
      · simpa using ((c2 m hm).2.mono kp hr)
    · intro j hj
      have hj0 : j = 0 := by simpa using hj
      subst hj0
      rfl
  · have := ARep.loc (w := w.alloc (.cells x.cells t)) (A := A) (ρ := upd ρ σ.nid (some r)) σ.nid v.cells.length 0 0 r (by simp) rfl
    simpa using this
end
end Go.Proofs.Am
