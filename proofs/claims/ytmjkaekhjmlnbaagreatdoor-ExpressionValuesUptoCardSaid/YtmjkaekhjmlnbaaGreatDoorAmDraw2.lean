/- Regions whose order is drawn, continued: any order. -/
import Derived.Test.YtmjkaekhjmlnbaaGreatDoorAmDraw
set_option linter.unusedVariables false
set_option linter.unusedSimpArgs false
namespace Go.Proofs.Am
open Go Go.RowKit

inductive PathD (E : CallE) (P : Program) (ops : Array Oper) (n0 : Nat) (pd : Option (Nat × DV)) (tr : Nat → TE) : List Nat → St → St → Prop where
  | nil (σ : St) : PathD E P ops n0 pd tr [] σ σ
  | cons (i : Nat) (o : Oper) (l : List Nat) (σ σ1 σ2 : St) (h : ops[i]? = some o) (s : StepD E P ops n0 pd i o σ σ1 (tr i)) (t : PathD E P ops n0 pd tr l σ1 σ2) : PathD E P ops n0 pd tr (i :: l) σ σ2

def direct (o : Oper) (j : Nat) : Bool := o.after.any fun e => Region.binds .any e && e.on == j

section
variable {P : Program} {gs : List Nat} {ops : Array Oper} {n0 : Nat} {pd : Option (Nat × DV)} {tr : Nat → TE}

theorem PathD.bubble {i : Nat} {oi : Oper} (hi : ops[i]? = some oi) : ∀ (l1 l2 : List Nat) (σ σ' : St), PathD (calls P gs) P ops n0 pd tr (l1 ++ i :: l2) σ σ' →
    (∀ j ∈ l1, ∀ oj, ops[j]? = some oj → oi.apart ops oj = true ∧ Indep (tr i) (tr j)) →
    ∃ σ1, StepD (calls P gs) P ops n0 pd i oi σ σ1 (tr i) ∧ PathD (calls P gs) P ops n0 pd tr (l1 ++ l2) σ1 σ'
  | [], l2, σ, σ', h, _ => by
    cases h with
    | cons _ o _ _ σ1 _ ho s t => rw [hi] at ho; cases ho; exact ⟨σ1, s, t⟩
  | j :: l1, l2, σ, σ', h, hc => by
    cases h with
    | cons _ oj _ _ σa _ ho s t =>
      obtain ⟨σb, s1, t1⟩ := PathD.bubble hi l1 l2 σa σ' t (fun j' hj' => hc j' (by simp [hj']))
      obtain ⟨h1, h2⟩ := hc j (by simp) oj ho
      obtain ⟨σ1, q1, q2⟩ := s.swap s1 h1 h2
      exact ⟨σ1, q1, .cons j oj _ _ σb _ ho q2 t1⟩

/-- The edges lead backwards. -/
def backwards (ops : Array Oper) : Bool := ops.toList.zipIdx.all fun (o, i) => o.after.all fun e => !Region.binds .any e || decide (e.on < i)

theorem backwards_at (h : backwards ops = true) {i : Nat} {o : Oper} (hi : ops[i]? = some o) : ∀ e ∈ o.after, Region.binds .any e = true → e.on < i := fun e he hb => by
  have hm : (o, i) ∈ ops.toList.zipIdx := by
    rw [List.mem_iff_getElem?]
    refine ⟨i, ?_⟩
    rw [List.getElem?_zipIdx]
    simp [hi]
  have := List.all_eq_true.1 h (o, i) hm
  have := Array.all_eq_true_iff_forall_mem.1 this e he
  simpa [hb] using this

theorem ready_mem {listed : Array Bool} {i : Nat} : i ∈ Region.ready .any ops listed ↔ ∃ o, ops[i]? = some o ∧ listed.getD i true = false ∧ ∀ e ∈ o.after, Region.binds .any e = true → listed.getD e.on false = true := by
  unfold Region.ready
  rw [List.mem_filter]
  constructor
  · rintro ⟨h1, h2⟩
    have hlt : i < ops.size := by simpa using h1
    simp only [Bool.and_eq_true, Bool.not_eq_true'] at h2
    refine ⟨ops[i], by simp [hlt], h2.1, fun e he hb => ?_⟩
    have h3 := h2.2
    simp only [Array.getElem?_eq_getElem hlt, Option.map_some, Option.getD_some] at h3
    have := Array.all_eq_true_iff_forall_mem.1 h3 e he
    simpa [hb] using this
  · rintro ⟨o, h1, h2, h3⟩
    have hlt := (Array.getElem?_eq_some_iff.1 h1).1
    refine ⟨by simpa using hlt, ?_⟩
    simp only [h1, h2, Option.map_some, Option.getD_some, Bool.not_false, Bool.true_and]
    exact Array.all_eq_true_iff_forall_mem.2 fun e he => by
      by_cases hb : Region.binds .any e = true
      · simp [hb, h3 e he hb]
      · simp [hb]

variable {c : Ctx}

/-- What is asked of pairs whose order is open. -/
def PairsOk (ops : Array Oper) (tr : Nat → TE) : Prop :=
  ∀ i oi j oj, j < i → ops[i]? = some oi → ops[j]? = some oj → direct oi j = true ∨ (oi.apart ops oj = true ∧ Indep (tr i) (tr j))

theorem sorted_split {l : List Nat} (hs : l.Pairwise (· < ·)) {i : Nat} (hi : i ∈ l) : ∃ l1 l2, l = l1 ++ i :: l2 ∧ ∀ j ∈ l1, j < i := by
  obtain ⟨l1, l2, rfl⟩ := List.append_of_mem hi
  refine ⟨l1, l2, rfl, fun j hj => ?_⟩
  rw [List.pairwise_append] at hs
  exact hs.2.2 j hj i (by simp)

theorem any_sound (hc : CtxOk gs c) (hd : ∀ o ∈ ops.toList, dstOk c.n o = true) (hb : backwards ops = true) (hp : PairsOk ops tr) {Q : Exit → St → Prop} {QP : DV → St → Prop} {σe : St} (hQ : Q .normal { σe with nid := n0 + ops.size }) (hm0 : c.m ≤ n0) :
    ∀ (fuel : Nat) (listed : Array Bool) (l : List Nat) (σ : St) (A : Nat → Prop) (ρ : Nat → Option BR) (a : Act) (w : World), listed.size = ops.size → l.Pairwise (· < ·) → (∀ i, i ∈ l ↔ i < ops.size ∧ listed.getD i true = false) → l.length ≤ fuel →
      PathD (calls P gs) P ops n0 none tr l σ σe → Sim c A ρ σ a w → (∀ b, n0 ≤ b → (∀ j, j < ops.size → j ∉ l → b ≠ n0 + j) → ρ b = none) → (∀ b, b < c.m → ρ b = c.ρ0 b) → wpAny P .any ops (QC c Q QP) fuel listed a w := by
  have fin : ∀ (σ : St) (A : Nat → Prop) (ρ : Nat → Option BR) (a : Act) (w : World), PathD (calls P gs) P ops n0 none tr [] σ σe → Sim c A ρ σ a w → (∀ b, n0 ≤ b → (∀ j, j < ops.size → j ∉ ([] : List Nat) → b ≠ n0 + j) → ρ b = none) → (∀ b, b < c.m → ρ b = c.ρ0 b) → QC c Q QP .normal a w := fun σ A ρ a w hP hS hF hB => by
    cases hP
    exact ⟨_, A, ρ, hQ, { hS with }, ⟨fun b hb => hF b (by simp only at hb; omega) (fun j hj _ => by simp only at hb; omega), by simp only; omega, hB⟩⟩
  have none_ready : ∀ (listed : Array Bool) (l : List Nat), l.Pairwise (· < ·) → (∀ i, i ∈ l ↔ i < ops.size ∧ listed.getD i true = false) → Region.ready .any ops listed = [] → listed.size = ops.size → l = [] := fun listed l hs hm hr hsz => by
    cases l with
    | nil => rfl
    | cons i r =>
      exfalso
      obtain ⟨h1, h2⟩ := (hm i).1 (by simp)
      have hio : ops[i]? = some ops[i] := by simp [h1]
      have : i ∈ Region.ready .any ops listed := ready_mem.2 ⟨ops[i], hio, h2, fun e he hbe => by
        have hlt := backwards_at hb hio e he hbe
        have hnl : e.on ∉ i :: r := fun hin => by
          rcases List.mem_cons.1 hin with h | h
          · omega
          · have := (List.pairwise_cons.1 hs).1 _ h; omega
        have hsz2 : e.on < listed.size := by omega
        have h3 : listed.getD e.on true ≠ false := fun h => hnl ((hm e.on).2 ⟨by omega, h⟩)
        simp only [Array.getD, hsz2, dif_pos] at h3 ⊢
        simpa using h3⟩
      rw [hr] at this; cases this
  intro fuel
  induction fuel with
  | zero =>
    intro listed l σ A ρ a w hsz hs hm hl hP hS hF hB
    have : l = [] := List.eq_nil_of_length_eq_zero (by omega)
    subst this
    refine ⟨?_, fin σ A ρ a w hP hS hF hB⟩
    rw [List.eq_nil_iff_forall_not_mem]
    intro i hi
    obtain ⟨o, h1, h2, _⟩ := ready_mem.1 hi
    have := (hm i).2 ⟨(Array.getElem?_eq_some_iff.1 h1).1, h2⟩
    cases this
  | succ fuel ih =>
    intro listed l σ A ρ a w hsz hs hm hl hP hS hF hB
    refine ⟨fun hr => ?_, fun i hi => ?_⟩
    · have := none_ready listed l hs hm hr hsz
      subst this
      exact fin σ A ρ a w hP hS hF hB
    · obtain ⟨oi, hoi, hun, hre⟩ := ready_mem.1 hi
      have hilt := (Array.getElem?_eq_some_iff.1 hoi).1
      have hil := (hm i).2 ⟨hilt, hun⟩
      obtain ⟨l1, l2, rfl, hlt⟩ := sorted_split hs hil
      obtain ⟨σ1, hstep, hpath⟩ := hP.bubble hoi l1 l2 σ σe (fun j hj oj hoj => by
        rcases hp i oi j oj (hlt j hj) hoi hoj with h | h
        · exfalso
          unfold direct at h
          obtain ⟨x, hx, h2⟩ := Array.any_eq_true.1 h
          simp only [Bool.and_eq_true, beq_iff_eq] at h2
          have h3 := hre oi.after[x] (Array.getElem_mem hx) h2.1
          obtain ⟨h4, h5⟩ := (hm j).1 (by simp [hj])
          rw [h2.2] at h3
          have : j < listed.size := by omega
          simp only [Array.getD, this, dif_pos] at h3 h5
          rw [h3] at h5; cases h5
        · exact h)
      have hdo : ∀ d, oi.dst = some d → d < c.n := fun d e => by
        have := hd oi (by rw [List.mem_iff_getElem?]; exact ⟨i, by simpa using hoi⟩)
        simp only [dstOk, e, decide_eq_true_eq] at this; exact this
      have hni : i ∉ l1 ∧ i ∉ l2 := by
        rw [List.pairwise_append, List.pairwise_cons] at hs
        exact ⟨fun h => by have := hlt i h; omega, fun h => by have := hs.2.1.1 i h; omega⟩
      have rest : ∀ (σ' : St) (A' : Nat → Prop) (ρ' : Nat → Option BR) (a' : Act) (w' : World), PathD (calls P gs) P ops n0 none tr (l1 ++ l2) σ' σe → Sim c A' ρ' σ' a' w' → (∀ b, ¬ (n0 + i ≤ b ∧ b < n0 + i + 1) → ρ' b = ρ b) →
          wpAny P .any ops (QC c Q QP) fuel (listed.setIfInBounds i true) a' w' := fun σ' A' ρ' a' w' hP' hS' hN => by
        refine ih _ (l1 ++ l2) σ' A' ρ' a' w' (by simpa using hsz) ?_ (fun j => ?_) (by simp at hl ⊢; omega) hP' hS' (fun b hb hj => ?_) (fun b hb => by rw [hN b (by omega)]; exact hB b hb)
        · rw [List.pairwise_append, List.pairwise_cons] at hs
          rw [List.pairwise_append]
          exact ⟨hs.1, hs.2.1.2, fun x hx y hy => hs.2.2 x hx y (by simp [hy])⟩
        · have h1 := hm j
          by_cases hji : j = i
          · subst hji
            constructor
            · intro h; rcases List.mem_append.1 h with h | h
              · exact absurd h hni.1
              · exact absurd h hni.2
            · rintro ⟨_, h⟩
              have : j < listed.size := by omega
              simp [Array.getD, this] at h
          · have e1 : (listed.setIfInBounds i true).getD j true = listed.getD j true := by
              simp only [Array.getD_eq_getD_getElem?, Array.getElem?_setIfInBounds]
              rw [if_neg (by omega)]
            rw [e1, ← h1]
            simp [hji]
        · have hbi : b ≠ n0 + i := hj i hilt (by rw [List.mem_append]; exact fun h => h.elim hni.1 hni.2)
          rw [hN b (by omega)]
          exact hF b hb (fun j hjl hjn => hj j hjl (fun h => hjn (by rcases List.mem_append.1 h with h | h <;> simp [h])))
      unfold wpOp
      rw [hoi]
      simp only
      generalize htr : tr i = te at hstep
      cases hstep with
      | run r rs hg h hn hi =>
        have hS' : Sim c A ρ { σ with nid := n0 + i } a w := { hS with }
        rw [guard_sound hS hg, if_pos rfl]
        refine .inl (op_sound (P := P) hc hS' oi hdo false (fun r' => r' = r.res σ.lh) (fun _ _ => False) _ _ (h.wp rfl) (fun r' e k hk => ?_) (fun h => by cases h) (fun r' x A' ρ' w' e hN hS1 => ?_) (fun d r' x A' ρ' w' h => h.elim))
        · subst e
          refine hF _ (by simp only; omega) (fun j hj hjl => ?_)
          simp only [OpR.res] at hk ⊢
          intro e2
          have : j = i := by omega
          exact hjl (by rw [this]; simp)
        · subst e
          refine rest { env := putE σ.env oi.dst r.v, lh := applyChg σ.lh r.chg, nid := σ.nid, dfs := σ.dfs } A' ρ' _ w' hpath ?_ (fun b hb => ?_)
          · exact { hS1 with }
          · exact hN.2 b (by simp only [OpR.res] at hb ⊢; omega)
      | pan d f args rs hpd => cases hpd
      | skip hg hi =>
        rw [guard_sound hS hg]
        simp only [Bool.false_eq_true, if_false]
        exact rest _ A ρ _ w hpath (hS.put (.d _ _ (.tup [] #[] rfl (fun i hi => by simp at hi))) oi.dst hdo) (fun _ _ => rfl)

/-- The slots and the blocks that a region may touch are given up. -/
def dropped (σ : St) (T W : List Nat) (n : Nat) : St :=
  ⟨fun t => if T.contains t then .undef else σ.env t, fun b => if W.contains b then none else σ.lh b, n, σ.dfs⟩

structure Near (σ0 σ : St) (T W : List Nat) : Prop where
  env : ∀ t, T.contains t = false → σ.env t = σ0.env t
  lh : ∀ b, W.contains b = false → σ.lh b = σ0.lh b
  dfs : σ.dfs = σ0.dfs

theorem Near.step {σ0 σ σ' : St} {T W : List Nat} {i : Nat} {o : Oper} {t : TE} {E : CallE} (h : Near σ0 σ T W) (hs : StepD E P ops n0 pd i o σ σ' t) (hT : ∀ d, o.dst = some d → T.contains d = true) (hW : ∀ b ∈ t.writes, W.contains b = true) : Near σ0 σ' T W := by
  have env1 : ∀ v t, T.contains t = false → putE σ.env o.dst v t = σ0.env t := fun v t ht => by
    cases hd : o.dst with
    | none => exact h.env t ht
    | some d =>
      have := hT d hd
      simp only [putE]
      rw [upd_ne _ _ _ _ (fun e => by rw [e, this] at ht; cases ht)]
      exact h.env t ht
  cases hs with
  | run r rs hg hr hn hi =>
    refine ⟨fun t ht => env1 _ t ht, fun b hb => ?_, h.dfs⟩
    simp only
    rw [applyChg_notin r.chg σ.lh b (fun hin => by rw [hW b hin] at hb; cases hb)]
    exact h.lh b hb
  | skip hg hi => exact ⟨fun t ht => env1 _ t ht, h.lh, h.dfs⟩
  | pan d f args rs hpd hg hr hp => exact ⟨fun t ht => env1 _ t ht, h.lh, h.dfs⟩

theorem Sim.dropped {A : Nat → Prop} {ρ : Nat → Option BR} {σ0 σ : St} {a : Act} {w : World} {T W : List Nat} (hS : Sim c A ρ σ a w) (hN : Near σ0 σ T W) (n : Nat) : Sim c A ρ (dropped σ0 T W n) a w := by
  have look : ∀ b k, (if W.contains b then none else σ0.lh b) = some k → σ.lh b = some k := fun b k h => by
    cases hw : W.contains b with
    | true => rw [hw] at h; cases h
    | false => rw [hw] at h; rw [hN.lh b hw]; exact h
  have some1 : ∀ b, (if W.contains b then none else σ0.lh b).isSome = true → (σ.lh b).isSome = true := fun b h => by
    obtain ⟨k, hk⟩ := Option.isSome_iff_exists.1 h
    rw [look b k hk]; rfl
  refine { size := hS.size, defers := ?_, env := fun t => ?_, blk := fun b r k h hk => hS.blk b r k h (look b k hk), inj := fun b r b' r' h h' s s' hg => hS.inj b r b' r' h h' (some1 b s) (some1 b' s') hg, own := fun b r k h hk hl => hS.own b r k h (look b k hk) hl, dead := fun b r k h hk hl => hS.dead b r k h (look b k hk) hl, lt := hS.lt, up := hS.up, new := hS.new, os := hS.os, tape := hS.tape, output := hS.output, hsize := hS.hsize, frame := hS.frame }
  · have := hS.defers; rw [hN.dfs] at this; exact this
  · simp only [Am.dropped]
    cases ht : T.contains t with
    | true => simp; exact .un _
    | false => simp only [Bool.false_eq_true, if_false]; rw [← hN.env t ht]; exact hS.env t

theorem anyP_sound (hc : CtxOk gs c) {p : Nat} {dp : DV} (hd : ∀ o ∈ ops.toList, dstOk c.n o = true) (hb : backwards ops = true) (hp : PairsOk ops tr) {D : List Nat} (hDp : p ∉ D) (hD : ∀ i ∈ D, ∀ o, ops[i]? = some o → ∃ j, (j = p ∨ j ∈ D) ∧ j < ops.size ∧ direct o j = true)
    (hND : ∀ i, i < ops.size → i ∉ D → ∀ o, ops[i]? = some o → ∀ j ∈ D, direct o j = false) {T W : List Nat} (hT : ∀ o ∈ ops.toList, ∀ d, o.dst = some d → T.contains d = true) (hW : ∀ i b, b ∈ (tr i).writes → W.contains b = true) {σ0 : St}
    {Q : Exit → St → Prop} {QP : DV → St → Prop} (hQ : QP dp (dropped σ0 T W (n0 + ops.size))) (hm0 : c.m ≤ n0) {σe : St} (hlt : p < ops.size) :
    ∀ (fuel : Nat) (listed : Array Bool) (l : List Nat) (σ : St) (A : Nat → Prop) (ρ : Nat → Option BR) (a : Act) (w : World), listed.size = ops.size → l.Pairwise (· < ·) → p ∈ l → listed.getD p true = false → (∀ i ∈ D, listed.getD i true = false ∨ ops.size ≤ i) → (∀ i, i ∈ l ↔ i < ops.size ∧ i ∉ D ∧ listed.getD i true = false) → l.length ≤ fuel →
      PathD (calls P gs) P ops n0 (some (p, dp)) tr l σ σe → Near σ0 σ T W → Sim c A ρ σ a w → (∀ b, n0 ≤ b → (∀ j, j < ops.size → j ∉ l → b ≠ n0 + j) → ρ b = none) → (∀ b, b < c.m → ρ b = c.ρ0 b) → wpAny P .any ops (QC c Q QP) fuel listed a w := by
  intro fuel
  induction fuel with
  | zero =>
    intro listed l σ A ρ a w hsz hs hpl hpu hDl hm hl hP hN hS hF hB
    have : l = [] := List.eq_nil_of_length_eq_zero (by omega)
    subst this; cases hpl
  | succ fuel ih =>
    intro listed l σ A ρ a w hsz hs hpl hpu hDl hm hl hP hN hS hF hB
    have unl : ∀ j, j < ops.size → listed.getD j false = true → listed.getD j true = true := fun j hj h => by
      have : j < listed.size := by omega
      simp only [Array.getD, this, dif_pos] at h ⊢; exact h
    refine ⟨fun hr => ?_, fun i hi => ?_⟩
    · exfalso
      cases l with
      | nil => cases hpl
      | cons i r =>
        obtain ⟨h1, h1D, h2⟩ := (hm i).1 (by simp)
        have hio : ops[i]? = some ops[i] := by simp [h1]
        have : i ∈ Region.ready .any ops listed := ready_mem.2 ⟨ops[i], hio, h2, fun e he hbe => by
          have hlt' := backwards_at hb hio e he hbe
          have hnl : e.on ∉ i :: r := fun hin => by
            rcases List.mem_cons.1 hin with h | h
            · omega
            · have := (List.pairwise_cons.1 hs).1 _ h; omega
          have hnD : e.on ∉ D := fun hin => by
            have := hND i h1 h1D _ hio e.on hin
            have h4 : direct ops[i] e.on = true := by
              unfold direct
              exact Array.any_eq_true.2 (by
                obtain ⟨k, hk, hke⟩ := Array.mem_iff_getElem.1 he
                exact ⟨k, hk, by rw [hke]; simp [hbe]⟩)
            rw [h4] at this; cases this
          have hsz2 : e.on < listed.size := by omega
          have h3 : listed.getD e.on true ≠ false := fun h => hnl ((hm e.on).2 ⟨by omega, hnD, h⟩)
          simp only [Array.getD, hsz2, dif_pos] at h3 ⊢
          simpa using h3⟩
        rw [hr] at this; cases this
    · obtain ⟨oi, hoi, hun, hre⟩ := ready_mem.1 hi
      have hilt := (Array.getElem?_eq_some_iff.1 hoi).1
      have nodir : ∀ j, j < ops.size → listed.getD j true = false → direct oi j = false := fun j hj hju => by
        cases hdir : direct oi j with
        | false => rfl
        | true =>
          exfalso
          unfold direct at hdir
          obtain ⟨x, hx, h2⟩ := Array.any_eq_true.1 hdir
          simp only [Bool.and_eq_true, beq_iff_eq] at h2
          have h3 := hre oi.after[x] (Array.getElem_mem hx) h2.1
          rw [h2.2] at h3
          rw [unl j hj h3] at hju; cases hju
      have hiD : i ∉ D := fun hin => by
        obtain ⟨j, hj, hjs, hdj⟩ := hD i hin oi hoi
        have : listed.getD j true = false := by
          rcases hj with rfl | hj
          · exact hpu
          · rcases hDl j hj with h | h
            · exact h
            · omega
        rw [nodir j hjs this] at hdj; cases hdj
      have hil := (hm i).2 ⟨hilt, hiD, hun⟩
      obtain ⟨l1, l2, rfl, hlt1⟩ := sorted_split hs hil
      obtain ⟨σ1, hstep, hpath⟩ := hP.bubble hoi l1 l2 σ σe (fun j hj oj hoj => by
        rcases hp i oi j oj (hlt1 j hj) hoi hoj with h | h
        · exfalso
          obtain ⟨h4, _, h5⟩ := (hm j).1 (by simp [hj])
          rw [nodir j h4 h5] at h; cases h
        · exact h)
      have hoim : oi ∈ ops.toList := by rw [List.mem_iff_getElem?]; exact ⟨i, by simpa using hoi⟩
      have hdo : ∀ d, oi.dst = some d → d < c.n := fun d e => by
        have := hd oi hoim
        simp only [dstOk, e, decide_eq_true_eq] at this; exact this
      have hni : i ∉ l1 ∧ i ∉ l2 := by
        rw [List.pairwise_append, List.pairwise_cons] at hs
        exact ⟨fun h => by have := hlt1 i h; omega, fun h => by have := hs.2.1.1 i h; omega⟩
      have hN1 := hN.step hstep (hT oi hoim) (hW i)
      have rest : i ≠ p → ∀ (σ' : St) (A' : Nat → Prop) (ρ' : Nat → Option BR) (a' : Act) (w' : World), PathD (calls P gs) P ops n0 (some (p, dp)) tr (l1 ++ l2) σ' σe → Near σ0 σ' T W → Sim c A' ρ' σ' a' w' → (∀ b, ¬ (n0 + i ≤ b ∧ b < n0 + i + 1) → ρ' b = ρ b) →
          wpAny P .any ops (QC c Q QP) fuel (listed.setIfInBounds i true) a' w' := fun hip σ' A' ρ' a' w' hP' hN' hS' hNm => by
        have e1 : ∀ j, j ≠ i → (listed.setIfInBounds i true).getD j true = listed.getD j true := fun j hji => by
          simp only [Array.getD_eq_getD_getElem?, Array.getElem?_setIfInBounds]
          rw [if_neg (by omega)]
        refine ih _ (l1 ++ l2) σ' A' ρ' a' w' (by simpa using hsz) ?_ ?_ (by rw [e1 p (Ne.symm hip)]; exact hpu) (fun j hj => ?_) (fun j => ?_) (by simp at hl ⊢; omega) hP' hN' hS' (fun b hb hj => ?_) (fun b hb => by rw [hNm b (by omega)]; exact hB b hb)
        · rw [List.pairwise_append, List.pairwise_cons] at hs
          rw [List.pairwise_append]
          exact ⟨hs.1, hs.2.1.2, fun x hx y hy => hs.2.2 x hx y (by simp [hy])⟩
        · rcases List.mem_append.1 hpl with h | h
          · simp [h]
          · rcases List.mem_cons.1 h with h | h
            · exact absurd h.symm hip
            · simp [h]
        · rw [e1 j (fun e => hiD (e ▸ hj))]; exact hDl j hj
        · have h1 := hm j
          by_cases hji : j = i
          · subst hji
            constructor
            · intro h; rcases List.mem_append.1 h with h | h
              · exact absurd h hni.1
              · exact absurd h hni.2
            · rintro ⟨_, _, h⟩
              have : j < listed.size := by omega
              simp [Array.getD, this] at h
          · rw [e1 j hji, ← h1]
            simp [hji]
        · have hbi : b ≠ n0 + i := hj i hilt (by rw [List.mem_append]; exact fun h => h.elim hni.1 hni.2)
          rw [hNm b (by omega)]
          exact hF b hb (fun j hjl hjn => hj j hjl (fun h => hjn (by rcases List.mem_append.1 h with h | h <;> simp [h])))
      unfold wpOp
      rw [hoi]
      simp only
      generalize htr : tr i = te at hstep
      cases hstep with
      | pan d f args rs hpd hg h hpn =>
        simp only [Option.some.injEq, Prod.mk.injEq] at hpd
        obtain ⟨rfl, rfl⟩ := hpd
        have hS' : Sim c A ρ { σ with nid := n0 + p } a w := { hS with }
        rw [guard_sound hS hg, if_pos rfl]
        refine .inl (op_sound (P := P) hc hS' oi hdo false (fun _ => False) (fun d r => d = dp ∧ r.nid = n0 + p ∧ r.lh = σ.lh) _ _ ?_ (fun r' e => e.elim) (fun h => by cases h) (fun r' x A' ρ' w' e => e.elim) (fun d r' x A' ρ' w' e hNm hS1 hx => ?_))
        · have h' : opB P (n0 + p) σ.eval oi.op = .call (n0 + p) f args := h
          show wpB (calls P gs) false (opB P (n0 + p) σ.eval oi.op) σ.lh _ _
          rw [h']
          exact .inr (.inr (.inr ⟨dp, rs, hpn, rfl, rfl, rfl⟩))
        · obtain ⟨rfl, e1, e2⟩ := e
          have hρ : ρ' = ρ := by
            funext b
            exact hNm.2 b (by simp only [e1]; omega)
          subst hρ
          have hS2 : Sim c A' ρ' σ a w' := by
            have : Sim c A' ρ' { σ with lh := r'.lh, nid := r'.nid } a w' := hS1
            rw [e2] at this
            exact { this with }
          exact ⟨d, x, _, A', ρ', rfl, hQ, hS2.dropped hN _, hx, ⟨fun b hb => hF b (by simp only [Am.dropped] at hb; omega) (fun j hj _ => by simp only [Am.dropped] at hb; omega), by simp only [Am.dropped]; omega, hB⟩⟩
      | run r rs hg h hn hi =>
        have hip : i ≠ p := fun e => hi dp (by rw [e])
        have hS' : Sim c A ρ { σ with nid := n0 + i } a w := { hS with }
        rw [guard_sound hS hg, if_pos rfl]
        refine .inl (op_sound (P := P) hc hS' oi hdo false (fun r' => r' = r.res σ.lh) (fun _ _ => False) _ _ (h.wp rfl) (fun r' e k hk => ?_) (fun h => by cases h) (fun r' x A' ρ' w' e hNm hS1 => ?_) (fun d r' x A' ρ' w' h => h.elim))
        · subst e
          refine hF _ (by simp only; omega) (fun j hj hjl => ?_)
          simp only [OpR.res] at hk ⊢
          intro e2
          have : j = i := by omega
          exact hjl (by rw [this]; simp)
        · subst e
          refine rest hip { env := putE σ.env oi.dst r.v, lh := applyChg σ.lh r.chg, nid := σ.nid, dfs := σ.dfs } A' ρ' _ w' hpath hN1 ?_ (fun b hb => ?_)
          · exact { hS1 with }
          · exact hNm.2 b (by simp only [OpR.res] at hb ⊢; omega)
      | skip hg hi =>
        have hip : i ≠ p := fun e => hi dp (by rw [e])
        rw [guard_sound hS hg]
        simp only [Bool.false_eq_true, if_false]
        exact rest hip _ A ρ _ w hpath hN1 (hS.put (.d _ _ (.tup [] #[] rfl (fun i hi => by simp at hi))) oi.dst hdo) (fun _ _ => rfl)

theorem Sim.drew {A : Nat → Prop} {ρ : Nat → Option BR} {σ : St} {a : Act} {w : World} (hS : Sim c A ρ σ a w) : Sim c A ρ σ a { w with drawn := w.drawn + 1 } := by
  have kp : Keeps w { w with drawn := w.drawn + 1 } A A := fun g h => ⟨h, rfl⟩
  exact { hS with defers := hS.defers.mono kp (fun _ _ h => h), env := fun t => (hS.env t).mono kp (fun _ _ h => h), blk := fun b r k h1 h2 => (hS.blk b r k h1 h2).mono kp (fun _ _ h => h) rfl }

/-- A REGION THAT DRAWS: one walk in the order of the text. -/
theorem draw_sound (hm : P.follows .mixedOrders = true) (hc : CtxOk gs c) {id : Nat} (hd : ∀ o ∈ ops.toList, dstOk c.n o = true) (hb : backwards ops = true) (hp : PairsOk ops tr) {Q : Exit → St → Prop} {QP : DV → St → Prop} {σ σe : St}
    {A : Nat → Prop} {ρ : Nat → Option BR} {a : Act} {w : World} (hP : PathD (calls P gs) P ops σ.nid none tr (List.range ops.size) σ σe) (hQ : Q .normal { σe with nid := σ.nid + ops.size }) (hS : Sim c A ρ σ a w) (hF : Fr c ρ σ.nid) :
    (Code.region id ops true).wp P (QC c Q QP) a w := by
  refine wp_region_any hm (any_sound hc hd hb hp hQ hF.le ops.size _ (List.range ops.size) σ A ρ a _ (by simp) List.pairwise_lt_range (fun i => ?_) (by simp) hP hS.drew (fun b hb _ => hF.free b hb) hF.base)
  constructor
  · intro h
    have h : i < ops.size := by simpa using h
    exact ⟨h, by simp [Array.getD, h]⟩
  · rintro ⟨h, _⟩; simpa using h
end
end Go.Proofs.Am
