/- Calls with a pointer to a block of the caller's. -/
import Derived.Test.YtmjkaekhjmlnbaaGreatDoorAmSimp
set_option linter.unusedVariables false
set_option linter.unusedSimpArgs false
namespace Go.Proofs.Am
open Go Go.RowKit

/-- An element that is data, cell by cell. -/
def flatD : AV → Option DV
  | .d x => some x
  | .agg cs => (allD cs).map .agg
  | _ => none

theorem flatD_cells {e : AV} {x : DV} (h : flatD e = some x) : e.cells = x.cells.map .d := by
  cases e with
  | d y => simp only [flatD, Option.some.injEq] at h; subst h; exact dcells _
  | agg cs =>
    simp only [flatD, Option.map_eq_some_iff] at h
    obtain ⟨ds, h1, rfl⟩ := h
    rw [allD_map h1]; rfl
  | _ => simp [flatD] at h

/-- One local block. -/
def oneB (k : LB) : Nat → Option LB := fun b => if b = 0 then some k else none

theorem oneB_some {k k' : LB} {b : Nat} (h : oneB k b = some k') : b = 0 ∧ k' = k := by
  unfold oneB at h
  split at h
  · exact ⟨‹_›, (Option.some.inj h).symm⟩
  · cases h

section
variable {P : Program} {gs : List Nat} {A A' : Nat → Prop} {ρ ρ' : Nat → Option BR} {w w' : World}

theorem ARep.rho {v : DV} {x : Value} (h : ARep w A ρ (.d v) x) : ARep w A ρ' (.d v) x := by
  cases h with
  | d _ _ h => exact .d _ _ h

theorem BRep.flat {k : LB} {r : BR} {e : AV} {x : DV} (h : BRep w A ρ k r) (hk : k.els = [e]) (hx : flatD e = some x) : BRep w A ρ' { k with els := [.d x] } r := by
  obtain ⟨⟨cur, fr, h1, h2, h3, h4, h5⟩, e1, e2, e3, e4⟩ := h
  have hc := flatD_cells hx
  have hc0 : ∀ j, j < 1 → (k.els.getD j .undef).cells = ((AV.d x)).cells := fun j hj => by
    have : j = 0 := by omega
    subst this
    rw [hk, dcells]; simpa using hc
  have hlen : k.els.length = 1 := by rw [hk]; rfl
  refine ⟨⟨cur, fr, h1, h2, h3, h4, fun j m hj hm => ?_⟩, e1, by simpa [hlen] using e2, e3, fun j hj => ?_⟩
  · have hj : j < 1 := hj
    obtain ⟨v, q1, q2, q3⟩ := h5 j m (by omega) hm
    refine ⟨v, q1, q2, ?_⟩
    have hj0 : j = 0 := by omega
    rw [hc0 j hj] at q3
    subst hj0
    have hs : m < x.cells.length := by
      have := e4 0 (by omega)
      rw [hc0 0 (by omega), dcells, List.length_map] at this
      have hm : m < k.es := hm
      omega
    show ARep w A ρ' (((AV.d x)).cells.getD m .undef) v
    rw [dcells, getD_map_d _ _ hs] at q3 ⊢
    exact q3.rho
  · have hj : j < 1 := hj
    have hj0 : j = 0 := by omega
    subst hj0
    have := e4 0 (by omega)
    rw [hc0 0 (by omega)] at this
    exact this

/-- THE CONTRACT of a call with a pointer to a block of data, and data. -/
def PtrCall (P : Program) (gs : List Nat) (f : FuncId) (es ty : Nat) (x : DV) (args : List DV) (x' d : DV) : Prop :=
  enterOk P f = true ∧ ∀ (w : World) (A : Nat → Prop) (ρ : Nat → Option BR) (vals : Array Value), HS (ctx0 w A ρ (oneB ⟨[.d x], es, ty, true, true⟩) 0 0) A ρ (oneB ⟨[.d x], es, ty, true, true⟩) w → GInt gs w →
    (∀ g ∈ gs, ¬ Own ρ (oneB ⟨[.d x], es, ty, true, true⟩) g) → Free ρ 1 → ARepL w A ρ (.loc 0 es 0 0 :: args.map .d) vals →
    Calls P f vals w fun e w' => ∃ v, e = .returned v ∧ ∃ A' ρ', HS (ctx0 w A ρ (oneB ⟨[.d x], es, ty, true, true⟩) 0 0) A' ρ' (oneB ⟨[.d x'], es, ty, true, true⟩) w' ∧ DRep w' A' d v ∧ ρ' 0 = ρ 0

/-- Such a call among the caller's blocks. -/
theorem hcall_of_ptr {f : FuncId} {es ty : Nat} {x : DV} {args : List DV} {x' d : DV} (h : PtrCall P gs f es ty x args x' d) {lh : Nat → Option LB} {b nid : Nat} {e : AV} (hb : lh b = some ⟨[e], es, ty, true, true⟩) (he : flatD e = some x) :
    HCall P gs f (.loc b es 0 0 :: args.map .d) lh nid ⟨.d d, upd lh b (some ⟨[.d x'], es, ty, true, true⟩), nid⟩ := by
  refine ⟨h.1, fun w A ρ vals hS hG hO hF hr => ?_⟩
  have h0 := hr.at_ 0 (by simp)
  have h0 : ARep w A ρ (.loc b es 0 0) (vals.getD 0 undef) := h0
  generalize hv0 : vals.getD 0 undef = v0 at h0
  cases h0 with
  | loc _ _ _ _ r hρ hes =>
  let ρc : Nat → Option BR := fun i => if i = 0 then some r else none
  have hρc : ∀ i q, ρc i = some q → i = 0 ∧ q = r := fun i q hq => by
    simp only [ρc] at hq
    split at hq
    · exact ⟨‹_›, (Option.some.inj hq).symm⟩
    · cases hq
  have hown0 := hS.own b r _ hρ hb rfl
  have hmap : ∀ g, Own ρc (oneB ⟨[.d x], es, ty, true, true⟩) g → Own ρ lh g := fun g ⟨i, q, k, h1, h2, h3, h4⟩ => by
    obtain ⟨rfl, rfl⟩ := hρc i q h1
    exact ⟨b, q, _, hρ, hb, rfl, h4⟩
  have hg1 : ∀ g, Own ρc (oneB ⟨[.d x], es, ty, true, true⟩) g → g = r.g := fun g ⟨i, q, k, h1, h2, h3, h4⟩ => by
    obtain ⟨rfl, rfl⟩ := hρc i q h1
    exact h4.symm
  have hc : HS (ctx0 w A ρc (oneB ⟨[.d x], es, ty, true, true⟩) 0 0) A ρc (oneB ⟨[.d x], es, ty, true, true⟩) w :=
    { blk := fun i q k h1 h2 => by
        obtain ⟨rfl, rfl⟩ := hρc i q h1
        obtain ⟨_, rfl⟩ := oneB_some h2
        exact (hS.blk b q _ hρ hb).flat rfl he
      inj := fun i q i' q' h1 h2 _ _ _ => by rw [(hρc i q h1).1, (hρc i' q' h2).1]
      own := fun i q k h1 h2 h3 => by
        obtain ⟨rfl, rfl⟩ := hρc i q h1
        exact ⟨hown0.1, .inl ⟨0, q, _, rfl, rfl, rfl, rfl⟩⟩
      dead := fun i q k h1 h2 h3 => by
        obtain ⟨_, rfl⟩ := oneB_some h2
        cases h3
      lt := hS.lt
      up := fun g h => h
      new := fun g h => .inl h
      os := rfl
      tape := rfl
      output := rfl
      hsize := Nat.le_refl _
      frame := fun g _ _ => rfl }
  have hargs : ARepL w A ρc (.loc 0 es 0 0 :: args.map .d) vals := ⟨by have := hr.size; simpa using this, fun i hi => by
    cases i with
    | zero =>
      rw [hv0]
      exact ARep.loc 0 es 0 0 r rfl hes
    | succ i =>
      have := hr.at_ (i + 1) (by simpa using hi)
      have hi' : i < args.length := by simpa using hi
      have e1 : (AV.loc 0 es 0 0 :: args.map AV.d).getD (i + 1) .undef = .d (args.getD i .inil) := by
        rw [List.getD_cons_succ, getD_map_d _ _ hi']
      have e2 : (AV.loc b es 0 0 :: args.map AV.d).getD (i + 1) .undef = .d (args.getD i .inil) := by
        rw [List.getD_cons_succ, getD_map_d _ _ hi']
      rw [e1]; rw [e2] at this
      exact this.rho⟩
  refine (h.2 w A ρc vals hc hG (fun g hg ho => hO g hg (hmap g ho)) (fun i hi => by simp only [ρc]; rw [if_neg (by omega)]) hargs).mono fun e' w' hq => ?_
  obtain ⟨v, rfl, A', ρ', hS', hd, hρ'⟩ := hq
  have hρ' : ρ' 0 = some r := hρ'
  have kp := hc.keeps hS'
  refine ⟨v, rfl, A', ρ, ?_, .d _ _ hd, Names.refl _ _⟩
  have hlt : ∀ b' r' k', ρ b' = some r' → lh b' = some k' → r'.g < w.heap.size := fun b' r' k' h1 h2 => by
    obtain ⟨cur, fr, h3, _⟩ := (hS.blk b' r' k' h1 h2).ex
    exact (Array.getElem?_eq_some_iff.1 h3).1
  have hne : ∀ b' r' k', ρ b' = some r' → lh b' = some k' → b' ≠ b → r'.g ≠ r.g := fun b' r' k' h1 h2 h3 h4 =>
    h3 (hS.inj b' r' b r h1 hρ (by rw [h2]; rfl) (by rw [hb]; rfl) h4)
  exact
    { blk := fun b' r' k' h1 h2 => by
        by_cases hbb : b' = b
        · subst hbb
          simp only [upd_same, Option.some.injEq] at h2
          subst h2
          rw [hρ] at h1; cases h1
          exact (hS'.blk 0 r _ hρ' rfl).flat (x := x') rfl rfl
        · simp only [upd_ne _ _ _ _ hbb] at h2
          exact (hS.blk b' r' k' h1 h2).mono kp (fun _ _ h => h) (hS'.frame r'.g (hlt b' r' k' h1 h2) (fun ho => hne b' r' k' h1 h2 hbb (hg1 _ ho)))
      inj := fun b1 r1 b2 r2 h1 h2 s1 s2 hg => by
        refine hS.inj b1 r1 b2 r2 h1 h2 ?_ ?_ hg
        · by_cases hbb : b1 = b
          · subst hbb; rw [hb]; rfl
          · simp only [upd_ne _ _ _ _ hbb] at s1; exact s1
        · by_cases hbb : b2 = b
          · subst hbb; rw [hb]; rfl
          · simp only [upd_ne _ _ _ _ hbb] at s2; exact s2
      own := fun b' r' k' h1 h2 h3 => by
        by_cases hbb : b' = b
        · subst hbb
          rw [hρ] at h1; cases h1
          obtain ⟨q1, q2⟩ := hS'.own 0 r _ hρ' rfl rfl
          exact ⟨q1, q2.imp (hmap _) id⟩
        · simp only [upd_ne _ _ _ _ hbb] at h2
          obtain ⟨q1, q2⟩ := hS.own b' r' k' h1 h2 h3
          refine ⟨fun ha => ?_, q2⟩
          rcases hS'.new _ ha with h | h | h
          · exact q1 h
          · exact hne b' r' k' h1 h2 hbb (hg1 _ h)
          · have h : w.heap.size ≤ r'.g := h
            have := hlt b' r' k' h1 h2
            omega
      dead := fun b' r' k' h1 h2 h3 => by
        by_cases hbb : b' = b
        · subst hbb
          simp only [upd_same, Option.some.injEq] at h2
          subst h2; cases h3
        · simp only [upd_ne _ _ _ _ hbb] at h2
          exact hS'.up _ (hS.dead b' r' k' h1 h2 h3)
      lt := hS'.lt
      up := hS'.up
      new := fun g hg => (hS'.new g hg).imp id (fun h => h.imp (hmap _) id)
      os := hS'.os
      tape := hS'.tape
      output := hS'.output
      hsize := hS'.hsize
      frame := fun g hg hn => hS'.frame g hg (fun ho => hn (hmap _ ho)) }

/-- What the end of such a call says. -/
def PtrK (es ty : Nat) (x' d : DV) (v : AV) (σ : St) : Prop :=
  frz σ.lh 8 v = some d ∧ reach σ.lh 8 v = [] ∧ ∃ e, σ.lh 0 = some ⟨[e], es, ty, true, true⟩ ∧ flatD e = some x'

theorem ptr_of_body (hm : P.follows .mixedOrders = true) {f : FuncId} {code : Code} {rs : Array ResultVar} {n : Nat} (hf : FnIs P f code rs n) {es ty : Nat} {x x' d : DV} {args : List DV} (hn : args.length + 1 ≤ n)
    (h : BodyW (calls P gs) P code rs.toList (PtrK es ty x' d) (fun _ _ => False) ⟨envA (.loc 0 es 0 0 :: args.map .d), oneB ⟨[.d x], es, ty, true, true⟩, 1, []⟩) : PtrCall P gs f es ty x args x' d := by
  refine ⟨hf.enter, fun w A ρ vals hS hG hO hF hr => (body_sound hm hf (by simpa using hn) h hS hG hO hF hr).mono fun e w' hL => ?_⟩
  cases e with
  | returned y =>
    obtain ⟨v, σ, A', ρ', a, ⟨τ, ⟨h1, h1', e, h2, h3⟩, rfl⟩, h4, h5, h6⟩ := hL
    have hn0 : ρ' 0 = ρ 0 := (h6.names hF).2 0 (by omega)
    refine ⟨y, rfl, A', ρ', ?_, frz_sound (fun g h => h) (fun b r k q1 q2 => h5.blk b r k q1 q2) 8 v d y h1 (fun b hb => by have hb : b ∈ reach τ.lh 8 v := hb; rw [h1'] at hb; cases hb) h4, hn0⟩
    have h2 : ({ τ with dfs := [] } : St).lh 0 = some ⟨[e], es, ty, true, true⟩ := h2
    exact
      { blk := fun i q k q1 q2 => by
          obtain ⟨rfl, rfl⟩ := oneB_some q2
          exact (h5.blk 0 q _ q1 h2).flat rfl h3
        inj := fun i q i' q' _ _ q1 q2 _ => by
          obtain ⟨k1, e1⟩ := Option.isSome_iff_exists.1 q1
          obtain ⟨k2, e2⟩ := Option.isSome_iff_exists.1 q2
          rw [(oneB_some e1).1, (oneB_some e2).1]
        own := fun i q k q1 q2 _ => by
          obtain ⟨rfl, rfl⟩ := oneB_some q2
          exact h5.own 0 q _ q1 h2 rfl
        dead := fun i q k q1 q2 q3 => by
          obtain ⟨rfl, rfl⟩ := oneB_some q2
          cases q3
        lt := h5.lt
        up := h5.up
        new := h5.new
        os := h5.os
        tape := h5.tape
        output := h5.output
        hsize := h5.hsize
        frame := h5.frame }
  | panicked ch => obtain ⟨d, x, σ, A', ρ', a, _, ⟨τ, hf, _⟩, _⟩ := hL; exact hf.elim
  | outgrown => exact hL.elim
end

/-! ## Trees -/

section
variable {P : Program} {gs : List Nat} {T : Nat → Option TRow} {F : SF} {H : SH} {A : Aim}

def endB (es ty : Nat) (d : DV) : List Nat → Option LB → Tree
  | [], some ⟨[e], es', ty', true, true⟩ => if (Nat.beq es' es && Nat.beq ty' ty) = true then (match flatD e with | some x => .fin (.ret [.d d, .d x] [] 0) | none => .bad) else .bad
  | _, _ => .bad

/-- The end of a call with a pointer: the result and the block. -/
def kEndP (I : SI) (T : Nat → Option TRow) (es ty : Nat) (rs : List ResultVar) (e : Exit) (σ : SS) : Tree :=
  match e with
  | .normal | .ret => resK I T σ rs fun vs => match frz σ.lh.get 8 (tupA vs) with | some d => endB es ty d (reach σ.lh.get 8 (tupA vs)) (σ.lh.get 0) | none => .bad
  | _ => .bad

def aimP (P : Program) (gs : List Nat) (rs : List ResultVar) (es ty : Nat) (x' d : DV) : Aim := {
  Qe e σ := bodyQ (calls P gs) P rs (PtrK es ty x' d) (fun _ _ => False) e σ
  Q vs lh nid := vs = [.d d, .d x']
  Bk _ _ _ := False
  QP d' σ' := LeaveW (calls P gs) P rs (PtrK es ty x' d) (fun _ _ => False) σ'.dfs (some d') σ' }

theorem aimP_q {rs : List ResultVar} {es ty : Nat} {x' d : DV} {vs : List AV} {lh : LM} {nid : Nat} : (aimP P gs rs es ty x' d).Q vs lh nid = (vs = [.d d, .d x']) := rfl

theorem endB_ok {es ty : Nat} {d : DV} {l : List Nat} {o : Option LB} (h : Sat P gs A (endB es ty d l o)) : l = [] ∧ ∃ e x, o = some ⟨[e], es, ty, true, true⟩ ∧ flatD e = some x ∧ A.Q [.d d, .d x] [] 0 := by
  unfold endB at h
  split at h
  · rename_i e es' ty'
    split at h
    · rename_i hc
      rw [Bool.and_eq_true, Nat.beq_eq, Nat.beq_eq] at hc
      obtain ⟨rfl, rfl⟩ := hc
      split at h
      · rename_i x hx; exact ⟨rfl, e, x, rfl, hx, h⟩
      · exact h.elim
    · exact h.elim
  · exact h.elim

theorem endP (hT : TabOk P T) {rs : List ResultVar} {es ty : Nat} {x' d : DV} : EndOk P gs (aimP P gs rs es ty x' d) (kEndP std T es ty rs) := by
  intro Bk e s hs
  have main : Sat P gs { aimP P gs rs es ty x' d with Bk := Bk } (resK std T s rs fun vs => match frz s.lh.get 8 (tupA vs) with | some d => endB es ty d (reach s.lh.get 8 (tupA vs)) (s.lh.get 0) | none => .bad) →
      LeaveW (calls P gs) P rs (PtrK es ty x' d) (fun _ _ => False) s.st.dfs none s.st := by
    intro hs
    obtain ⟨vs, h1, h2⟩ := resK_ok hT hs
    split at h2
    · rename_i d' hz
      obtain ⟨h3, e, x, h4, h5, h6⟩ := endB_ok h2
      have h6 : [AV.d d', AV.d x] = [AV.d d, AV.d x'] := h6
      simp only [List.cons.injEq, AV.d.injEq, and_true] at h6
      obtain ⟨rfl, rfl⟩ := h6
      refine ⟨tupA vs, ?_, hz, h3, e, h4, h5⟩
      simp only [resA, h1, Option.map_some]; rfl
    · exact h2.elim
  cases e with
  | normal => exact main hs
  | ret => exact main hs
  | _ => exact hs.elim

/-- THE CONTRACT OUT OF THE TREE, with a pointer. -/
theorem ptr_of_tree (hm : P.follows .mixedOrders = true) {f : FuncId} {code : Code} {rs : Array ResultVar} {n : Nat} (hf : FnIs P f code rs n) {es ty : Nat} {x x' d : DV} {args : List DV} (hn : args.length + 1 ≤ n) (hl : args.length + 1 < 5461) (hF : SFok P gs F H) (hT : TabOk P T) {lv : Nat → List Nat × List Nat}
    (h : ∀ (I : SI) (F' : SF), I = std → F' = F → Sat P gs (aimP P gs rs.toList es ty x' d) (execT I F' H T lv code (ssOf (.loc 0 es 0 0 :: args.map .d) [(0, some ⟨[.d x], es, ty, true, true⟩)] 1) [] (kEndP I T es ty rs.toList))) : PtrCall P gs f es ty x args x' d := by
  refine ptr_of_body hm hf hn ?_
  have hst : (⟨envA (.loc 0 es 0 0 :: args.map .d), oneB ⟨[.d x], es, ty, true, true⟩, 1, []⟩ : St) = (ssOf (.loc 0 es 0 0 :: args.map .d) [(0, some ⟨[.d x], es, ty, true, true⟩)] 1).st := by
    rw [ssOf_st (by simpa using hl)]
    have : (LM.get [(0, some (⟨[.d x], es, ty, true, true⟩ : LB))]) = oneB ⟨[.d x], es, ty, true, true⟩ := by
      funext b
      simp only [LM.get, oneB]
      by_cases hb : b = 0
      · subst hb; rfl
      · rw [if_neg hb, if_neg (fun h => hb h.symm)]
    rw [this]
  rw [hst]
  exact execT_ok hF hT code _ [] _ (fun e s hs => endP hT (aimP P gs rs.toList es ty x' d).Bk e s hs) (h std F rfl rfl)

/-- A function with a pointer that is known by its results. -/
structure HEnt where
  f : Nat
  es : Nat
  ty : Nat
  ok : DV → List DV → Bool
  res : DV → List DV → DV
  out : DV → List DV → DV

def HEntOk (P : Program) (gs : List Nat) (e : HEnt) : Prop := ∀ x ds, e.ok x ds = true → PtrCall P gs e.f e.es e.ty x ds (e.out x ds) (e.res x ds)

/-- What calls with a pointer do, as names. -/
structure SG where
  ok : FuncId → DV → List DV → Bool
  res : FuncId → DV → List DV → DV
  out : FuncId → DV → List DV → DV

def hOk : List HEnt → Nat → DV → List DV → Bool
  | [], _, _, _ => false
  | e :: r, f, x, ds => if e.f = f then e.ok x ds else hOk r f x ds
def hRes : List HEnt → Nat → DV → List DV → DV
  | [], _, _, _ => .inil
  | e :: r, f, x, ds => if e.f = f then e.res x ds else hRes r f x ds
def hOut : List HEnt → Nat → DV → List DV → DV
  | [], _, _, _ => .inil
  | e :: r, f, x, ds => if e.f = f then e.out x ds else hOut r f x ds
def sgOf (l : List HEnt) : SG := ⟨hOk l, hRes l, hOut l⟩

def hpB (G : SG) (es ty : Nat) (f : FuncId) (lh : LM) (nid b : Nat) : Option LB → Option (List DV) → Option (Bool × RS)
  | some ⟨[e], es2, ty2, true, true⟩, some ds => match flatD e with
    | some x => if (Nat.beq es2 es && Nat.beq ty2 ty) = true then some (G.ok f x ds, ⟨.d (G.res f x ds), lh.set b (some ⟨[.d (G.out f x ds)], es, ty, true, true⟩), nid⟩) else none
    | none => none
  | _, _ => none

def hpT (G : SG) (es ty : Nat) (f : FuncId) (lh : LM) (nid : Nat) : List AV → Option (Bool × RS)
  | .loc b es' 0 0 :: rest => if Nat.beq es' es = true then hpB G es ty f lh nid b (lh.get b) (allD rest) else none
  | _ => none

def shP : List (Nat × Nat × Nat) → SG → SH
  | [], _, _ => none
  | (g, es, ty) :: r, G, f => if Nat.beq f g = true then some (hpT G es ty f) else shP r G f

inductive AllH (P : Program) (gs : List Nat) : List (Nat × Nat × Nat) → List HEnt → Prop where
  | nil : AllH P gs [] []
  | cons {e : HEnt} {s : List (Nat × Nat × Nat)} {l : List HEnt} (h : HEntOk P gs e) (t : AllH P gs s l) : AllH P gs ((e.f, e.es, e.ty) :: s) (e :: l)

theorem allH_look {s : List (Nat × Nat × Nat)} {l : List HEnt} (h : AllH P gs s l) (G : SG) : ∀ f g, shP s G f = some g → ∃ e : HEnt, HEntOk P gs e ∧ e.f = f ∧ g = hpT G e.es e.ty f ∧ ∀ x ds, hOk l f x ds = e.ok x ds ∧ hRes l f x ds = e.res x ds ∧ hOut l f x ds = e.out x ds := by
  induction h with
  | nil => intro f g h; cases h
  | cons h t ih =>
    rename_i e s l
    intro f g hk
    simp only [shP] at hk
    split at hk
    · rename_i hf
      have hf := Nat.eq_of_beq_eq_true hf
      subst hf
      exact ⟨e, h, rfl, (Option.some.inj hk).symm, fun x ds => by simp [hOk, hRes, hOut]⟩
    · rename_i hf
      have hf : ¬ e.f = f := fun hc => hf (by rw [hc]; exact Nat.beq_refl f)
      obtain ⟨e', q1, q2, q3, q4⟩ := ih f g hk
      exact ⟨e', q1, q2, q3, fun x ds => by simp only [hOk, hRes, hOut, if_neg hf]; exact q4 x ds⟩

theorem sfOkH {l : List Ent} {s : List (Nat × Nat × Nat)} {hs : List HEnt} (h : AllOk P gs l) (hh : AllH P gs s hs) : SFok P gs (sfOf l) (shP s (sgOf hs)) :=
  ⟨lookOk_ok h, fun f g lh nid args r hf hg => by
    obtain ⟨e, q1, rfl, rfl, q4⟩ := allH_look hh (sgOf hs) f g hf
    unfold hpT at hg
    split at hg
    · rename_i b es' rest
      split at hg
      · rename_i hes
        have hes := Nat.eq_of_beq_eq_true hes
        subst hes
        unfold hpB at hg
        split at hg
        · rename_i e1 es2 ty2 ds hb hd
          split at hg
          · rename_i x hx
            split at hg
            · rename_i hc
              rw [Bool.and_eq_true, Nat.beq_eq, Nat.beq_eq] at hc
              obtain ⟨rfl, rfl⟩ := hc
              simp only [Option.some.injEq, Prod.mk.injEq] at hg
              obtain ⟨hok, rfl⟩ := hg
              have hok : hOk hs e.f x ds = true := hok
              obtain ⟨a1, a2, a3⟩ := q4 x ds
              rw [a1] at hok
              have hp := q1 x ds hok
              have hm := allD_map hd
              subst hm
              have := hcall_of_ptr hp (nid := nid) hb hx
              have hl : (lh.set b (some ⟨[.d ((sgOf hs).out e.f x ds)], e.es, e.ty, true, true⟩)).get = upd lh.get b (some ⟨[.d (e.out x ds)], e.es, e.ty, true, true⟩) := by
                funext j; rw [LM.get_set]; simp only [sgOf, a3]; rfl
              simp only [hl]
              simp only [sgOf, a2]
              exact this
            · cases hg
          · cases hg
        · cases hg
      · cases hg
    · cases hg⟩
end
#print axioms sfOkH
end Go.Proofs.Am
