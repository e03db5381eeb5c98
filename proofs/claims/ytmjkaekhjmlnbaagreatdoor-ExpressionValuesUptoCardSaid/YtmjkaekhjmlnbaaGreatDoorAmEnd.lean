/- Contracts out of trees; loops. -/
import Derived.Test.YtmjkaekhjmlnbaaGreatDoorAmTree
set_option linter.unusedVariables false
set_option linter.unusedSimpArgs false
namespace Go.Proofs.Am
open Go Go.RowKit

/-- A tree to be evaluated: a name instead of what is shown of it. -/
structure Box (C : Tree → Prop) (t : Tree) : Prop where
  h : C t

theorem boxed {t : Tree} {C0 : Tree → Prop} (h : ∀ (C : Tree → Prop), C = C0 → Box C t) : C0 t := (h _ rfl).h

section
variable {P : Program} {gs : List Nat} {T : Nat → Option TRow} {F : SF} {H : SH} {A : Aim}

theorem sat_ret {vs : List AV} {lh : LM} {nid : Nat} : Sat P gs A (.fin (.ret vs lh nid)) = A.Q vs lh nid := rfl
theorem sat_back {D : Nat} {vs : List AV} {blks : LM} : Sat P gs A (.fin (.back D vs blks)) = A.Bk D vs blks := rfl
theorem sat_ite {b : Bool} {x y : Tree} : Sat P gs A (.ite b x y) = ((b = true → Sat P gs A x) ∧ (b = false → Sat P gs A y)) := rfl
theorem sat_req {b : Bool} {x : Tree} : Sat P gs A (.req b x) = (b = true ∧ Sat P gs A x) := rfl

def hasBack (D : Nat) : List Fm → Bool
  | [] => false
  | .back d _ _ _ :: r => d == D || hasBack D r
  | _ :: r => hasBack D r

theorem WPstk_bk {E : CallE} {Qe : Exit → St → Prop} {Bk Bk' : Nat → List AV → LM → Prop} {QP : DV → St → Prop} {D : Nat} (hb : ∀ d, d ≠ D → Bk d = Bk' d) : ∀ (stk : List Fm), hasBack D stk = false → WPstk E P Qe Bk QP stk = WPstk E P Qe Bk' QP stk
  | [], _ => rfl
  | .seq b :: r, h => by simp only [WPstk, WPstk_bk hb r h]
  | .block id :: r, h => by simp only [WPstk, WPstk_bk hb r h]
  | .scope :: r, h => by simp only [WPstk, WPstk_bk hb r h]
  | .back d ts bs nid :: r, h => by
    simp only [hasBack, Bool.or_eq_false_iff, beq_eq_false_iff_ne] at h
    simp only [WPstk, WPstk_bk hb r h.2, hb d h.1]

/-- The aim within a loop: back at its head with less to go. -/
def Aim.into {ι : Type} (A : Aim) (D : Nat) (V : ι → List AV) (B : ι → LM) (μ : ι → Nat) (i : ι) : Aim :=
  { A with Bk := fun d vs blks => if d = D then ∃ j, μ j < μ i ∧ vs = V j ∧ blks = B j else A.Bk d vs blks }

theorem into_bk {ι : Type} {D : Nat} {V : ι → List AV} {B : ι → LM} {μ : ι → Nat} {i : ι} {vs : List AV} {blks : LM} : (A.into D V B μ i).Bk D vs blks = ∃ j, μ j < μ i ∧ vs = V j ∧ blks = B j := by simp [Aim.into]
theorem into_bk_ne {ι : Type} {D d : Nat} {V : ι → List AV} {B : ι → LM} {μ : ι → Nat} {i : ι} {vs : List AV} {blks : LM} (h : d ≠ D) : (A.into D V B μ i).Bk d vs blks = A.Bk d vs blks := by simp [Aim.into, h]
theorem into_q {ι : Type} {D : Nat} {V : ι → List AV} {B : ι → LM} {μ : ι → Nat} {i : ι} {vs : List AV} {lh : LM} {nid : Nat} : (A.into D V B μ i).Q vs lh nid = A.Q vs lh nid := rfl

/-- The end of a function, as a walk asks for it. -/
def EndOk (P : Program) (gs : List Nat) (A : Aim) (kend : Exit → SS → Tree) : Prop := ∀ (Bk : Nat → List AV → LM → Prop) e s, Sat P gs { A with Bk := Bk } (kend e s) → A.Qe e s.st

/-- A LOOP: a family of states at its head, each of which leads to an earlier one. -/
theorem loop_rule {I : SI} {F' : SF} {kend : SI → Exit → SS → Tree} (hI : I = std) (hF' : F' = F) (hF : SFok P gs F H) (hT : TabOk P T) (hend : EndOk P gs A (kend std)) {lv : Nat → List Nat × List Nat} {c : Code} {ts : List Nat} {vs : List AV} {blks : LM} {nid na : Nat} {stk : List Fm}
    {ι : Type} (D : Nat) (V : ι → List AV) (B : ι → LM) (μ : ι → Nat) (bs : List Nat) (i0 : ι) (hs : hasBack D stk = false) (hna : na = (accS bs).length) (hv : vs = V i0) (hb : blks = B i0)
    (step : ∀ i, Sat P gs (A.into D V B μ i) (execT I F' H T lv c ⟨EM.of ts (V i) .nil, B i, nid + na, 0, true⟩ (.back D ts bs nid :: stk) (resT I F' H T lv (kend I) (.back D ts bs nid :: stk)))) : Sat P gs A (.loop c ts vs blks nid na stk) := by
  subst hv hb hI hF' hna
  have key : ∀ (n : Nat) (i : ι), μ i < n → iterN nid (fun Q' σ' => WP (calls P gs) P c Q' A.QP σ') (WPstk (calls P gs) P A.Qe A.Bk A.QP stk) n (SS.st ⟨EM.of ts (V i) .nil, B i, nid + (accS bs).length, 0, true⟩) := by
    intro n
    induction n with
    | zero => intro i h; omega
    | succ n ih =>
      intro i hi
      have hw := execT_ok hF hT c _ _ _ (resT_ok hF hT (A := A.into D V B μ i) (fun e s h => hend _ e s h) (.back D ts bs nid :: stk)) (step i)
      refine ⟨_, .inl rfl, WP_mono c _ _ _ (fun e σ' hq => ?_) hw⟩
      have hstk : WPstk (calls P gs) P A.Qe (A.into D V B μ i).Bk A.QP stk = WPstk (calls P gs) P A.Qe A.Bk A.QP stk := WPstk_bk (D := D) (fun d hd => by funext vs blks; exact into_bk_ne hd) stk hs
      cases e with
      | normal =>
        obtain ⟨vs, blks, h1, h2⟩ := hq
        rw [into_bk] at h1
        obtain ⟨j, h3, rfl, rfl⟩ := h1
        exact iterN_forg h2 (ih j (by omega))
      | _ =>
        have hq : WPstk (calls P gs) P A.Qe (A.into D V B μ i).Bk A.QP stk _ σ' := hq
        rw [hstk] at hq
        exact hq
  exact ⟨μ i0 + 1, key _ i0 (by omega)⟩

/-! ## The end of a function -/

def valT : TM → (AV → Tree) → Tree
  | .val v, k => k v
  | .req b m, k => .req b (valT m k)
  | _, _ => .bad

/-- What is handed back. -/
def resK (I : SI) (T : Nat → Option TRow) (σ : SS) : List ResultVar → (List AV → Tree) → Tree
  | [], k => k []
  | .tmp t :: rs, k => resK I T σ rs fun vs => k (σ.env.get t :: vs)
  | .cell a t :: rs, k => match rowTi T t, σ.env.get a with
    | some ti, .loc b _ i fo => (match σ.lh.get b with
      | some q => if i < q.els.length then
          (match rowTi T q.ty with
          | some te => if te.sz = q.es then valT (aloadT I ti q.es te.agg (q.els.getD i .undef) fo) fun v => resK I T σ rs fun vs => k (v :: vs) else .bad
          | none => .bad) else .bad
      | none => .bad)
    | _, _ => .bad

def tupA (vs : List AV) : AV := match vs with | [v] => v | vs => .tup vs

/-- The end, what is handed back as it stands. -/
def kEnd (I : SI) (T : Nat → Option TRow) (rs : List ResultVar) (e : Exit) (σ : SS) : Tree :=
  match e with
  | .normal | .ret => resK I T σ rs fun vs => .fin (.ret vs σ.lh σ.nid)
  | _ => .bad

/-- The end, what is handed back as data. -/
def kEndF (I : SI) (T : Nat → Option TRow) (rs : List ResultVar) (e : Exit) (σ : SS) : Tree :=
  match e with
  | .normal | .ret => resK I T σ rs fun vs => match frz σ.lh.get 8 (tupA vs) with | some d => .fin (.ret [.d d] [] 0) | none => .bad
  | _ => .bad

theorem valT_ok {m : TM} {o : Option AV} {k : AV → Tree} {nid : Nat} {B : BM} (hB : ∀ v, B = just nid v → o = some v) (hm : m.le nid B) (h : Sat P gs A (valT m k)) : ∃ v, o = some v ∧ Sat P gs A (k v) := by
  induction m with
  | val v => exact ⟨v, hB v hm, h⟩
  | req b m ih => exact ih (hm h.1) h.2
  | _ => exact h.elim

theorem resK_ok (hT : TabOk P T) {σ : SS} : ∀ {rs : List ResultVar} {k : List AV → Tree}, Sat P gs A (resK std T σ rs k) → ∃ vs, rs.mapM (res1 P σ.st) = some vs ∧ Sat P gs A (k vs)
  | [], k, h => ⟨[], rfl, h⟩
  | .tmp t :: rs, k, h => by
    obtain ⟨vs, h1, h2⟩ := resK_ok hT (rs := rs) h
    exact ⟨_, by simp only [List.mapM_cons, h1]; rfl, h2⟩
  | .cell a t :: rs, k, h => by
    simp only [resK] at h
    split at h
    · rename_i ti b es i fo hti ha
      split at h
      · rename_i q hq
        split at h
        · rename_i hi
          split at h
          · split at h
            · have := valT_ok (o := aload ti (q.els.getD i .undef) fo) (nid := 0) (B := match aload ti (q.els.getD i .undef) fo with | some v => just 0 v | none => .fail)
                (fun v hv => by
                  cases ho : aload ti (q.els.getD i .undef) fo with
                  | none => rw [ho] at hv; cases hv
                  | some u => rw [ho] at hv; simp only [just, BM.pure.injEq, OpR.mk.injEq] at hv; rw [hv.1])
                (aloadT_ok (fun v hv => by rw [hv]) rfl) h
              obtain ⟨v, hv, h⟩ := this
              obtain ⟨vs, h1, h2⟩ := resK_ok hT (rs := rs) h
              refine ⟨_, ?_, h2⟩
              have hr : res1 P σ.st (.cell a t) = some v := by
                have ha' : σ.st.env a = .loc b es i fo := ha
                have hq' : σ.st.lh b = some q := hq
                simp only [res1, rowTi_ok hT hti, Option.bind_some, ha', hq', if_pos hi]
                exact hv
              simp only [List.mapM_cons, h1, hr]; rfl
            · exact h.elim
          · exact h.elim
        · exact h.elim
      · exact h.elim
    · exact h.elim

/-- The slots when a call begins. -/
def argsE : Nat → List AV → EM → EM
  | _, [], E => E
  | i, v :: vs, E => argsE (i + 1) vs (EM.put 7 E i v)

theorem argsE_get : ∀ (vs : List AV) (i : Nat) (E : EM) (t : Nat), i + vs.length < 5461 → (argsE i vs E).get t = if i ≤ t ∧ t < i + vs.length then vs.getD (t - i) .undef else E.get t
  | [], i, E, t, h => by simp only [argsE, List.length_nil]; rw [if_neg (by omega)]
  | v :: vs, i, E, t, h => by
    simp only [List.length_cons] at h
    simp only [argsE]
    rw [argsE_get vs (i + 1) _ t (by omega), EM.get_put v 7 E i t (by simp [capE]; omega)]
    simp only [List.length_cons]
    by_cases h1 : t = i
    · subst h1
      rw [if_neg (by omega), if_pos rfl, if_pos (by omega)]; simp
    · rw [if_neg h1]
      by_cases h2 : i + 1 ≤ t ∧ t < i + 1 + vs.length
      · rw [if_pos h2, if_pos (by omega)]
        have : t - i = t - (i + 1) + 1 := by omega
        rw [this]; rfl
      · rw [if_neg h2, if_neg (by omega)]

def ssOf (args : List AV) (lh : LM) (nid : Nat) : SS := ⟨argsE 0 args .nil, lh, nid, 0, true⟩

theorem ssOf_st {args : List AV} {lh : LM} {nid : Nat} (h : args.length < 5461) : (ssOf args lh nid).st = ⟨envA args, lh.get, nid, []⟩ := by
  have : (argsE 0 args .nil).get = envA args := by
    funext t
    rw [argsE_get args 0 .nil t (by omega)]
    unfold envA
    by_cases ht : t < args.length
    · rw [if_pos (by omega)]; rfl
    · rw [if_neg (by omega)]; simp [List.getD, List.getElem?_eq_none (Nat.le_of_not_lt ht), EM.get]
  simp only [SS.st, ssOf, this]


def aimF (P : Program) (gs : List Nat) (rs : List ResultVar) (d : DV) : Aim := {
  Qe e σ := bodyQ (calls P gs) P rs (fun v σ => RetOk σ v (dRet d)) (fun _ _ => False) e σ
  Q vs lh nid := vs = [.d d]
  Bk _ _ _ := False
  QP d' σ' := LeaveW (calls P gs) P rs (fun v σ => RetOk σ v (dRet d)) (fun _ _ => False) σ'.dfs (some d') σ' }

def aimR (P : Program) (gs : List Nat) (rs : List ResultVar) (d : DV) : Aim :=
  { aimF P gs rs d with Q := fun vs lh nid => frz lh.get 8 (tupA vs) = some d }

theorem aimF_q {rs : List ResultVar} {d : DV} {vs : List AV} {lh : LM} {nid : Nat} : (aimF P gs rs d).Q vs lh nid = (vs = [.d d]) := rfl
theorem aimR_q {rs : List ResultVar} {d : DV} {vs : List AV} {lh : LM} {nid : Nat} : (aimR P gs rs d).Q vs lh nid = (frz lh.get 8 (tupA vs) = some d) := rfl

theorem endF (hT : TabOk P T) {rs : List ResultVar} {d : DV} : EndOk P gs (aimF P gs rs d) (kEndF std T rs) := by
  intro Bk e s hs
  have main : Sat P gs { aimF P gs rs d with Bk := Bk } (resK std T s rs fun vs => match frz s.lh.get 8 (tupA vs) with | some d => .fin (.ret [.d d] [] 0) | none => .bad) → LeaveW (calls P gs) P rs (fun v σ => RetOk σ v (dRet d)) (fun _ _ => False) s.st.dfs none s.st := by
    intro hs
    obtain ⟨vs, h1, h2⟩ := resK_ok hT hs
    split at h2
    · rename_i d' hz
      have h2 : [AV.d d'] = [AV.d d] := h2
      simp only [List.cons.injEq, AV.d.injEq, and_true] at h2
      subst h2
      refine ⟨tupA vs, ?_, .imm _ _ hz⟩
      simp only [resA, h1, Option.map_some]; rfl
    · exact h2.elim
  cases e with
  | normal => exact main hs
  | ret => exact main hs
  | _ => exact hs.elim

theorem endR (hT : TabOk P T) {rs : List ResultVar} {d : DV} : EndOk P gs (aimR P gs rs d) (kEnd std T rs) := by
  intro Bk e s hs
  have main : Sat P gs { aimR P gs rs d with Bk := Bk } (resK std T s rs fun vs => .fin (.ret vs s.lh s.nid)) → LeaveW (calls P gs) P rs (fun v σ => RetOk σ v (dRet d)) (fun _ _ => False) s.st.dfs none s.st := by
    intro hs
    obtain ⟨vs, h1, h2⟩ := resK_ok hT hs
    refine ⟨tupA vs, ?_, .imm _ _ h2⟩
    simp only [resA, h1, Option.map_some]; rfl
  cases e with
  | normal => exact main hs
  | ret => exact main hs
  | _ => exact hs.elim

/-- THE CONTRACT OUT OF THE TREE: data. -/
theorem pure_of_tree (hm : P.follows .mixedOrders = true) {f : FuncId} {code : Code} {rs : Array ResultVar} {n : Nat} (hf : FnIs P f code rs n) {args : List DV} (hn : args.length ≤ n) (hl : args.length < 5461) (hF : SFok P gs F H) (hT : TabOk P T) {lv : Nat → List Nat × List Nat} {d : DV}
    (h : ∀ (I : SI) (F' : SF), I = std → F' = F → Sat P gs (aimF P gs rs.toList d) (execT I F' H T lv code (ssOf (args.map .d) [] 0) [] (kEndF I T rs.toList))) : PureCall P gs f args (dRet d) := by
  refine pure_of_body hm hf hn ?_
  have hst : st0 args = (ssOf (args.map .d) [] 0).st := by rw [ssOf_st (by simpa using hl)]; rfl
  rw [hst]
  exact execT_ok hF hT code _ [] _ (fun e s hs => endF hT (aimF P gs rs.toList d).Bk e s hs) (h std F rfl rfl)

/-- The same, what is handed back being frozen outside of the tree. -/
theorem pure_of_treeR (hm : P.follows .mixedOrders = true) {f : FuncId} {code : Code} {rs : Array ResultVar} {n : Nat} (hf : FnIs P f code rs n) {args : List DV} (hn : args.length ≤ n) (hl : args.length < 5461) (hF : SFok P gs F H) (hT : TabOk P T) {lv : Nat → List Nat × List Nat} {d : DV}
    (h : ∀ (I : SI) (F' : SF), I = std → F' = F → Sat P gs (aimR P gs rs.toList d) (execT I F' H T lv code (ssOf (args.map .d) [] 0) [] (kEnd I T rs.toList))) : PureCall P gs f args (dRet d) := by
  refine pure_of_body hm hf hn ?_
  have hst : st0 args = (ssOf (args.map .d) [] 0).st := by rw [ssOf_st (by simpa using hl)]; rfl
  rw [hst]
  exact execT_ok hF hT code _ [] _ (fun e s hs => endR hT (aimR P gs rs.toList d).Bk e s hs) (h std F rfl rfl)
end
#print axioms pure_of_tree
end Go.Proofs.Am
