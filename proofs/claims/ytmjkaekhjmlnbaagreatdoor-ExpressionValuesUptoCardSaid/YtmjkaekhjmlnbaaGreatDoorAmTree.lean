/- Code walked over data as it stands: what a tree says holds of the walk. -/
import Derived.Test.YtmjkaekhjmlnbaaGreatDoorAmTree0
set_option linter.unusedVariables false
set_option linter.unusedSimpArgs false
namespace Go.Proofs.Am
open Go Go.RowKit

section
variable {P : Program} {gs : List Nat} {T : Nat → Option TRow} {F : SF} {H : SH} {A : Aim}

theorem allD_map : ∀ {l : List AV} {ds : List DV}, allD l = some ds → l = ds.map .d
  | [], ds, h => by simp [allD] at h; subst h; rfl
  | .d v :: r, ds, h => by
    simp only [allD, Option.map_eq_some_iff] at h
    obtain ⟨d', h1, rfl⟩ := h
    rw [allD_map h1]; rfl
  | .loc .. :: _, _, h | .slc .. :: _, _, h | .agg _ :: _, _, h | .tup _ :: _, _, h | .fn .. :: _, _, h | .iface .. :: _, _, h | .zc :: _, _, h | .undef :: _, _, h => by simp [allD] at h

theorem frz_map_d (lh : Nat → Option LB) (n : Nat) : ∀ (ds : List DV), (ds.map AV.d).mapM (frz lh n) = some ds
  | [] => rfl
  | d :: r => by simp [List.mapM_cons, frz_d, frz_map_d lh n r]

theorem isD_map : ∀ (ds : List DV), (ds.map AV.d).all isD = true
  | [] => rfl
  | d :: r => by simp [isD]

theorem op_dRet (d : DV) (nid : Nat) : (dRet d).op nid = ⟨.d d, [], nid⟩ := by simp [dRet, Ret.op, AV.sh]

theorem call_ok (hF : SFok P gs F H) {lh : Nat → Option LB} {nid : Nat} {f : FuncId} {args : List AV} {ds : List DV} (hz : args.mapM (frz lh 8) = some ds) (hok : F.ok f ds = true) :
    (calls P gs).ok lh nid f args (args.flatMap (reach lh 8)) (if args.all isD then ⟨.d (F.res f ds), [], nid⟩ else ⟨.d (F.res f ds), deaden lh (args.flatMap (reach lh 8)), nid⟩) := by
  refine ⟨ds, dRet (F.res f ds), hz, hF.pure f ds hok, rfl, ?_⟩
  cases h : args.all isD with
  | true => left; rw [op_dRet]; exact ⟨.inl rfl, rfl⟩
  | false => right; rw [op_dRet]; simp

theorem wpB_mono {E : CallE} {tx : Bool} {K K' : Res → Prop} {KP KP' : DV → Res → Prop} (hk : ∀ r, K r → K' r) (hp : ∀ d r, KP d r → KP' d r) : ∀ (m : BM) (lh : Nat → Option LB), wpB E tx m lh K KP → wpB E tx m lh K' KP'
  | .pure a, _, h => hk _ h
  | .get b k, lh, h => by
    simp only [wpB] at h ⊢
    cases hb : lh b with
    | none => simp [hb] at h
    | some x => simp only [hb] at h ⊢; exact wpB_mono hk hp (k x) lh h
  | .call nid g args, lh, h => by
    rcases h with ⟨r, rs, h1, h2⟩ | ⟨h0, r, h1, h2⟩ | ⟨h0, d, r, h1, h2⟩ | ⟨d, rs, h1, h2⟩
    · exact .inl ⟨r, rs, h1, hk _ h2⟩
    · exact .inr (.inl ⟨h0, r, h1, hk _ h2⟩)
    · exact .inr (.inr (.inl ⟨h0, d, r, h1, hp _ _ h2⟩))
    · exact .inr (.inr (.inr ⟨d, rs, h1, hp _ _ h2⟩))
  | .pan _ _, _, h => hp _ _ h
  | .fail, _, h => h

/-- A tree behind an operation. -/
def RS.res (r : RS) : Res := ⟨r.v, r.lh.get, r.nid⟩

theorem tmT_ok (hF : SFok P gs F H) {nid : Nat} {KP : DV → Res → Prop} : ∀ (m : TM) (B : BM) (lh : LM) (k : RS → Tree), m.le nid B → Sat P gs A (tmT F H m lh nid k) → wpB (calls P gs) true B lh.get (fun r => ∃ s : RS, s.res = r ∧ Sat P gs A (k s)) KP
  | .val v, B, lh, k, h, hs => by cases h; exact ⟨_, rfl, hs⟩
  | .pure r, B, lh, k, h, hs => by cases h; exact ⟨_, by simp only [RS.res, LM.get_app]; rfl, hs⟩
  | .get b f, B, lh, k, h, hs => by
    obtain ⟨k', rfl, h⟩ := h
    simp only [tmT] at hs
    simp only [wpB]
    cases hb : lh.get b with
    | none => simp [hb, Sat] at hs
    | some x => simp only [hb] at hs; exact tmT_ok hF (f x) _ lh k (h x) hs
  | .call f args, B, lh, k, h, hs => by
    cases h
    simp only [tmT, callT] at hs
    simp only [wpB]
    cases hH : H f with
    | some g =>
      rw [hH] at hs
      simp only at hs
      split at hs
      · rename_i b r hg
        obtain ⟨rfl, hs⟩ := hs
        exact .inr (.inl ⟨trivial, r.res, hF.call f g lh nid args r hH hg, r, rfl, hs⟩)
      · exact hs.elim
    | none =>
      rw [hH] at hs
      simp only at hs
      split at hs
      · rename_i ds hz
        obtain ⟨hok, hs⟩ := hs
        refine .inl ⟨_, _, call_ok hF hz hok, ?_⟩
        split at hs
        · rename_i hd; rw [if_pos hd]; exact ⟨_, rfl, hs⟩
        · rename_i hd; rw [if_neg hd]; exact ⟨_, by simp only [RS.res, LM.get_app]; rfl, hs⟩
      · exact hs.elim
  | .req b m, B, lh, k, h, hs => by obtain ⟨hb, hs⟩ := hs; exact tmT_ok hF m B lh k (h hb) hs
  | .ite b x y, B, lh, k, h, hs => by
    cases b with
    | true => exact tmT_ok hF x B lh k (h.1 rfl) (hs.1 rfl)
    | false => exact tmT_ok hF y B lh k (h.2 rfl) (hs.2 rfl)
  | .pan _, _, _, _, _, hs => hs.elim
  | .fail, _, _, _, _, hs => hs.elim

theorem simpleT_ok (hF : SFok P gs F H) {nid : Nat} {KP : DV → Res → Prop} {K : Res → Prop} : ∀ (m : TM) (B : BM) (lh : LM) (b : Bool) (x : AV), m.le nid B → simpleT std F H m lh = some (b, x) → b = true → K ⟨x, lh.get, nid⟩ → wpB (calls P gs) true B lh.get K KP
  | .val v, B, lh, b, x, h, hs, hb, hK => by
    cases h
    simp only [simpleT, Option.some.injEq, Prod.mk.injEq] at hs; rw [hs.2]; exact hK
  | .get b' f, B, lh, b, x, h, hs, hb, hK => by
    obtain ⟨k', rfl, h⟩ := h
    simp only [simpleT] at hs
    simp only [wpB]
    cases hl : lh.get b' with
    | none => simp [hl] at hs
    | some y => simp only [hl] at hs; exact simpleT_ok hF (f y) _ lh b x (h y) hs hb hK
  | .call f args, B, lh, b, x, h, hs, hb, hK => by
    cases h
    simp only [simpleT] at hs
    split at hs
    · cases hs
    · split at hs
      · rename_i ds hd
        simp only [Option.some.injEq, Prod.mk.injEq] at hs
        obtain ⟨h1, rfl⟩ := hs
        have hm := allD_map hd
        subst hm
        have := call_ok (nid := nid) hF (frz_map_d lh.get 8 ds) (h1.trans hb)
        rw [isD_map, if_pos rfl] at this
        exact .inl ⟨_, _, this, hK⟩
      · cases hs
  | .req c m, B, lh, b, x, h, hs, hb, hK => by
    simp only [simpleT] at hs
    split at hs
    · rename_i c' x' hm
      simp only [Option.some.injEq, Prod.mk.injEq] at hs
      obtain ⟨h1, rfl⟩ := hs
      rw [hb, std_and, Bool.and_eq_true] at h1
      exact simpleT_ok hF m B lh c' x' (h h1.1) hm h1.2 hK
    · cases hs
  | .pure _, _, _, _, _, _, hs, _, _ => by simp [simpleT] at hs
  | .ite _ _ _, _, _, _, _, _, hs, _, _ => by simp [simpleT] at hs
  | .pan _, _, _, _, _, _, hs, _, _ => by simp [simpleT] at hs
  | .fail, _, _, _, _, _, hs, _, _ => by simp [simpleT] at hs

theorem evE_int (E : EM) (k : IntKind) (n : Int) : evE E (.const (.int k n)) = .d (.int k n) := rfl
theorem evG_int (G : EM) (j : Nat) (w : Bool) (E : EM) (k : IntKind) (n : Int) : evG G j w E (.const (.int k n)) = .d (.int k n) := rfl

/-- What a guard says. -/
theorem grd_ok {ops : Array Oper} {env : Nat → AV} {o : Oper} {j d : Nat} {want : Bool} {y : DV} (ho : o.guard = some (j, want)) (hd : (ops[j]?).bind (·.dst) = some d) (hy : env d = .d y) (hb : isBUD y = true) :
    guardA ops env o = some (std.grd y want) := by
  unfold guardA
  rw [ho]
  simp only [hd, hy]
  cases y with
  | bool b => rfl
  | tup l => cases l <;> first | rfl | simp [isBUD] at hb
  | _ => simp [isBUD] at hb

theorem putS_ok {E : EM} {dst : Option Tmp} {v : AV} {k : EM → Tree} (h : Sat P gs A (putS E dst v k)) : ∃ E', Sat P gs A (k E') ∧ E'.get = putE E.get dst v ∧ ∀ t, dst ≠ some t → E'.get t = E.get t := by
  cases dst with
  | none => exact ⟨E, h, rfl, fun _ _ => rfl⟩
  | some d =>
    simp only [putS] at h
    split at h
    · rename_i hd
      have := EM.get_put v 7 E d
      refine ⟨_, h, ?_, fun t ht => ?_⟩
      · funext j; rw [this j (by simpa [capE] using hd)]; rfl
      · rw [this t (by simpa [capE] using hd), if_neg]
        rintro rfl; exact ht rfl
    · exact h.elim

/-- What is known under guards. -/
def GEok (ops : Array Oper) (E : EM) (g : GS) : Prop := ∀ t j w x, lookG g.G j w t = some x → t ≤ g.hi ∧ ∃ d y, (ops[j]?).bind (·.dst) = some d ∧ d ≤ g.hi ∧ E.get d = .d y ∧ E.get t = if std.grd y w then x else .d (.tup [])

theorem findG_ok : ∀ {L : List (Nat × Bool × AV × Bool)} {j : Nat} {w : Bool} {x : AV}, findG (L.map gE) j w = some x → ∃ b, (j, w, x, b) ∈ L
  | [], j, w, x, h => by simp [findG] at h
  | (j', w', x', b') :: r, j, w, x, h => by
    simp only [List.map_cons, gE, findG] at h
    split at h
    · rename_i h1
      split at h
      · rename_i h2
        cases h; subst h1
        have : w' = w := by cases w <;> cases w' <;> simp_all
        subst this
        exact ⟨b', by simp⟩
      · obtain ⟨b, hb⟩ := findG_ok (L := r) h; exact ⟨b, by simp [hb]⟩
    · obtain ⟨b, hb⟩ := findG_ok (L := r) h; exact ⟨b, by simp [hb]⟩

theorem evG_ok {ops : Array Oper} {E : EM} {g : GS} (hg : GEok ops E g) {j d : Nat} {w : Bool} {y : DV} (hd : (ops[j]?).bind (·.dst) = some d) (hy : E.get d = .d y) (hw : std.grd y w = true) : evG g.G j w E = evE E := by
  funext o
  cases o with
  | tmp t =>
    simp only [evG]
    split
    · rename_i x hx
      obtain ⟨_, d', y', h2, _, h3, h4⟩ := hg t j w x hx
      rw [hd] at h2
      cases h2
      rw [hy] at h3
      cases h3
      rw [hw, if_pos rfl] at h4
      exact h4.symm
    · rfl
  | _ => rfl

theorem GEok_nil {ops : Array Oper} {E : EM} {hi : Nat} : GEok ops E ⟨.nil, hi⟩ := fun t j w x h => by simp [lookG, EM.get] at h

theorem wr_ok {ops : Array Oper} {E E' : EM} {g : GS} (hg : GEok ops E g) {dst : Option Tmp} (hE : ∀ t, dst ≠ some t → E'.get t = E.get t) : GEok ops E' (g.wr dst) := by
  cases dst with
  | none =>
    intro t j w x h
    obtain ⟨h0, d, y, h1, h1', h2, h3⟩ := hg t j w x h
    exact ⟨h0, d, y, h1, h1', by rw [hE _ (by simp)]; exact h2, by rw [hE _ (by simp)]; exact h3⟩
  | some u =>
    simp only [GS.wr]
    split
    · rename_i hu
      intro t j w x h
      obtain ⟨h0, d, y, h1, h1', h2, h3⟩ := hg t j w x h
      refine ⟨Nat.le_trans h0 (Nat.le_of_lt hu), d, y, h1, Nat.le_trans h1' (Nat.le_of_lt hu), ?_, ?_⟩
      · rw [hE d (fun hc => absurd (Option.some.inj hc) (Nat.ne_of_gt (Nat.lt_of_le_of_lt h1' hu)))]; exact h2
      · rw [hE t (fun hc => absurd (Option.some.inj hc) (Nat.ne_of_gt (Nat.lt_of_le_of_lt h0 hu)))]; exact h3
    · exact GEok_nil

theorem imp_std (a b : Bool) : std.imp a b = (!a || b) := rfl
theorem selV_std (g : Bool) (x : AV) : selV std g x = if g then x else .d (.tup []) := by cases x <;> cases g <;> rfl

theorem levT_ok {ops : Array Oper} {E : EM} {g : GS} (hg : GEok ops E g) : ∀ (n j : Nat) (w : Bool) (x : AV) (b : Bool) (d : Nat) (y : DV), (ops[j]?).bind (·.dst) = some d → E.get d = .d y →
    ∀ p ∈ levT std ops g.G n j w x b, ∃ d2 y2, (ops[p.1]?).bind (·.dst) = some d2 ∧ (d ≤ g.hi → d2 ≤ g.hi) ∧ E.get d2 = .d y2 ∧ (if std.grd y2 p.2.1 then p.2.2.1 else .d (.tup [])) = (if std.grd y w then x else AV.d (.tup [])) ∧ std.imp (std.grd y2 p.2.1) p.2.2.2 = std.imp (std.grd y w) b
  | 0, j, w, x, b, d, y, hd, hy, p, hp => by
    simp only [levT, List.mem_singleton] at hp
    subst hp
    exact ⟨d, y, hd, id, hy, rfl, rfl⟩
  | n + 1, j, w, x, b, d, y, hd, hy, p, hp => by
    simp only [levT] at hp
    rcases List.mem_cons.1 hp with rfl | hp
    · exact ⟨d, y, hd, id, hy, rfl, rfl⟩
    · split at hp
      · cases hp
      · rename_i j' w' hg'
        rw [hd] at hp
        simp only at hp
        split at hp
        · rename_i xj hl
          obtain ⟨_, d', y', h1, h2, h3, h4⟩ := hg d j' w' _ hl
          obtain ⟨d2, y2, q1, q2, q3, q4, q5⟩ := levT_ok hg n j' w' _ _ d' y' h1 h3 p hp
          refine ⟨d2, y2, q1, fun _ => q2 h2, q3, q4.trans ?_, q5.trans ?_⟩
          · rw [selV_std]
            rw [hy] at h4
            cases hc : std.grd y' w' with
            | true => rw [hc, if_pos rfl] at h4; cases h4; rw [if_pos rfl]
            | false =>
              rw [hc] at h4
              have h4 : AV.d y = .d (.tup []) := h4
              cases h4
              rfl
          · rw [hy] at h4
            cases hc : std.grd y' w' with
            | true => rw [hc, if_pos rfl] at h4; cases h4; simp [imp_std]
            | false =>
              rw [hc] at h4
              have h4 : AV.d y = .d (.tup []) := h4
              cases h4
              rfl
        · cases hp

theorem lastT_mem : ∀ (L : List (Nat × Bool × AV × Bool)) (p : Nat × Bool × AV × Bool), L ≠ [] → lastT L p ∈ L
  | [], _, h => absurd rfl h
  | [q], _, _ => by simp [lastT]
  | q :: r :: l, p, _ => by
    have := lastT_mem (r :: l) q (by simp)
    simp only [lastT] at this ⊢
    exact List.mem_cons_of_mem _ this

theorem levT_ne (I : SI) (ops : Array Oper) (G : EM) (n j : Nat) (w : Bool) (x : AV) (b : Bool) : levT I ops G n j w x b ≠ [] := by
  cases n <;> simp [levT]

theorem add_ok {ops : Array Oper} {E E' : EM} {g : GS} (hg : GEok ops E g) {dst : Option Tmp} (hE : ∀ t, dst ≠ some t → E'.get t = E.get t) {d j : Nat} {w : Bool} {x : AV} {b : Bool} {y : DV} (hd : (ops[j]?).bind (·.dst) = some d) (hy : E.get d = .d y)
    (hE2 : E'.get = putE E.get dst (if std.grd y w then x else .d (.tup []))) {n : Nat} : GEok ops E' (g.add dst d (levT std ops g.G n j w x b)) := by
  cases dst with
  | none => exact wr_ok (dst := none) hg hE
  | some u =>
    simp only [GS.add]
    split
    · rename_i hu
      split
      · rename_i hdh
        split
        · rename_i h5
          intro t j' w' x' h
          simp only at h ⊢
          unfold lookG at h
          rw [EM.get_put _ 7 g.G u t (by simpa [capE] using h5)] at h
          by_cases htu : t = u
          · subst htu
            rw [if_pos rfl] at h
            obtain ⟨b', hb'⟩ := findG_ok h
            obtain ⟨d2, y2, q1, q2, q3, q4, q5⟩ := levT_ok hg n j w x b d y hd hy _ hb'
            refine ⟨Nat.le_refl _, d2, y2, q1, Nat.le_trans (q2 hdh) (Nat.le_of_lt hu), ?_, ?_⟩
            · rw [hE d2 (fun hc => absurd (Option.some.inj hc) (Nat.ne_of_gt (Nat.lt_of_le_of_lt (q2 hdh) hu)))]; exact q3
            · rw [hE2]; simp only [putE, upd_same]; exact q4.symm
          · rw [if_neg htu] at h
            obtain ⟨h0, d', y', h1, h1', h2, h3⟩ := hg t j' w' x' h
            refine ⟨Nat.le_trans h0 (Nat.le_of_lt hu), d', y', h1, Nat.le_trans h1' (Nat.le_of_lt hu), ?_, ?_⟩
            · rw [hE d' (fun hc => absurd (Option.some.inj hc) (Nat.ne_of_gt (Nat.lt_of_le_of_lt h1' hu)))]; exact h2
            · rw [hE t (fun hc => absurd (Option.some.inj hc) (Nat.ne_of_gt (Nat.lt_of_le_of_lt h0 hu)))]; exact h3
        · exact GEok_nil
      · exact GEok_nil
    · exact GEok_nil

theorem putE_st (σ : SS) (E' : EM) (dst : Option Tmp) (v : AV) (lh : LM) (nid : Nat) (h : E'.get = putE σ.env.get dst v) {kt : Nat} {kb : Bool} : (⟨putE σ.st.env dst v, lh.get, nid, []⟩ : St) = SS.st ⟨E', lh, nid, kt, kb⟩ := by
  simp only [SS.st, h]

theorem app_st (σ : SS) (dst : Option Tmp) (s : RS) (E' : EM) (h : E'.get = putE σ.env.get dst s.v) {kt : Nat} {kb : Bool} : σ.st.app dst s.res = SS.st ⟨E', s.lh, s.nid, kt, kb⟩ := by
  simp only [St.app, SS.st, RS.res, h]

theorem regTT_ok (hF : SFok P gs F H) (hT : TabOk P T) {ops : Array Oper} {KP : DV → St → Prop} : ∀ (l : List Oper) (σ : SS) (ge : GS) (k : SS → Tree), GEok ops σ.env ge → Sat P gs A (regTT std F H T ops l σ ge k) → wpT (calls P gs) P ops l σ.st (fun σ' => ∃ s : SS, s.st = σ' ∧ Sat P gs A (k s)) KP
  | [], σ, ge, k, hge, h => ⟨σ, rfl, h⟩
  | o :: rest, σ, ge, k, hge, h => by
    simp only [regTT] at h
    simp only [wpT]
    rw [SS.eval_st]
    have main : ∀ (k' : EM → LM → Nat → Tree), (∀ E' lh' nid', (∀ t, o.dst ≠ some t → E'.get t = σ.env.get t) → Sat P gs A (k' E' lh' nid') → wpT (calls P gs) P ops rest (SS.st ⟨E', lh', nid', clr o.dst σ.kt, σ.kb⟩) (fun σ' => ∃ s : SS, s.st = σ' ∧ Sat P gs A (k s)) KP) →
        Sat P gs A (tmT F H (opT std T σ.nid (evE σ.env) o.op) σ.lh σ.nid fun r => putS σ.env o.dst r.v fun E => k' E r.lh r.nid) →
        wpB (calls P gs) true (opB P σ.st.nid (evE σ.env) o.op) σ.st.lh (fun r => wpT (calls P gs) P ops rest (σ.st.app o.dst r) (fun σ' => ∃ s : SS, s.st = σ' ∧ Sat P gs A (k s)) KP) (fun d r => KP d { σ.st with lh := r.lh, nid := r.nid }) := fun k' hk' h => by
      have hop := opT_ok hT σ.nid (evE σ.env) (evE_int σ.env) o.op
      refine wpB_mono (fun r hr => ?_) (fun _ _ h => h) _ _ (tmT_ok hF (KP := fun d r => KP d { σ.st with lh := r.lh, nid := r.nid }) _ _ _ _ hop h)
      obtain ⟨s, rfl, hs⟩ := hr
      obtain ⟨E', h1, h2, h3⟩ := putS_ok hs
      rw [app_st σ o.dst s E' h2]
      exact hk' E' s.lh s.nid h3 h1
    have put0 : ∀ (v : AV) (k' : EM → Tree), (∀ E', (∀ t, o.dst ≠ some t → E'.get t = σ.env.get t) → E'.get = putE σ.env.get o.dst v → Sat P gs A (k' E') → wpT (calls P gs) P ops rest (SS.st ⟨E', σ.lh, σ.nid, clr o.dst σ.kt, σ.kb⟩) (fun σ' => ∃ s : SS, s.st = σ' ∧ Sat P gs A (k s)) KP) →
        Sat P gs A (putS σ.env o.dst v k') → wpT (calls P gs) P ops rest { σ.st with env := putE σ.st.env o.dst v } (fun σ' => ∃ s : SS, s.st = σ' ∧ Sat P gs A (k s)) KP := fun v k' hk' h => by
      obtain ⟨E', h1, h2, h3⟩ := putS_ok h
      have : ({ σ.st with env := putE σ.st.env o.dst v } : St) = SS.st ⟨E', σ.lh, σ.nid, clr o.dst σ.kt, σ.kb⟩ := putE_st σ E' o.dst v σ.lh σ.nid h2
      rw [this]
      exact hk' E' h3 h2 h1
    cases hd : dfrOf (evE σ.env) o.op with
    | some d => rw [hd] at h; exact h.elim
    | none =>
      rw [hd] at h
      simp only at h
      cases hg : o.guard with
      | none =>
        rw [hg] at h
        simp only at h
        have : guardA ops σ.st.env o = some true := by unfold guardA; rw [hg]
        rw [this]
        simp only
        exact main (fun E lh nid => regTT std F H T ops rest ⟨E, lh, nid, clr o.dst σ.kt, σ.kb⟩ (ge.wr o.dst) k) (fun E' lh' nid' hE hs => regTT_ok hF hT rest _ _ k (wr_ok hge hE) hs) h
      | some q =>
        obtain ⟨j, want⟩ := q
        rw [hg] at h
        simp only at h
        split at h
        · rename_i d hjd
          split at h
          · rename_i y hy
            obtain ⟨hb, h⟩ := h
            have hga : guardA ops σ.st.env o = some (std.grd y want) := grd_ok hg hjd hy hb
            rw [hga]
            split at h
            · rename_i b x hs
              generalize hL : lastT (levT std ops ge.G 8 j want x b) (j, want, x, b) = top at h
              obtain ⟨jt, wt, xt, bt⟩ := top
              simp only at h
              split at h
              · rename_i dt hdt
                split at h
                · rename_i yt hyt
                  obtain ⟨hi, h⟩ := h
                  have hmem := lastT_mem _ (j, want, x, b) (levT_ne std ops ge.G 8 j want x b)
                  rw [hL] at hmem
                  obtain ⟨d2, y2, q1, q2, q3, q4, q5⟩ := levT_ok hge 8 j want x b d y hjd hy _ hmem
                  simp only at q1 q4 q5
                  rw [hdt] at q1
                  cases q1
                  rw [hyt] at q3
                  cases q3
                  rw [q5] at hi
                  rw [selV_std, q4] at h
                  cases hw : std.grd y want with
                  | true =>
                    simp only
                    rw [hw] at hi h
                    have hb' : b = true := by simpa [std] using hi
                    rw [evG_ok hge hjd hy hw] at hs
                    have hop := opT_ok hT σ.nid (evE σ.env) (evE_int σ.env) o.op
                    refine simpleT_ok hF _ _ _ b x hop hs hb' ?_
                    exact put0 x _ (fun E' hE hE2 hs => regTT_ok hF hT rest _ _ k (add_ok hge hE hjd hy (by rw [hw]; exact hE2)) hs) h
                  | false =>
                    simp only
                    rw [hw] at h
                    exact put0 (.d (.tup [])) _ (fun E' hE hE2 hs => regTT_ok hF hT rest _ _ k (add_ok hge hE hjd hy (by rw [hw]; exact hE2)) hs) h
                · exact h.elim
              · exact h.elim
            · cases hw : std.grd y want with
              | true =>
                simp only
                rw [hw] at h
                exact main (fun E lh nid => regTT std F H T ops rest ⟨E, lh, nid, clr o.dst σ.kt, σ.kb⟩ (ge.wr o.dst) k) (fun E' lh' nid' hE hs => regTT_ok hF hT rest _ _ k (wr_ok hge hE) hs) (h.1 rfl)
              | false =>
                simp only
                rw [hw] at h
                exact put0 (.d (.tup [])) _ (fun E' hE hE2 hs => regTT_ok hF hT rest _ _ k (wr_ok hge hE) hs) (h.2 rfl)
          · exact h.elim
        · exact h.elim

theorem wpBT_mono {E : CallE} {K K' : OpR → List Nat → Prop} (hk : ∀ r rs, K r rs → K' r rs) : ∀ (m : BM) (lh : Nat → Option LB), wpBT E m lh K → wpBT E m lh K'
  | .pure a, _, h => hk _ _ h
  | .get b k, lh, h => by
    simp only [wpBT] at h ⊢
    cases hb : lh b with
    | none => simp [hb] at h
    | some x => simp only [hb] at h ⊢; exact wpBT_mono (fun r rs => hk r (b :: rs)) (k x) lh h
  | .call nid g args, lh, h => by obtain ⟨r, rs, h1, h2⟩ := h; exact ⟨r, rs, h1, hk _ _ h2⟩
  | .pan _ _, _, h => h
  | .fail, _, h => h

theorem tmD_ok (hF : SFok P gs F H) {nid : Nat} : ∀ (m : TM) (B : BM) (lh : LM) (k : OpR → List Nat → Tree), m.le nid B → Sat P gs A (tmD F H m lh nid k) → wpBT (calls P gs) B lh.get (fun r rs => Sat P gs A (k r rs))
  | .val v, B, lh, k, h, hs => by cases h; exact hs
  | .pure r, B, lh, k, h, hs => by cases h; exact hs
  | .get b f, B, lh, k, h, hs => by
    obtain ⟨k', rfl, h⟩ := h
    simp only [tmD] at hs
    simp only [wpBT]
    cases hb : lh.get b with
    | none => simp [hb, Sat] at hs
    | some x => simp only [hb] at hs; exact tmD_ok hF (f x) _ lh _ (h x) hs
  | .call f args, B, lh, k, h, hs => by
    cases h
    simp only [tmD, callD] at hs
    simp only [wpBT]
    split at hs
    · exact hs.elim
    · split at hs
      · rename_i ds hz
        obtain ⟨hok, hs⟩ := hs
        exact ⟨_, _, call_ok hF hz hok, hs⟩
      · exact hs.elim
  | .req b m, B, lh, k, h, hs => by obtain ⟨hb, hs⟩ := hs; exact tmD_ok hF m B lh k (h hb) hs
  | .ite b x y, B, lh, k, h, hs => by
    cases b with
    | true => exact tmD_ok hF x B lh k (h.1 rfl) (hs.1 rfl)
    | false => exact tmD_ok hF y B lh k (h.2 rfl) (hs.2 rfl)
  | .pan _, _, _, _, _, hs => hs.elim
  | .fail, _, _, _, _, hs => hs.elim

theorem regDT_ok (hF : SFok P gs F H) (hT : TabOk P T) {ops : Array Oper} {n0 : Nat} : ∀ (l : List Oper) (i : Nat) (σ : SS) (k : SS → List TE → Tree), Sat P gs A (regDT std F H T ops n0 l i σ k) → wpD (calls P gs) P ops n0 l i σ.st (fun σ' tr => ∃ s : SS, s.st = σ' ∧ Sat P gs A (k s tr))
  | [], i, σ, k, h => ⟨σ, rfl, h⟩
  | o :: rest, i, σ, k, h => by
    simp only [regDT] at h
    simp only [wpD]
    rw [SS.eval_st]
    have hop := opT_ok hT (n0 + i) (evE σ.env) (evE_int σ.env) o.op
    have step : Sat P gs A (tmD F H (opT std T (n0 + i) (evE σ.env) o.op) σ.lh (n0 + i) fun r rs => if r.nid ≤ n0 + i + 1 then
        putS σ.env o.dst r.v fun E => regDT std F H T ops n0 rest (i + 1) ⟨E, σ.lh.app r.chg, σ.nid, clr o.dst σ.kt, σ.kb⟩ fun σ' tr => k σ' (⟨rs, r.chg.map (·.1)⟩ :: tr) else .bad) →
        wpBT (calls P gs) (opB P (n0 + i) (evE σ.env) o.op) σ.st.lh fun r rs => r.nid ≤ n0 + i + 1 ∧
          wpD (calls P gs) P ops n0 rest (i + 1) { env := putE σ.st.env o.dst r.v, lh := applyChg σ.st.lh r.chg, nid := σ.st.nid, dfs := σ.st.dfs } fun σ' tr => ∃ s : SS, s.st = σ' ∧ Sat P gs A (k s (⟨rs, r.chg.map (·.1)⟩ :: tr)) := fun h => by
      refine wpBT_mono (fun r rs hr => ?_) _ _ (tmD_ok hF _ _ _ _ hop h)
      split at hr
      · rename_i hn
        refine ⟨hn, ?_⟩
        obtain ⟨E', h1, h2, h3⟩ := putS_ok hr
        have : ({ env := putE σ.st.env o.dst r.v, lh := applyChg σ.st.lh r.chg, nid := σ.st.nid, dfs := σ.st.dfs } : St) = SS.st ⟨E', σ.lh.app r.chg, σ.nid, clr o.dst σ.kt, σ.kb⟩ := by
          rw [← putE_st σ E' o.dst r.v (σ.lh.app r.chg) σ.nid h2, LM.get_app]; rfl
        rw [this]
        exact regDT_ok hF hT rest (i + 1) _ _ h1
      · exact hr.elim
    cases hg : o.guard with
    | none =>
      rw [hg] at h
      simp only at h
      have : guardA ops σ.st.env o = some true := by unfold guardA; rw [hg]
      rw [this]
      exact step h
    | some q =>
      obtain ⟨j, want⟩ := q
      rw [hg] at h
      simp only at h
      split at h
      · rename_i d hjd
        split at h
        · rename_i y hy
          obtain ⟨hb, h⟩ := h
          have hga : guardA ops σ.st.env o = some (std.grd y want) := grd_ok hg hjd hy hb
          rw [hga]
          cases hw : std.grd y want with
          | true => exact step (h.1 hw)
          | false =>
            obtain ⟨E', h1, h2, h3⟩ := putS_ok (h.2 hw)
            have : ({ σ.st with env := putE σ.st.env o.dst (.d (.tup [])) } : St) = SS.st ⟨E', σ.lh, σ.nid, clr o.dst σ.kt, σ.kb⟩ := putE_st σ E' o.dst _ σ.lh σ.nid h2
            simp only [this]
            exact regDT_ok hF hT rest (i + 1) _ _ h1
        · exact h.elim
      · exact h.elim

theorem wpT_mono {E : CallE} {ops : Array Oper} {K K' : St → Prop} {KP : DV → St → Prop} (hk : ∀ σ, K σ → K' σ) : ∀ (l : List Oper) (σ : St), wpT E P ops l σ K KP → wpT E P ops l σ K' KP
  | [], σ, h => hk σ h
  | o :: rest, σ, h => by
    simp only [wpT] at h ⊢
    cases hg : guardA ops σ.env o with
    | none => rw [hg] at h; exact h
    | some b =>
      rw [hg] at h
      cases b with
      | false => simp only at h ⊢; exact wpT_mono hk rest _ h
      | true =>
        simp only at h ⊢
        cases hd : dfrOf σ.eval o.op with
        | some d => rw [hd] at h; simp only at h ⊢; exact wpT_mono hk rest _ h
        | none => rw [hd] at h; simp only at h ⊢; exact wpB_mono (fun r hr => wpT_mono hk rest _ hr) (fun _ _ h => h) _ _ h

theorem wpD_mono {E : CallE} {ops : Array Oper} {n0 : Nat} : ∀ (l : List Oper) (i : Nat) (σ : St) (K K' : St → List TE → Prop), (∀ σ tr, K σ tr → K' σ tr) → wpD E P ops n0 l i σ K → wpD E P ops n0 l i σ K'
  | [], i, σ, K, K', hk, h => hk _ _ h
  | o :: rest, i, σ, K, K', hk, h => by
    simp only [wpD] at h ⊢
    cases hg : guardA ops σ.env o with
    | none => rw [hg] at h; exact h
    | some b =>
      rw [hg] at h
      cases b with
      | false => simp only at h ⊢; exact wpD_mono rest _ _ _ _ (fun σ tr => hk σ _) h
      | true => simp only at h ⊢; exact wpBT_mono (fun r rs hr => ⟨hr.1, wpD_mono rest _ _ _ _ (fun σ tr => hk σ _) hr.2⟩) _ _ h

theorem iterN_mono {m : Nat} {body : (Exit → St → Prop) → St → Prop} {Q Q' : Exit → St → Prop} (hb : ∀ (R R' : Exit → St → Prop), (∀ e σ, R e σ → R' e σ) → ∀ σ, body R σ → body R' σ) (hq : ∀ e σ, Q e σ → Q' e σ) : ∀ n σ, iterN m body Q n σ → iterN m body Q' n σ
  | 0, _, h => h
  | n + 1, σ, ⟨σ₀, h1, h2⟩ => ⟨σ₀, h1, hb _ _ (fun e σ h => by
      cases e with
      | normal => exact iterN_mono hb hq n σ h
      | _ => exact hq _ _ h) _ h2⟩

theorem WP_mono {E : CallE} {QP : DV → St → Prop} : ∀ (code : Code) (Q Q' : Exit → St → Prop) (σ : St), (∀ e σ, Q e σ → Q' e σ) → WP E P code Q QP σ → WP E P code Q' QP σ := by
  intro code
  induction code with
  | skip => intro Q Q' σ hq h; exact hq _ _ h
  | label l => intro Q Q' σ hq h; exact hq _ _ h
  | exit id => intro Q Q' σ hq h; exact hq _ _ h
  | ret => intro Q Q' σ hq h; exact hq _ _ h
  | region id ops d =>
    intro Q Q' σ hq h
    cases d with
    | false => exact wpT_mono (fun σ => hq _ σ) _ _ h
    | true =>
      rcases h with h | h
      · exact .inl (wpD_mono _ _ _ _ _ (fun σ tr h => ⟨h.1, hq _ _ h.2⟩) h)
      · exact .inr h
  | seq a b iha ihb =>
    intro Q Q' σ hq h
    refine iha _ _ σ (fun e σ h => ?_) h
    cases e with
    | normal => exact ihb _ _ σ hq h
    | _ => exact hq _ _ h
  | cond c a b iha ihb =>
    intro Q Q' σ hq h
    simp only [WP] at h ⊢
    split at h
    · rename_i hc; exact iha _ _ σ hq h
    · rename_i hc; exact ihb _ _ σ hq h
    · exact h
  | block id c ih =>
    intro Q Q' σ hq h
    refine ih _ _ σ (fun e σ h => ?_) h
    cases e with
    | exit id' =>
      simp only [blockQ] at h ⊢
      split at h
      · rename_i hi; rw [if_pos hi]; exact hq _ _ h
      · rename_i hi; rw [if_neg hi]; exact hq _ _ h
    | _ => exact hq _ _ h
  | loop c ih =>
    intro Q Q' σ hq h
    obtain ⟨n, h⟩ := h
    exact ⟨n, iterN_mono (fun R R' hr σ h => ih R R' σ hr h) hq n σ h⟩
  | scope c ih =>
    intro Q Q' σ hq h
    refine ih _ _ σ (fun e σ h => ?_) h
    cases e with
    | goto l => exact h
    | _ => exact hq _ _ h
  | _ => intro Q Q' σ hq h; exact h

theorem Forg.trans {m : Nat} {σ τ υ : St} (h : Forg m σ τ) (k : Forg m τ υ) : Forg m σ υ := {
  nid := k.nid
  dfs := k.dfs.trans h.dfs
  args := h.args
  ex := by
    obtain ⟨π₁, a1, a2, a3, a4⟩ := h.ex
    obtain ⟨π₂, b1, b2, b3, b4⟩ := k.ex
    have some2 : ∀ b, (υ.lh b).isSome = true → (τ.lh (π₂ b)).isSome = true := fun b hb => by
      rcases b4 b with h1 | ⟨k', h1, h2, _⟩
      · rw [h1] at hb; cases hb
      · rw [h2]; rfl
    refine ⟨fun b => π₁ (π₂ b), fun b hb => (congrArg π₁ (b1 b hb)).trans (a1 b hb), fun b b' hb hb' he => b2 b b' hb hb' (a2 _ _ (some2 b hb) (some2 b' hb') he), fun t => ?_, fun b => ?_⟩
    · rcases b3 t with h1 | ⟨h1, h2⟩
      · exact .inl h1
      · rcases a3 t with h3 | ⟨h3, h4⟩
        · left; rw [h3] at h1; exact ren_undef h1.symm
        · right; exact ⟨by rw [h3, h1, ren_ren], h2⟩
    · rcases b4 b with h1 | ⟨k', h1, h2, h3⟩
      · exact .inl h1
      · right
        rcases a4 (π₂ b) with h4 | ⟨k'', h4, h5, h6⟩
        · rw [h2] at h4; cases h4
        · rw [h2] at h4
          cases h4
          refine ⟨k', h1, ?_, h3⟩
          rw [h5]
          simp only [List.map_map]
          have : (ren π₁ 8 ∘ ren π₂ 8) = ren (fun b => π₁ (π₂ b)) 8 := funext fun v => ren_ren π₁ π₂ 8 v
          rw [this] }

theorem iterN_forg {m : Nat} {body : (Exit → St → Prop) → St → Prop} {R : Exit → St → Prop} {n : Nat} {σ τ : St} (hf : Forg m σ τ) (h : iterN m body R n τ) : iterN m body R n σ := by
  cases n with
  | zero => exact h
  | succ n =>
    obtain ⟨σ₀, h1, h2⟩ := h
    refine ⟨σ₀, .inr ?_, h2⟩
    rcases h1 with rfl | h1
    · exact hf
    · exact hf.trans h1

/-- Only these slots are known. -/
theorem keep_get (σ : SS) : ∀ (ts : List Nat) (E : EM) (t : Nat), (∀ t ∈ ts, t < 5461) → (ts.foldl (fun E t => EM.put 7 E t (σ.env.get t)) E).get t = if t ∈ ts then σ.env.get t else E.get t
  | [], E, t, _ => by simp
  | u :: ts, E, t, h => by
    rw [List.foldl_cons, keep_get σ ts _ t (fun t ht => h t (List.mem_cons_of_mem _ ht)), EM.get_put _ 7 E u t (by simpa [capE] using h u (by simp))]
    by_cases h1 : t ∈ ts
    · simp [h1]
    · by_cases h2 : t = u
      · subst h2; simp
      · simp [h1, h2]

theorem LM.get_map (f : Nat → Option LB) : ∀ (bs : List Nat) (b : Nat), LM.get (bs.map fun b => (b, f b)) b = if b ∈ bs then f b else none
  | [], b => rfl
  | c :: bs, b => by
    simp only [List.map_cons, LM.get, LM.get_map f bs b]
    by_cases h : c = b
    · subst h; simp
    · simp [h, Ne.symm h]

theorem EM.of_map (g : Nat → AV) : ∀ (ts : List Nat) (E : EM), EM.of ts (ts.map g) E = ts.foldl (fun E t => EM.put 7 E t (g t)) E
  | [], E => rfl
  | t :: ts, E => by simp only [List.map_cons, EM.of, List.foldl_cons]; exact EM.of_map g ts _

theorem okB1_ok {m : Nat} {o : Option LB} {r : Bool} (h : okB1 std m o r = true) : r = true ∧ ∀ k, o = some k → ∀ e ∈ k.els, bel m 8 e = true := by
  unfold okB1 at h
  split at h
  · simp only [std_and, Bool.and_eq_true] at h
    exact ⟨h.2, fun k hk e he => by cases hk; exact List.all_eq_true.1 h.1 e he⟩
  · exact ⟨h, fun k hk => by cases hk⟩

theorem okB_ok {nid : Nat} {σ : SS} : ∀ {bs : List Nat}, okB std nid σ bs = true → ∀ b ∈ bs, ∀ k, σ.lh.get b = some k → ∀ e ∈ k.els, bel nid 8 e = true
  | [], _, b, hb, _, _, _, _ => by cases hb
  | c :: r, h, b, hb, k, hk, e, he => by
    obtain ⟨h1, h2⟩ := okB1_ok (r := okB std nid σ r) h
    rcases List.mem_cons.1 hb with rfl | hb
    · exact h2 k hk e he
    · exact okB_ok h1 b hb k hk e he

theorem okBA_ok {nid : Nat} {σ : SS} : ∀ {as : List Nat}, okBA std nid σ as = true → ∀ t ∈ as, ∀ k, (blkA (σ.env.get t)).bind σ.lh.get = some k → ∀ e ∈ k.els, bel nid 8 e = true
  | [], _, b, hb, _, _, _, _ => by cases hb
  | c :: r, h, b, hb, k, hk, e, he => by
    obtain ⟨h1, h2⟩ := okB1_ok (r := okBA std nid σ r) h
    rcases List.mem_cons.1 hb with rfl | hb
    · exact h2 k hk e he
    · exact okBA_ok h1 b hb k hk e he

theorem idxA_some : ∀ {as : List Nat} {t j i : Nat}, idxA as t j = some i → ∃ n, i = j + n ∧ as[n]? = some t
  | [], t, j, i, h => by cases h
  | a :: r, t, j, i, h => by
    simp only [idxA] at h
    split at h
    · rename_i ha; cases h; subst ha; exact ⟨0, rfl, rfl⟩
    · obtain ⟨n, h1, h2⟩ := idxA_some h; exact ⟨n + 1, by omega, h2⟩

/-- The old name of a block that is named anew. -/
def oldN (E : EM) (m : Nat) (as : List Nat) (x : Nat) : Nat := if x < m then x else match (as[x - m]?).bind fun t => blkA (E.get t) with | some b => b | none => x

theorem headB_get (E : EM) (lh : LM) (m : Nat) : ∀ (as : List Nat) (j b : Nat), (headB E lh m as j).get b = if m + j ≤ b then (as[b - (m + j)]?).bind (fun t => (blkA (E.get t)).bind lh.get) else none
  | [], j, b => by simp [headB, LM.get]
  | t :: r, j, b => by
    simp only [headB, LM.get]
    by_cases h : m + j = b
    · subst h; simp
    · rw [if_neg h, headB_get E lh m r (j + 1) b]
      by_cases h2 : m + j ≤ b
      · rw [if_pos (by omega), if_pos h2]
        have : b - (m + j) = (b - (m + (j + 1))) + 1 := by omega
        rw [this, List.getElem?_cons_succ]
      · rw [if_neg (by omega), if_neg h2]

theorem LM.get_append : ∀ (l r : LM) (b : Nat), (l ++ r).get b = if b ∈ l.map (·.1) then l.get b else r.get b
  | [], r, b => by simp
  | (k, x) :: l, r, b => by
    rw [List.cons_append]
    simp only [LM.get, LM.get_append l r b, List.map_cons, List.mem_cons]
    by_cases h : k = b
    · simp [h]
    · have h' : ¬ b = k := fun e => h e.symm
      rw [if_neg h]
      by_cases hb : b ∈ l.map (·.1)
      · rw [if_pos hb, if_pos (.inr hb), if_neg h]
      · rw [if_neg hb, if_neg (fun hc => hc.elim h' hb)]

theorem distB_ok {E : EM} {bs : List Nat} : ∀ {as seen : List Nat}, distB E bs as seen = true → (∀ (i : Nat) (t b : Nat), as[i]? = some t → blkA (E.get t) = some b → b ∉ bs ∧ b ∉ seen) ∧
    ∀ (i j t u b : Nat), as[i]? = some t → as[j]? = some u → blkA (E.get t) = some b → blkA (E.get u) = some b → i = j
  | [], seen, _ => ⟨fun i t b h => by simp at h, fun i j t u b h => by simp at h⟩
  | a :: r, seen, h => by
    simp only [distB] at h
    split at h
    · rename_i b0 hb0
      simp only [Bool.and_eq_true, Bool.not_eq_true', List.contains_eq_mem, decide_eq_false_iff_not] at h
      obtain ⟨⟨h1, h2⟩, h3⟩ := h
      obtain ⟨i1, i2⟩ := distB_ok h3
      refine ⟨fun i t b hi hb => ?_, fun i j t u b hi hj hb hb' => ?_⟩
      · cases i with
        | zero => simp at hi; subst hi; rw [hb0] at hb; cases hb; exact ⟨h1, h2⟩
        | succ i =>
          obtain ⟨q1, q2⟩ := i1 i t b (by simpa using hi) hb
          exact ⟨q1, fun hc => q2 (List.mem_cons_of_mem _ hc)⟩
      · cases i with
        | zero =>
          cases j with
          | zero => rfl
          | succ j =>
            simp at hi; subst hi
            rw [hb0] at hb; cases hb
            exact absurd (List.mem_cons_self ..) (i1 j u b0 (by simpa using hj) hb').2
        | succ i =>
          cases j with
          | zero =>
            simp at hj; subst hj
            rw [hb0] at hb'; cases hb'
            exact absurd (List.mem_cons_self ..) (i1 i t b0 (by simpa using hi) hb).2
          | succ j => exact congrArg Nat.succ (i2 i j t u b (by simpa using hi) (by simpa using hj) hb hb')
    · rename_i hb0
      obtain ⟨i1, i2⟩ := distB_ok h
      refine ⟨fun i t b hi hb => ?_, fun i j t u b hi hj hb hb' => ?_⟩
      · cases i with
        | zero => simp at hi; subst hi; rw [hb0] at hb; cases hb
        | succ i => exact i1 i t b (by simpa using hi) hb
      · cases i with
        | zero => simp at hi; subst hi; rw [hb0] at hb; cases hb
        | succ i =>
          cases j with
          | zero => simp at hj; subst hj; rw [hb0] at hb'; cases hb'
          | succ j => exact congrArg Nat.succ (i2 i j t u b (by simpa using hi) (by simpa using hj) hb hb')

theorem okS_forg {ts bs as : List Nat} {m : Nat} {σ : SS} (h : okS ts as bs m σ = true) (hb : okB std m σ bs = true) (hba : okBA std m σ as = true) :
    Forg m σ.st (SS.st ⟨EM.of ts (ts.map fun t => headA m as t (σ.env.get t)) .nil, bs.map (fun b => (b, σ.lh.get b)) ++ headB σ.env σ.lh m as 0, m + as.length, 0, true⟩) := by
  simp only [okS, Bool.and_eq_true, List.all_eq_true, decide_eq_true_eq] at h
  obtain ⟨⟨h1, h2⟩, h3⟩ := h
  obtain ⟨d1, d2⟩ := distB_ok h3
  have hlow : ∀ b, b < m → oldN σ.env m as b = b := fun b hb => by unfold oldN; rw [if_pos hb]
  have hkeys : (bs.map fun b => (b, σ.lh.get b)).map (·.1) = bs := by rw [List.map_map]; exact List.map_id bs
  have hget : ∀ b, LM.get (bs.map (fun b => (b, σ.lh.get b)) ++ headB σ.env σ.lh m as 0) b = if b ∈ bs then σ.lh.get b else if m ≤ b then (as[b - m]?).bind (fun t => (blkA (σ.env.get t)).bind σ.lh.get) else none := fun b => by
    rw [LM.get_append, hkeys, LM.get_map, headB_get]
    by_cases hb' : b ∈ bs
    · simp [hb']
    · simp [hb']
  -- a plain block keeps its name
  have hplain : ∀ b, b ∈ bs → oldN σ.env m as b = b := fun b hb => by
    cases has : as with
    | nil => unfold oldN; split <;> simp
    | cons a r =>
      rw [has] at h2
      simp only [List.isEmpty_cons, Bool.false_or, List.all_eq_true, decide_eq_true_eq] at h2
      rw [← has]; exact hlow b (h2 b hb)
  have hacc : ∀ b, b ∉ bs → m ≤ b → ∀ k, (as[b - m]?).bind (fun t => (blkA (σ.env.get t)).bind σ.lh.get) = some k → ∃ t b', as[b - m]? = some t ∧ blkA (σ.env.get t) = some b' ∧ oldN σ.env m as b = b' ∧ σ.lh.get b' = some k := fun b hb hm k hk => by
    obtain ⟨t, ht, hk⟩ := Option.bind_eq_some_iff.1 hk
    obtain ⟨b', hb', hk⟩ := Option.bind_eq_some_iff.1 hk
    refine ⟨t, b', ht, hb', ?_, hk⟩
    unfold oldN
    rw [if_neg (by omega), ht, Option.bind_some, hb']
  refine ⟨Nat.le_add_right _ _, rfl, (fun p hp => by cases hp), oldN σ.env m as, hlow, fun b b' hs hs' he => ?_, fun t => ?_, fun b => ?_⟩
  · have hs : (LM.get (bs.map (fun b => (b, σ.lh.get b)) ++ headB σ.env σ.lh m as 0) b).isSome = true := hs
    have hs' : (LM.get (bs.map (fun b => (b, σ.lh.get b)) ++ headB σ.env σ.lh m as 0) b').isSome = true := hs'
    rw [hget] at hs hs'
    by_cases p1 : b ∈ bs
    · rw [hplain b p1] at he
      by_cases p2 : b' ∈ bs
      · rw [hplain b' p2] at he; exact he
      · rw [if_neg p2] at hs'
        split at hs'
        · rename_i hm
          obtain ⟨k, hk⟩ := Option.isSome_iff_exists.1 hs'
          obtain ⟨t, c, q1, q2, q3, q4⟩ := hacc b' p2 hm k hk
          rw [q3] at he; subst he
          exact absurd p1 (d1 _ _ _ q1 q2).1
        · cases hs'
    · rw [if_neg p1] at hs
      split at hs
      · rename_i hm
        obtain ⟨k, hk⟩ := Option.isSome_iff_exists.1 hs
        obtain ⟨t, c, q1, q2, q3, q4⟩ := hacc b p1 hm k hk
        rw [q3] at he
        by_cases p2 : b' ∈ bs
        · rw [hplain b' p2] at he
          subst he
          exact absurd p2 (d1 _ _ _ q1 q2).1
        · rw [if_neg p2] at hs'
          split at hs'
          · rename_i hm'
            obtain ⟨k', hk'⟩ := Option.isSome_iff_exists.1 hs'
            obtain ⟨t', c', r1, r2, r3, r4⟩ := hacc b' p2 hm' k' hk'
            rw [r3] at he; subst he
            have := d2 _ _ _ _ _ q1 r1 q2 r2
            omega
          · cases hs'
      · cases hs
  · have := keep_get ⟨(EM.of ts (ts.map fun t => headA m as t (σ.env.get t)) .nil), [], 0, 0, true⟩ [] .nil t (fun t ht => by cases ht)
    have key : ∀ (g : Nat → AV), (∀ t ∈ ts, t < 5461) → ∀ E t, (EM.of ts (ts.map g) E).get t = if t ∈ ts then g t else E.get t := fun g => by
      clear h1 h2 h3 d1 d2 hget hkeys hplain hacc hlow this
      induction ts with
      | nil => intro _ E t; simp [EM.of]
      | cons u ts ih =>
        intro hlt E t
        simp only [List.map_cons, EM.of]
        rw [ih (fun t ht => hlt t (List.mem_cons_of_mem _ ht)), EM.get_put _ 7 E u t (by simpa [capE] using hlt u (by simp))]
        by_cases a : t ∈ ts
        · simp [a]
        · by_cases b : t = u
          · subst b; simp
          · simp [a, b]
    have e : (SS.st ⟨EM.of ts (ts.map fun t => headA m as t (σ.env.get t)) .nil, bs.map (fun b => (b, σ.lh.get b)) ++ headB σ.env σ.lh m as 0, m + as.length, 0, true⟩).env t = if t ∈ ts then headA m as t (σ.env.get t) else EM.nil.get t :=
      key _ (fun t ht => (h1 t ht).1) .nil t
    by_cases ht : t ∈ ts
    · right
      rw [e, if_pos ht]
      have hok := (h1 t ht).2
      show σ.env.get t = _ ∧ bel (m + as.length) 8 _ = true
      unfold headA
      split
      · rename_i j hj
        rw [hj, if_pos (by rfl)] at hok
        obtain ⟨n, hn, has⟩ := idxA_some hj
        have hn : j = n := by omega
        subst hn
        have hlen : j < as.length := (List.getElem?_eq_some_iff.1 has).1
        have hold : ∀ b, blkA (σ.env.get t) = some b → oldN σ.env m as (m + j) = b := fun b hb => by
          unfold oldN
          rw [if_neg (by omega), show m + j - m = j by omega, has, Option.bind_some, hb]
        unfold slotOk at hok
        generalize hv : σ.env.get t = v at hok hold
        cases v with
        | slc b es o l => exact ⟨by simp only [setA, ren, hold b rfl], by simp only [setA, bel, decide_eq_true_eq]; omega⟩
        | loc b es i fo => exact ⟨by simp only [setA, ren, hold b rfl], by simp only [setA, bel, decide_eq_true_eq]; omega⟩
        | _ => exact ⟨(ren_bel hlow 8 _ hok).symm, bel_mono (Nat.le_add_right _ _) 8 _ hok⟩
      · rename_i hj
        rw [hj, if_neg (by simp)] at hok
        exact ⟨(ren_bel hlow 8 _ hok).symm, bel_mono (Nat.le_add_right _ _) 8 _ hok⟩
    · left; rw [e, if_neg ht]; rfl
  · have hrb : ∀ (k : LB), (∀ e ∈ k.els, bel m 8 e = true) → ({ k with els := k.els.map (ren (oldN σ.env m as) 8) } : LB) = k := fun k hk => by
      have : k.els.map (ren (oldN σ.env m as) 8) = k.els := by
        calc k.els.map (ren (oldN σ.env m as) 8) = k.els.map id := List.map_congr_left fun e he => ren_bel hlow 8 e (hk e he)
          _ = k.els := List.map_id _
      rw [this]
    show LM.get (bs.map (fun b => (b, σ.lh.get b)) ++ headB σ.env σ.lh m as 0) b = none ∨ ∃ k, LM.get (bs.map (fun b => (b, σ.lh.get b)) ++ headB σ.env σ.lh m as 0) b = some k ∧ σ.lh.get (oldN σ.env m as b) = _ ∧ ∀ e ∈ k.els, bel (m + as.length) 8 e = true
    rw [hget]
    by_cases hb' : b ∈ bs
    · rw [if_pos hb', hplain b hb']
      cases hl : σ.lh.get b with
      | none => exact .inl rfl
      | some k =>
        have hk := okB_ok hb b hb' k hl
        exact .inr ⟨k, rfl, by rw [hrb k hk], fun e he => bel_mono (Nat.le_add_right _ _) 8 _ (hk e he)⟩
    · rw [if_neg hb']
      by_cases hm : m ≤ b
      · rw [if_pos hm]
        cases hl : (as[b - m]?).bind (fun t => (blkA (σ.env.get t)).bind σ.lh.get) with
        | none => exact .inl rfl
        | some k =>
          obtain ⟨t, c, q1, q2, q3, q4⟩ := hacc b hb' hm k hl
          have hk := okBA_ok hba t (List.mem_of_getElem? q1) k (by rw [q2]; exact q4)
          exact .inr ⟨k, rfl, by rw [q3, q4, hrb k hk], fun e he => bel_mono (Nat.le_add_right _ _) 8 _ (hk e he)⟩
      · rw [if_neg hm]; exact .inl rfl

theorem keepT_ok {ts bs : List Nat} {m : Nat} {σ : SS} {t : Tree} (h : Sat P gs A (keepT std ts bs m σ t)) : Sat P gs A t ∧ Forg m σ.st (SS.st ⟨EM.of ts (headVs ts bs m σ.env) .nil, headBs bs m σ, m + (accS bs).length, 0, true⟩) := by
  unfold keepT at h
  split at h
  · rename_i hok
    obtain ⟨h1, h2⟩ := h
    rw [std_and, Bool.and_eq_true] at h1
    exact ⟨h2, okS_forg hok h1.1 h1.2⟩
  · exact h.elim

theorem execT_ok (hF : SFok P gs F H) (hT : TabOk P T) {lv : Nat → List Nat × List Nat} : ∀ (code : Code) (σ : SS) (stk : List Fm) (k : Exit → SS → Tree), (∀ e s, Sat P gs A (k e s) → WPstk (calls P gs) P A.Qe A.Bk A.QP stk e s.st) →
    Sat P gs A (execT std F H T lv code σ stk k) → WP (calls P gs) P code (WPstk (calls P gs) P A.Qe A.Bk A.QP stk) A.QP σ.st := by
  intro code
  induction code with
  | skip => intro σ stk k hk h; exact hk _ _ h
  | label l => intro σ stk k hk h; exact hk _ _ h
  | exit id => intro σ stk k hk h; exact hk _ _ h
  | ret => intro σ stk k hk h; exact hk _ _ h
  | region id ops d =>
    intro σ stk k hk h
    cases d with
    | false =>
      refine wpT_mono (fun σ' hs => ?_) _ _ (regTT_ok hF hT ops.toList σ _ _ GEok_nil h)
      obtain ⟨s, rfl, hs⟩ := hs
      exact hk _ _ hs
    | true =>
      refine .inl (wpD_mono _ _ _ _ _ (fun σ' tr hs => ?_) (regDT_ok hF hT ops.toList 0 σ _ h))
      obtain ⟨s, rfl, hs⟩ := hs
      split at hs
      · rename_i hi
        exact ⟨fun p hp => indepB_ok (List.all_eq_true.1 hi p hp), hk _ _ hs⟩
      · exact hs.elim
  | seq a b iha ihb =>
    intro σ stk k hk h
    exact iha σ (.seq b :: stk) _ (fun e s hs => by
      cases e with
      | normal => exact ihb s stk k hk hs
      | _ => exact hk _ _ hs) h
  | cond c a b iha ihb =>
    intro σ stk k hk h
    simp only [execT] at h
    simp only [WP]
    split at h
    · rename_i y hy
      rw [SS.eval_st, hy]
      split at h
      · rename_i t
        split at h
        · obtain ⟨hb, h⟩ := h
          simp only [std, Bool.and_eq_true, beq_iff_eq] at hb
          cases y <;> first | (simp [isBoolD] at hb; done) | skip
          rename_i v
          have hv : v = σ.kb := hb.2
          subst hv
          cases hkb : σ.kb with
          | true => rw [hkb] at h; exact iha σ stk k hk h
          | false => rw [hkb] at h; exact ihb σ stk k hk h
        · split at h
          · rename_i ht
            obtain ⟨hb, h1, h2⟩ := h
            cases y <;> first | (simp [std, isBoolD] at hb; done) | skip
            rename_i v
            have hst : ∀ kt kb, SS.st ⟨EM.put 7 σ.env t (.d (.bool v)), σ.lh, σ.nid, kt, kb⟩ = σ.st := fun kt kb => by
              have : (EM.put 7 σ.env t (.d (.bool v))).get = σ.env.get := by
                funext j
                rw [EM.get_put _ 7 σ.env t j (by simpa [capE] using ht)]
                split
                · rename_i hj; subst hj; exact hy.symm
                · rfl
              simp only [SS.st, this]
            cases v with
            | true => have := iha _ stk k hk (h1 rfl); rw [hst] at this; exact this
            | false => have := ihb _ stk k hk (h2 rfl); rw [hst] at this; exact this
          · exact h.elim
      · obtain ⟨hb, h1, h2⟩ := h
        cases y <;> first | (simp [std, isBoolD] at hb; done) | skip
        rename_i t
        cases t with
        | true => exact iha σ stk k hk (h1 rfl)
        | false => exact ihb σ stk k hk (h2 rfl)
    · exact h.elim
  | block id c ih =>
    intro σ stk k hk h
    exact ih σ (.block id :: stk) _ (fun e s hs => by
      cases e with
      | exit id' =>
        simp only [blockT] at hs
        simp only [WPstk, blockQ]
        split at hs
        · rename_i hi; rw [if_pos hi]; exact hk _ _ hs
        · rename_i hi; rw [if_neg hi]; exact hk _ _ hs
      | _ => exact hk _ _ hs) h
  | loop c ih =>
    intro σ stk k hk h
    simp only [execT] at h
    obtain ⟨⟨n, h⟩, hf⟩ := keepT_ok h
    exact ⟨n, iterN_forg hf h⟩
  | scope c ih =>
    intro σ stk k hk h
    exact ih σ (.scope :: stk) _ (fun e s hs => by
      cases e with
      | goto l => exact hs.elim
      | _ => exact hk _ _ hs) h
  | _ => intro σ stk k hk h; exact h.elim

theorem resT_ok (hF : SFok P gs F H) (hT : TabOk P T) {lv : Nat → List Nat × List Nat} {kend : Exit → SS → Tree} (hend : ∀ e s, Sat P gs A (kend e s) → A.Qe e s.st) : ∀ (stk : List Fm) (e : Exit) (s : SS),
    Sat P gs A (resT std F H T lv kend stk e s) → WPstk (calls P gs) P A.Qe A.Bk A.QP stk e s.st
  | [], e, s, h => hend e s h
  | .seq b :: r, e, s, h => by
    cases e with
    | normal => exact execT_ok hF hT b s r _ (resT_ok hF hT hend r) h
    | _ => exact resT_ok hF hT hend r _ s h
  | .block id :: r, e, s, h => by
    cases e with
    | exit id' =>
      simp only [resT, blockT] at h
      simp only [WPstk, blockQ]
      split at h
      · rename_i hi; rw [if_pos hi]; exact resT_ok hF hT hend r _ s h
      · rename_i hi; rw [if_neg hi]; exact resT_ok hF hT hend r _ s h
    | _ => exact resT_ok hF hT hend r _ s h
  | .scope :: r, e, s, h => by
    cases e with
    | goto l => exact h.elim
    | _ => exact resT_ok hF hT hend r _ s h
  | .back D ts bs nid :: r, e, s, h => by
    cases e with
    | normal =>
      have h : Sat P gs A (kBack std D ts bs nid s) := h
      unfold kBack at h
      obtain ⟨h, hf⟩ := keepT_ok h
      exact ⟨_, _, h, hf⟩
    | _ => exact resT_ok hF hT hend r _ s h
end
#print axioms execT_ok
end Go.Proofs.Am
