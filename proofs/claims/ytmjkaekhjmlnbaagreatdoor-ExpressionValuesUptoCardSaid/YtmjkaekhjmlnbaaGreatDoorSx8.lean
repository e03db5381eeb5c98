/- The errors of a value that is not one of those within it. -/
import Derived.Test.YtmjkaekhjmlnbaaGreatDoorSx7
import Derived.Test.YtmjkaekhjmlnbaaGreatDoorSxBase
import Derived.Test.YtmjkaekhjmlnbaaGreatDoorAmPtr
set_option linter.unusedVariables false
set_option linter.unusedSimpArgs false
set_option maxRecDepth 100000
namespace Go.Proofs.Sx
open Go Go.Proofs Go.Proofs.Am 
variable {gs : List Nat}

theorem cmpI_anti (a b : Int) : cmpI b a = - cmpI a b := by unfold cmpI; split <;> split <;> (try split) <;> (try split) <;> omega
theorem thn_neg (a b : Int) : thn (-a) (-b) = - thn a b := by unfold thn; split <;> split <;> omega
theorem cmpN_anti : ∀ (a b : List ByteArray), cmpN b a = - cmpN a b
  | [], [] => by simp [cmpN]
  | [], _ :: _ => by simp [cmpN]
  | _ :: _, [] => by simp [cmpN]
  | x :: l, y :: r => by simp only [cmpN]; rw [cmpS_anti, cmpN_anti l r, thn_neg]
mutual
theorem cmpV_anti : ∀ (v w : V), cmpV w v = - cmpV v w
  | .mk k n e s nm it, .mk k' n' e' s' nm' it' => by
    rw [cmpV, cmpV, cmpI_anti k k', cmpI_anti n n', cmpI_anti e e', cmpS_anti s s', cmpN_anti, cmpO_eq, cmpO_eq, cmpOO_anti it it', thn_neg, thn_neg, thn_neg, thn_neg, thn_neg]
theorem cmpOO_anti : ∀ (a b : Option (List V)), cmpL (b.getD []) (a.getD []) = - cmpL (a.getD []) (b.getD [])
  | none, none => by simp [cmpL]
  | none, some [] => by simp [cmpL]
  | none, some (_ :: _) => by simp [cmpL]
  | some [], none => by simp [cmpL]
  | some (_ :: _), none => by simp [cmpL]
  | some l, some r => cmpL_anti l r
theorem cmpL_anti : ∀ (a b : List V), cmpL b a = - cmpL a b
  | [], [] => by simp [cmpL]
  | [], _ :: _ => by simp [cmpL]
  | _ :: _, [] => by simp [cmpL]
  | x :: l, y :: r => by rw [cmpL, cmpL, cmpV_anti x y, cmpL_anti l r, thn_neg]
end
/-- Values in order. -/
def SortedP (l : List V) : Prop := ∀ i, 1 ≤ i → i < l.length → cmpV (l.getD (i - 1) default) (l.getD i default) ≤ 0
open Classical in
noncomputable def sortedOk (l : List V) : Bool := decide (SortedP l)
theorem sortedOk_t (l : List V) : sortedOk l = true ↔ SortedP l := by simp [sortedOk]
theorem sortedOk_f (l : List V) : sortedOk l = false ↔ ¬ SortedP l := by simp [sortedOk]
def lv67 : Nat → List Nat × List Nat
  | 2 => ([0, 1, 5], [])
  | _ => ([], [])
theorem wrap_of {x : Int} {n : Nat} (h : x = n) (h2 : n ≤ 1152921504606846976) : IntKind.i64.wrap x = (n : Int) := by rw [wrap64 (by omega) (by omega), h]
theorem pc67 (o : Option (List V)) (ho : okO o) : PureCall Tryz.prog [0] 67 [encO o, .fn 68 []] (dRet (.bool (sortedOk (o.getD [])))) := by
  have hl := okO_len ho
  refine pure_of_tree mixed fn67 (Nat.le_of_ble_eq_true rfl) (Nat.lt_of_succ_le (Nat.le_of_ble_eq_true rfl)) (sfOk (.cons ok68 .nil)) TbOk (lv := lv67) fun I F hI hF => ?_
  refine boxed fun C hC => ?_
  generalize hgen0 : encO o = gen0
  cbv
  subst hgen0
  subst hC
  refine ⟨?_⟩
  simp only [hI, hF, std]
  simp only [ib_add, ib_sub, ib_mul, ib_eql, ib_neq, ib_lss, ib_leq, ib_gtr, ib_geq, sb_eql, sb_neq, sb_lss, sb_gtr, eqI_eq, ltI_eq, leI_eq, eqB_eq, isIK_int, isIK_ite, isStrD_ite, asInt_ite, sat_req, sat_ite, sat_ret, sat_back, aimF_q, aimR_q, into_q, into_bk, binV_add, binV_sub, binV_mul, binV_eql, binV_neq, binV_lss, binV_leq, binV_gtr, binV_geq, binV_seql, binV_sneq, bbinV_eql, bbinV_neq, unV_not, unV_neg, convV_int, asBool_ite, isBoolD_ite, isBUD_ite, grdD_ite, grdD_bool, grdD_tup, isBUD_tup, isBUD_bool, isBoolD_tup, isBoolD_bool, asBool_tup, asBool_bool, isIntD_int, isStrD_str, asInt_int, asStr_str, lstD_sim, lstD_snil, isSlD_sim, isSlD_snil, isSnil_sim, isSnil_snil, Option.isSome_some, Option.getD_some, true_and, and_true, ↓reduceIte, Nat.reduceEqDiff, reduceCtorEq, pick_or, pick_and, pick_or', pick_and', Bool.not_not, ite_bool, dlV_cell, cells_agg, cells_str, cells_int, cells_bool, cells_sim, cells_snil, List.getD_cons_zero, List.getD_cons_succ, beq_tt, beq_ft, ite_same, imp_true, lookOk, lookRes, sfOf, sgOf, hOk, hRes, hOut, aimP_q, one_int, one_bool, one_str, one_sim, one_snil, one_fn, Int.toNat_natCast, Nat.zero_add, Int.toNat_zero, natCast_fold, Int.ofNat_eq_natCast, isB_bool, beq_self_eq_true, dIsAgg_agg, bel_d, bel7_d, bel_aggd, List.all_cons, List.all_nil, Bool.and_self, Bool.and_true, Bool.true_and, dlV_enc, enc_cells, lst_encO, isSl_encO, one_encO, lst_encS, isSl_encS, one_encS, isAgg_enc, toV_enc, isV_enc, toVs_enc, isVs_enc, toSs_enc, isSs_enc]
  have wl : IntKind.i64.wrap (((o.getD []).length : Int) - 1) = ((o.getD []).length : Int) - 1 := wrap64 (by omega) (by omega)
  simp [wl]
  refine loop_rule (kend := fun I => kEndF I Tb [.tmp 4]) hI hF (sfOk (.cons ok68 .nil)) TbOk (by exact fun Bk e s h => endF TbOk Bk e s h) (lv := lv67) 0 (fun i : {i : Nat // i ≤ (o.getD []).length ∧ ∀ j, i ≤ j → 1 ≤ j → j < (o.getD []).length → cmpV ((o.getD []).getD (j - 1) default) ((o.getD []).getD j default) ≤ 0} => [.d (encO o), .d (.fn 68 []), .d (.int .i64 ((i.1 : Int) - 1))]) (fun i : {i : Nat // i ≤ (o.getD []).length ∧ ∀ j, i ≤ j → 1 ≤ j → j < (o.getD []).length → cmpV ((o.getD []).getD (j - 1) default) ((o.getD []).getD j default) ≤ 0} => []) (fun i : {i : Nat // i ≤ (o.getD []).length ∧ ∀ j, i ≤ j → 1 ≤ j → j < (o.getD []).length → cmpV ((o.getD []).getD (j - 1) default) ((o.getD []).getD j default) ≤ 0} => i.1) [] (⟨(o.getD []).length, by omega, fun j h1 h2 h3 => by omega⟩ : {i : Nat // i ≤ (o.getD []).length ∧ ∀ j, i ≤ j → 1 ≤ j → j < (o.getD []).length → cmpV ((o.getD []).getD (j - 1) default) ((o.getD []).getD j default) ≤ 0}) (by rfl) (by rfl) ?_ ?_ fun i => ?_
  · rfl
  · rfl
  obtain ⟨i, hi1, hi2⟩ := i
  refine boxed fun C hC => ?_
  generalize hgen0 : encO o = gen0
  generalize hgen1 : DV.int .i64 ((i : Int) - 1) = gen1
  cbv
  subst hgen0
  subst hgen1
  subst hC
  refine ⟨?_⟩
  simp only [hI, hF, std]
  by_cases hlt : 1 < i
  · have h1 : i - 1 < (o.getD []).length := by omega
    have h2 : i - 2 < (o.getD []).length := by omega
    have t1 : ((i : Int) - 1).toNat = i - 1 := by omega
    have t2 : IntKind.i64.wrap ((i : Int) - 1 - 1) = ((i - 2 : Nat) : Int) := wrap_of (by omega) (by omega)
    have g1 := get_enc _ _ h1
    have g2 := get_enc _ _ h2
    have k1 := okO_get ho h1
    have k2 := okO_get ho h2
    simp only [ib_add, ib_sub, ib_mul, ib_eql, ib_neq, ib_lss, ib_leq, ib_gtr, ib_geq, sb_eql, sb_neq, sb_lss, sb_gtr, eqI_eq, ltI_eq, leI_eq, eqB_eq, isIK_int, isIK_ite, isStrD_ite, asInt_ite, sat_req, sat_ite, sat_ret, sat_back, aimF_q, aimR_q, into_q, into_bk, binV_add, binV_sub, binV_mul, binV_eql, binV_neq, binV_lss, binV_leq, binV_gtr, binV_geq, binV_seql, binV_sneq, bbinV_eql, bbinV_neq, unV_not, unV_neg, convV_int, asBool_ite, isBoolD_ite, isBUD_ite, grdD_ite, grdD_bool, grdD_tup, isBUD_tup, isBUD_bool, isBoolD_tup, isBoolD_bool, asBool_tup, asBool_bool, isIntD_int, isStrD_str, asInt_int, asStr_str, lstD_sim, lstD_snil, isSlD_sim, isSlD_snil, isSnil_sim, isSnil_snil, Option.isSome_some, Option.getD_some, true_and, and_true, ↓reduceIte, Nat.reduceEqDiff, reduceCtorEq, pick_or, pick_and, pick_or', pick_and', Bool.not_not, ite_bool, dlV_cell, cells_agg, cells_str, cells_int, cells_bool, cells_sim, cells_snil, List.getD_cons_zero, List.getD_cons_succ, beq_tt, beq_ft, ite_same, imp_true, lookOk, lookRes, sfOf, sgOf, hOk, hRes, hOut, aimP_q, one_int, one_bool, one_str, one_sim, one_snil, one_fn, Int.toNat_natCast, Nat.zero_add, Int.toNat_zero, natCast_fold, Int.ofNat_eq_natCast, isB_bool, beq_self_eq_true, dIsAgg_agg, bel_d, bel7_d, bel_aggd, List.all_cons, List.all_nil, Bool.and_self, Bool.and_true, Bool.true_and, dlV_enc, enc_cells, lst_encO, isSl_encO, one_encO, lst_encS, isSl_encS, one_encS, isAgg_enc, toV_enc, isV_enc, toVs_enc, isVs_enc, toSs_enc, isSs_enc, e68, t1, t2, g1, g2]
    simp [- List.getD_eq_getElem?_getD, dlV_enc, enc_cells, lst_encO, isSl_encO, one_encO, lst_encS, isSl_encS, one_encS, isAgg_enc, toV_enc, isV_enc, toVs_enc, isVs_enc, toSs_enc, isSs_enc, k1, k2, natCast_fold]
    have ha := cmpV_anti ((o.getD []).getD (i - 1) default) ((o.getD []).getD (i - 2) default)
    have hj : ∀ j, i - 1 ≤ j → 1 ≤ j → j < (o.getD []).length → 0 ≤ cmpV ((o.getD []).getD (i - 1) default) ((o.getD []).getD (i - 2) default) → cmpV ((o.getD []).getD (j - 1) default) ((o.getD []).getD j default) ≤ 0 := fun j a b c hc => by
      by_cases hji : j = i - 1
      · subst hji
        rw [show i - 1 - 1 = i - 2 by omega]; omega
      · exact hi2 j (by omega) b c
    refine ⟨fun _ => ⟨by clear t2; omega, by clear t2; omega, fun h => (sortedOk_f _).2 fun hs => ?_, fun h => ⟨i - 1, by clear t2; omega, ⟨by clear t2; omega, fun j a b c => hj j a b c h⟩, by clear t2; omega⟩⟩, fun h => by clear t2; omega⟩
    have := hs (i - 1) (by clear t2; omega) h1
    rw [show i - 1 - 1 = i - 2 by omega] at this
    omega
  · have hs : sortedOk (o.getD []) = true := (sortedOk_t _).2 fun j a b => hi2 j (by omega) a b
    have hn : ¬ (1 : Int) < i := by omega
    simp only [ib_add, ib_sub, ib_mul, ib_eql, ib_neq, ib_lss, ib_leq, ib_gtr, ib_geq, sb_eql, sb_neq, sb_lss, sb_gtr, eqI_eq, ltI_eq, leI_eq, eqB_eq, isIK_int, isIK_ite, isStrD_ite, asInt_ite, sat_req, sat_ite, sat_ret, sat_back, aimF_q, aimR_q, into_q, into_bk, binV_add, binV_sub, binV_mul, binV_eql, binV_neq, binV_lss, binV_leq, binV_gtr, binV_geq, binV_seql, binV_sneq, bbinV_eql, bbinV_neq, unV_not, unV_neg, convV_int, asBool_ite, isBoolD_ite, isBUD_ite, grdD_ite, grdD_bool, grdD_tup, isBUD_tup, isBUD_bool, isBoolD_tup, isBoolD_bool, asBool_tup, asBool_bool, isIntD_int, isStrD_str, asInt_int, asStr_str, lstD_sim, lstD_snil, isSlD_sim, isSlD_snil, isSnil_sim, isSnil_snil, Option.isSome_some, Option.getD_some, true_and, and_true, ↓reduceIte, Nat.reduceEqDiff, reduceCtorEq, pick_or, pick_and, pick_or', pick_and', Bool.not_not, ite_bool, dlV_cell, cells_agg, cells_str, cells_int, cells_bool, cells_sim, cells_snil, List.getD_cons_zero, List.getD_cons_succ, beq_tt, beq_ft, ite_same, imp_true, lookOk, lookRes, sfOf, sgOf, hOk, hRes, hOut, aimP_q, one_int, one_bool, one_str, one_sim, one_snil, one_fn, Int.toNat_natCast, Nat.zero_add, Int.toNat_zero, natCast_fold, Int.ofNat_eq_natCast, isB_bool, beq_self_eq_true, dIsAgg_agg, bel_d, bel7_d, bel_aggd, List.all_cons, List.all_nil, Bool.and_self, Bool.and_true, Bool.true_and, dlV_enc, enc_cells, lst_encO, isSl_encO, one_encO, lst_encS, isSl_encS, one_encS, isAgg_enc, toV_enc, isV_enc, toVs_enc, isVs_enc, toSs_enc, isSs_enc, e68]
    simp [- List.getD_eq_getElem?_getD, hn, hs]
open Classical in
noncomputable def e67 : Ent := ⟨67, fun | [d_o, .fn 68 []] => decide (isVs d_o) | _ => false, fun | [d_o, .fn 68 []] => .bool (sortedOk ((toVs d_o).getD [])) | _ => .inil⟩
open Classical in
theorem ok67 : EntOk Tryz.prog [0] e67 := fun ds h => by
  unfold e67 at h ⊢
  simp only at h ⊢
  split at h
  · rw [decide_eq_true_iff] at h
    obtain ⟨v0, rfl, k0⟩ := h
    simp only [toV_enc, toVs_enc, toSs_enc]
    exact pc67 _ k0
  · cases h

/-- All names are names; some name stands twice. -/
def NamesP (l : List ByteArray) : Prop := ∀ i, i < l.length → nameOk (l.getD i ⟨#[]⟩) = true
def DoubleP (l : List ByteArray) : Prop := ∃ i j, j < i ∧ i < l.length ∧ l.getD j ⟨#[]⟩ = l.getD i ⟨#[]⟩
open Classical in
noncomputable def ownE (v : V) : Int :=
  if ¬ ((1 ≤ v.k ∧ v.k ≤ 6) ∨ (9 ≤ v.k ∧ v.k ≤ 12) ∨ v.k = 14) then 4
  else if v.e ≠ 0 ∨ (¬(v.k = 1 ∨ v.k = 2 ∨ v.k = 14) ∧ v.n ≠ 0) ∨ (¬(3 ≤ v.k ∧ v.k ≤ 6) ∧ v.s ≠ ⟨#[]⟩) ∨ (¬(v.k = 9 ∨ v.k = 12) ∧ v.names ≠ []) ∨ (¬(9 ≤ v.k ∧ v.k ≤ 12) ∧ v.items ≠ []) then 5
  else if (v.k = 1 ∧ ¬(0 ≤ v.n ∧ v.n ≤ 1)) ∨ (v.k = 14 ∧ ¬(0 ≤ v.n ∧ v.n ≤ 4)) then 5
  else if ((v.k = 9 ∨ v.k = 12) ∧ (v.names.length : Int) ≠ v.items.length) ∨ (v.k = 12 ∧ (v.items.length : Int) ≠ 1) then 6
  else if (v.s.size : Int) > 200 ∨ (v.k = 9 ∧ (v.items.length : Int) > 16) ∨ (v.items.length : Int) > 40 then 2
  else if (v.k = 2 ∧ ¬(-1152921504606846976 ≤ v.n ∧ v.n ≤ 1152921504606846976)) ∨ charsOk v = false then 3
  else if (v.k = 3 ∧ nameOk v.s = false) ∨ ¬ NamesP v.names then 7
  else if DoubleP v.names then 13
  else if v.k = 11 ∧ sortedOk v.items = false then 14
  else 0

/-- A value that passes all tests but those of its names and of its order. -/
structure Good (v : V) : Prop where
  kind : (1 ≤ v.k ∧ v.k ≤ 6) ∨ (9 ≤ v.k ∧ v.k ≤ 12) ∨ v.k = 14
  form : ¬ (v.e ≠ 0 ∨ (¬(v.k = 1 ∨ v.k = 2 ∨ v.k = 14) ∧ v.n ≠ 0) ∨ (¬(3 ≤ v.k ∧ v.k ≤ 6) ∧ v.s ≠ ⟨#[]⟩) ∨ (¬(v.k = 9 ∨ v.k = 12) ∧ v.names ≠ []) ∨ (¬(9 ≤ v.k ∧ v.k ≤ 12) ∧ v.items ≠ []))
  form2 : ¬ ((v.k = 1 ∧ ¬(0 ≤ v.n ∧ v.n ≤ 1)) ∨ (v.k = 14 ∧ ¬(0 ≤ v.n ∧ v.n ≤ 4)))
  shape : ¬ (((v.k = 9 ∨ v.k = 12) ∧ (v.names.length : Int) ≠ v.items.length) ∨ (v.k = 12 ∧ (v.items.length : Int) ≠ 1))
  large : ¬ ((v.s.size : Int) > 200 ∨ (v.k = 9 ∧ (v.items.length : Int) > 16) ∨ (v.items.length : Int) > 40)
  range : ¬ ((v.k = 2 ∧ ¬(-1152921504606846976 ≤ v.n ∧ v.n ≤ 1152921504606846976)) ∨ charsOk v = false)
  name : ¬ (v.k = 3 ∧ nameOk v.s = false)
theorem ownE_good {v : V} (h : Good v) : (¬ NamesP v.names → ownE v = 7) ∧ (NamesP v.names → DoubleP v.names → ownE v = 13) ∧ (NamesP v.names → ¬ DoubleP v.names → v.k = 11 ∧ sortedOk v.items = false → ownE v = 14) ∧ (NamesP v.names → ¬ DoubleP v.names → ¬ (v.k = 11 ∧ sortedOk v.items = false) → ownE v = 0) := by
  have hk : ¬ ¬ ((1 ≤ v.k ∧ v.k ≤ 6) ∨ (9 ≤ v.k ∧ v.k ≤ 12) ∨ v.k = 14) := fun hn => hn h.kind
  unfold ownE
  rw [if_neg hk, if_neg h.form, if_neg h.form2, if_neg h.shape, if_neg h.large, if_neg h.range]
  refine ⟨fun a => if_pos (.inr a), fun a b => ?_, fun a b c => ?_, fun a b c => ?_⟩
  · rw [if_neg (fun hc => hc.elim h.name (fun x => x a)), if_pos b]
  · rw [if_neg (fun hc => hc.elim h.name (fun x => x a)), if_neg b, if_pos c]
  · rw [if_neg (fun hc => hc.elim h.name (fun x => x a)), if_neg b, if_neg c]

theorem idxS_self : ∀ {l : List ByteArray} {m : Nat}, m < l.length → (idxS l (l.getD m ⟨#[]⟩) = (m : Int) ↔ ∀ j, j < m → l.getD j ⟨#[]⟩ ≠ l.getD m ⟨#[]⟩)
  | l, m, h => by
    constructor
    · intro he j hj hc
      -- the first place is not behind j
      have : ∀ {l : List ByteArray} {s : ByteArray} {j : Nat}, j < l.length → l.getD j ⟨#[]⟩ = s → idxS l s ≤ j := by
        intro l
        induction l with
        | nil => intro s j hj; simp at hj
        | cons x l ih =>
          intro s j hj hs
          simp only [idxS]
          cases j with
          | zero => simp at hs; simp [hs]
          | succ j =>
            have := ih (s := s) (j := j) (by simpa using hj) (by simpa using hs)
            split
            · omega
            · split <;> omega
      have := this (by omega) hc
      omega
    · intro hn; exact idxS_some h rfl hn
def lv69 : Nat → List Nat × List Nat
  | 21 => ([1, 3, 8], [0])
  | 26 => ([1, 3, 9], [0])
  | 31 => ([1, 3, 10], [0])
  | _ => ([], [])
set_option maxHeartbeats 8000000 in
theorem pc69 (v : V) (hv : v.ok) : PureCall Tryz.prog [0] 69 [v.enc] (dRet (.int .i64 (ownE v))) := by
  refine pure_of_tree mixed fn69 (Nat.le_of_ble_eq_true rfl) (Nat.lt_of_succ_le (Nat.le_of_ble_eq_true rfl)) (sfOk (.cons ok88 (.cons ok41 (.cons ok89 (.cons ok25 (.cons ok90 (.cons ok36 .nil))))))) TbOk (lv := lv69) fun I F hI hF => ?_
  refine boxed fun C hC => ?_
  generalize hgen0 : v.enc = gen0
  cbv
  subst hgen0
  subst hC
  refine ⟨?_⟩
  simp only [hI, hF, std]
  simp only [ib_add, ib_sub, ib_mul, ib_eql, ib_neq, ib_lss, ib_leq, ib_gtr, ib_geq, sb_eql, sb_neq, sb_lss, sb_gtr, eqI_eq, ltI_eq, leI_eq, eqB_eq, isIK_int, isIK_ite, isStrD_ite, asInt_ite, sat_req, sat_ite, sat_ret, sat_back, aimF_q, aimR_q, into_q, into_bk, binV_add, binV_sub, binV_mul, binV_eql, binV_neq, binV_lss, binV_leq, binV_gtr, binV_geq, binV_seql, binV_sneq, bbinV_eql, bbinV_neq, unV_not, unV_neg, convV_int, asBool_ite, isBoolD_ite, isBUD_ite, grdD_ite, grdD_bool, grdD_tup, isBUD_tup, isBUD_bool, isBoolD_tup, isBoolD_bool, asBool_tup, asBool_bool, isIntD_int, isStrD_str, asInt_int, asStr_str, lstD_sim, lstD_snil, isSlD_sim, isSlD_snil, isSnil_sim, isSnil_snil, Option.isSome_some, Option.getD_some, true_and, and_true, ↓reduceIte, Nat.reduceEqDiff, reduceCtorEq, pick_or, pick_and, pick_or', pick_and', Bool.not_not, ite_bool, dlV_cell, cells_agg, cells_str, cells_int, cells_bool, cells_sim, cells_snil, List.getD_cons_zero, List.getD_cons_succ, beq_tt, beq_ft, ite_same, imp_true, lookOk, lookRes, sfOf, sgOf, hOk, hRes, hOut, aimP_q, one_int, one_bool, one_str, one_sim, one_snil, one_fn, Int.toNat_natCast, Nat.zero_add, Int.toNat_zero, natCast_fold, Int.ofNat_eq_natCast, isB_bool, beq_self_eq_true, dIsAgg_agg, bel_d, bel7_d, bel_aggd, List.all_cons, List.all_nil, Bool.and_self, Bool.and_true, Bool.true_and, dlV_enc, enc_cells, lst_encO, isSl_encO, one_encO, lst_encS, isSl_encS, one_encS, isAgg_enc, toV_enc, isV_enc, toVs_enc, isVs_enc, toSs_enc, isSs_enc, e88, e41, e89, e25, e90, e36]
  have e1 : v.nm.getD [] = v.names := rfl
  have e3 : v.it.getD [] = v.items := rfl
  generalize hL : Sat Tryz.prog [0] _ (Tree.loop _ _ _ _ _ _ _) = L
  have loops : Good v → L := by
    intro hg
    rw [← hL]
    clear hL
    obtain ⟨o1, o2, o3, o4⟩ := ownE_good hg
    have nl := V.ok_nl hv
    have il := V.ok_il hv
    refine loop_rule (kend := fun I => kEndF I Tb [.tmp 2]) hI hF (sfOk (.cons ok88 (.cons ok41 (.cons ok89 (.cons ok25 (.cons ok90 (.cons ok36 .nil))))))) TbOk (by exact fun Bk e s h => endF TbOk Bk e s h) (lv := lv69) 0 (fun i : {i : Nat // i ≤ v.names.length ∧ ∀ j, j < i → nameOk (v.names.getD j ⟨#[]⟩) = true} => [.loc 0 6 0 0, .d (.int .i64 v.k), .d (.int .i64 (i.1 : Int))]) (fun i : {i : Nat // i ≤ v.names.length ∧ ∀ j, j < i → nameOk (v.names.getD j ⟨#[]⟩) = true} => [(0, some ⟨[.d v.enc], 6, 25, true, true⟩)]) (fun i : {i : Nat // i ≤ v.names.length ∧ ∀ j, j < i → nameOk (v.names.getD j ⟨#[]⟩) = true} => v.names.length - i.1) [0] (⟨0, by omega, fun j h => by omega⟩ : {i : Nat // i ≤ v.names.length ∧ ∀ j, j < i → nameOk (v.names.getD j ⟨#[]⟩) = true}) (by rfl) (by rfl) ?_ ?_ fun i => ?_
    · rfl
    · rfl
    obtain ⟨i, hi1, hi2⟩ := i
    refine boxed fun C hC => ?_
    generalize hgen0 : v.enc = gen0
    generalize hgen1 : DV.int .i64 v.k = gen1
    generalize hgen2 : DV.int .i64 (i : Int) = gen2
    cbv
    subst hgen0
    subst hgen1
    subst hgen2
    subst hC
    refine ⟨?_⟩
    simp only [hI, hF, std]
    have w3 := wrap_succ (n := i) (by omega)
    by_cases hlt : i < v.names.length
    · have g1 := get_str _ _ hlt
      simp only [ib_add, ib_sub, ib_mul, ib_eql, ib_neq, ib_lss, ib_leq, ib_gtr, ib_geq, sb_eql, sb_neq, sb_lss, sb_gtr, eqI_eq, ltI_eq, leI_eq, eqB_eq, isIK_int, isIK_ite, isStrD_ite, asInt_ite, sat_req, sat_ite, sat_ret, sat_back, aimF_q, aimR_q, into_q, into_bk, binV_add, binV_sub, binV_mul, binV_eql, binV_neq, binV_lss, binV_leq, binV_gtr, binV_geq, binV_seql, binV_sneq, bbinV_eql, bbinV_neq, unV_not, unV_neg, convV_int, asBool_ite, isBoolD_ite, isBUD_ite, grdD_ite, grdD_bool, grdD_tup, isBUD_tup, isBUD_bool, isBoolD_tup, isBoolD_bool, asBool_tup, asBool_bool, isIntD_int, isStrD_str, asInt_int, asStr_str, lstD_sim, lstD_snil, isSlD_sim, isSlD_snil, isSnil_sim, isSnil_snil, Option.isSome_some, Option.getD_some, true_and, and_true, ↓reduceIte, Nat.reduceEqDiff, reduceCtorEq, pick_or, pick_and, pick_or', pick_and', Bool.not_not, ite_bool, dlV_cell, cells_agg, cells_str, cells_int, cells_bool, cells_sim, cells_snil, List.getD_cons_zero, List.getD_cons_succ, beq_tt, beq_ft, ite_same, imp_true, lookOk, lookRes, sfOf, sgOf, hOk, hRes, hOut, aimP_q, one_int, one_bool, one_str, one_sim, one_snil, one_fn, Int.toNat_natCast, Nat.zero_add, Int.toNat_zero, natCast_fold, Int.ofNat_eq_natCast, isB_bool, beq_self_eq_true, dIsAgg_agg, bel_d, bel7_d, bel_aggd, List.all_cons, List.all_nil, Bool.and_self, Bool.and_true, Bool.true_and, dlV_enc, enc_cells, lst_encO, isSl_encO, one_encO, lst_encS, isSl_encS, one_encS, isAgg_enc, toV_enc, isV_enc, toVs_enc, isVs_enc, toSs_enc, isSs_enc, e88, e41, e89, e25, e90, e36, e1, g1]
      simp [hlt, w3, - List.getD_eq_getElem?_getD]
      refine ⟨fun h => (o1 fun hn => ?_).symm, fun h => ⟨i + 1, by omega, ⟨by omega, fun j hj => ?_⟩, by simp⟩⟩
      · have := hn i hlt
        rw [h] at this; cases this
      · by_cases hji : j = i
        · subst hji; exact h
        · exact hi2 j (by omega)
    have hnames : NamesP v.names := fun j hj => hi2 j (by omega)
    simp only [ib_add, ib_sub, ib_mul, ib_eql, ib_neq, ib_lss, ib_leq, ib_gtr, ib_geq, sb_eql, sb_neq, sb_lss, sb_gtr, eqI_eq, ltI_eq, leI_eq, eqB_eq, isIK_int, isIK_ite, isStrD_ite, asInt_ite, sat_req, sat_ite, sat_ret, sat_back, aimF_q, aimR_q, into_q, into_bk, binV_add, binV_sub, binV_mul, binV_eql, binV_neq, binV_lss, binV_leq, binV_gtr, binV_geq, binV_seql, binV_sneq, bbinV_eql, bbinV_neq, unV_not, unV_neg, convV_int, asBool_ite, isBoolD_ite, isBUD_ite, grdD_ite, grdD_bool, grdD_tup, isBUD_tup, isBUD_bool, isBoolD_tup, isBoolD_bool, asBool_tup, asBool_bool, isIntD_int, isStrD_str, asInt_int, asStr_str, lstD_sim, lstD_snil, isSlD_sim, isSlD_snil, isSnil_sim, isSnil_snil, Option.isSome_some, Option.getD_some, true_and, and_true, ↓reduceIte, Nat.reduceEqDiff, reduceCtorEq, pick_or, pick_and, pick_or', pick_and', Bool.not_not, ite_bool, dlV_cell, cells_agg, cells_str, cells_int, cells_bool, cells_sim, cells_snil, List.getD_cons_zero, List.getD_cons_succ, beq_tt, beq_ft, ite_same, imp_true, lookOk, lookRes, sfOf, sgOf, hOk, hRes, hOut, aimP_q, one_int, one_bool, one_str, one_sim, one_snil, one_fn, Int.toNat_natCast, Nat.zero_add, Int.toNat_zero, natCast_fold, Int.ofNat_eq_natCast, isB_bool, beq_self_eq_true, dIsAgg_agg, bel_d, bel7_d, bel_aggd, List.all_cons, List.all_nil, Bool.and_self, Bool.and_true, Bool.true_and, dlV_enc, enc_cells, lst_encO, isSl_encO, one_encO, lst_encS, isSl_encS, one_encS, isAgg_enc, toV_enc, isV_enc, toVs_enc, isVs_enc, toSs_enc, isSs_enc, e88, e41, e89, e25, e90, e36, e1]
    have hn : ¬ (i : Int) < v.names.length := by omega
    simp [hlt, hn, - List.getD_eq_getElem?_getD]
    refine loop_rule (kend := fun I => kEndF I Tb [.tmp 2]) hI hF (sfOk (.cons ok88 (.cons ok41 (.cons ok89 (.cons ok25 (.cons ok90 (.cons ok36 .nil))))))) TbOk (by exact fun Bk e s h => endF TbOk Bk e s h) (lv := lv69) 1 (fun i : {i : Nat // i ≤ v.names.length ∧ ∀ a b, a < i → b < a → v.names.getD b ⟨#[]⟩ ≠ v.names.getD a ⟨#[]⟩} => [.loc 0 6 0 0, .d (.int .i64 v.k), .d (.int .i64 (i.1 : Int))]) (fun i : {i : Nat // i ≤ v.names.length ∧ ∀ a b, a < i → b < a → v.names.getD b ⟨#[]⟩ ≠ v.names.getD a ⟨#[]⟩} => [(0, some ⟨[.d v.enc], 6, 25, true, true⟩)]) (fun i : {i : Nat // i ≤ v.names.length ∧ ∀ a b, a < i → b < a → v.names.getD b ⟨#[]⟩ ≠ v.names.getD a ⟨#[]⟩} => v.names.length - i.1) [0] (⟨0, by omega, fun a b h => by omega⟩ : {i : Nat // i ≤ v.names.length ∧ ∀ a b, a < i → b < a → v.names.getD b ⟨#[]⟩ ≠ v.names.getD a ⟨#[]⟩}) (by rfl) (by rfl) ?_ ?_ fun i => ?_
    · rfl
    · rfl
    clear hlt w3 hn
    obtain ⟨m, hm1, hm2⟩ := i
    refine boxed fun C hC => ?_
    generalize hgen0 : v.enc = gen0
    generalize hgen1 : DV.int .i64 v.k = gen1
    generalize hgen2 : DV.int .i64 (m : Int) = gen2
    cbv
    subst hgen0
    subst hgen1
    subst hgen2
    subst hC
    refine ⟨?_⟩
    simp only [hI, hF, std]
    have w3 := wrap_succ (n := m) (by omega)
    by_cases hlt : m < v.names.length
    · have g1 := get_str _ _ hlt
      have hok : okS0 v.nm := V.ok_nm hv
      simp only [ib_add, ib_sub, ib_mul, ib_eql, ib_neq, ib_lss, ib_leq, ib_gtr, ib_geq, sb_eql, sb_neq, sb_lss, sb_gtr, eqI_eq, ltI_eq, leI_eq, eqB_eq, isIK_int, isIK_ite, isStrD_ite, asInt_ite, sat_req, sat_ite, sat_ret, sat_back, aimF_q, aimR_q, into_q, into_bk, binV_add, binV_sub, binV_mul, binV_eql, binV_neq, binV_lss, binV_leq, binV_gtr, binV_geq, binV_seql, binV_sneq, bbinV_eql, bbinV_neq, unV_not, unV_neg, convV_int, asBool_ite, isBoolD_ite, isBUD_ite, grdD_ite, grdD_bool, grdD_tup, isBUD_tup, isBUD_bool, isBoolD_tup, isBoolD_bool, asBool_tup, asBool_bool, isIntD_int, isStrD_str, asInt_int, asStr_str, lstD_sim, lstD_snil, isSlD_sim, isSlD_snil, isSnil_sim, isSnil_snil, Option.isSome_some, Option.getD_some, true_and, and_true, ↓reduceIte, Nat.reduceEqDiff, reduceCtorEq, pick_or, pick_and, pick_or', pick_and', Bool.not_not, ite_bool, dlV_cell, cells_agg, cells_str, cells_int, cells_bool, cells_sim, cells_snil, List.getD_cons_zero, List.getD_cons_succ, beq_tt, beq_ft, ite_same, imp_true, lookOk, lookRes, sfOf, sgOf, hOk, hRes, hOut, aimP_q, one_int, one_bool, one_str, one_sim, one_snil, one_fn, Int.toNat_natCast, Nat.zero_add, Int.toNat_zero, natCast_fold, Int.ofNat_eq_natCast, isB_bool, beq_self_eq_true, dIsAgg_agg, bel_d, bel7_d, bel_aggd, List.all_cons, List.all_nil, Bool.and_self, Bool.and_true, Bool.true_and, dlV_enc, enc_cells, lst_encO, isSl_encO, one_encO, lst_encS, isSl_encS, one_encS, isAgg_enc, toV_enc, isV_enc, toVs_enc, isVs_enc, toSs_enc, isSs_enc, e88, e41, e89, e25, e90, e36, e1, g1]
      simp [hlt, w3, - List.getD_eq_getElem?_getD, hok, dlV_enc, enc_cells, lst_encO, isSl_encO, one_encO, lst_encS, isSl_encS, one_encS, isAgg_enc, toV_enc, isV_enc, toVs_enc, isVs_enc, toSs_enc, isSs_enc]
      have hself := idxS_self hlt
      refine ⟨fun h => (o2 hnames ?_).symm, fun h => ⟨m + 1, by omega, ⟨by omega, fun a b ha hb => ?_⟩, by simp⟩⟩
      · by_cases hd : ∃ j, j < m ∧ v.names.getD j ⟨#[]⟩ = v.names.getD m ⟨#[]⟩
        · obtain ⟨j, h1, h2⟩ := hd; exact ⟨m, j, h1, hlt, h2⟩
        · exact absurd (hself.2 fun j hj he => hd ⟨j, hj, he⟩) h
      · by_cases ham : a = m
        · subst ham; exact hself.1 h b hb
        · exact hm2 a b (by omega) hb
    have hdbl : ¬ DoubleP v.names := fun ⟨a, b, h1, h2, h3⟩ => hm2 a b (by omega) h1 h3
    simp only [ib_add, ib_sub, ib_mul, ib_eql, ib_neq, ib_lss, ib_leq, ib_gtr, ib_geq, sb_eql, sb_neq, sb_lss, sb_gtr, eqI_eq, ltI_eq, leI_eq, eqB_eq, isIK_int, isIK_ite, isStrD_ite, asInt_ite, sat_req, sat_ite, sat_ret, sat_back, aimF_q, aimR_q, into_q, into_bk, binV_add, binV_sub, binV_mul, binV_eql, binV_neq, binV_lss, binV_leq, binV_gtr, binV_geq, binV_seql, binV_sneq, bbinV_eql, bbinV_neq, unV_not, unV_neg, convV_int, asBool_ite, isBoolD_ite, isBUD_ite, grdD_ite, grdD_bool, grdD_tup, isBUD_tup, isBUD_bool, isBoolD_tup, isBoolD_bool, asBool_tup, asBool_bool, isIntD_int, isStrD_str, asInt_int, asStr_str, lstD_sim, lstD_snil, isSlD_sim, isSlD_snil, isSnil_sim, isSnil_snil, Option.isSome_some, Option.getD_some, true_and, and_true, ↓reduceIte, Nat.reduceEqDiff, reduceCtorEq, pick_or, pick_and, pick_or', pick_and', Bool.not_not, ite_bool, dlV_cell, cells_agg, cells_str, cells_int, cells_bool, cells_sim, cells_snil, List.getD_cons_zero, List.getD_cons_succ, beq_tt, beq_ft, ite_same, imp_true, lookOk, lookRes, sfOf, sgOf, hOk, hRes, hOut, aimP_q, one_int, one_bool, one_str, one_sim, one_snil, one_fn, Int.toNat_natCast, Nat.zero_add, Int.toNat_zero, natCast_fold, Int.ofNat_eq_natCast, isB_bool, beq_self_eq_true, dIsAgg_agg, bel_d, bel7_d, bel_aggd, List.all_cons, List.all_nil, Bool.and_self, Bool.and_true, Bool.true_and, dlV_enc, enc_cells, lst_encO, isSl_encO, one_encO, lst_encS, isSl_encS, one_encS, isAgg_enc, toV_enc, isV_enc, toVs_enc, isVs_enc, toSs_enc, isSs_enc, e88, e41, e89, e25, e90, e36, e1]
    have hn : ¬ (m : Int) < v.names.length := by omega
    simp [hlt, hn, - List.getD_eq_getElem?_getD]
    clear hlt w3 hn
    refine loop_rule (kend := fun I => kEndF I Tb [.tmp 2]) hI hF (sfOk (.cons ok88 (.cons ok41 (.cons ok89 (.cons ok25 (.cons ok90 (.cons ok36 .nil))))))) TbOk (by exact fun Bk e s h => endF TbOk Bk e s h) (lv := lv69) 2 (fun i : {i : Nat // 1 ≤ i ∧ i ≤ v.items.length + 1 ∧ (v.k = 11 → ∀ j, 1 ≤ j → j < i → j < v.items.length → cmpV (v.items.getD (j - 1) default) (v.items.getD j default) ≤ 0)} => [.loc 0 6 0 0, .d (.int .i64 v.k), .d (.int .i64 (i.1 : Int))]) (fun i : {i : Nat // 1 ≤ i ∧ i ≤ v.items.length + 1 ∧ (v.k = 11 → ∀ j, 1 ≤ j → j < i → j < v.items.length → cmpV (v.items.getD (j - 1) default) (v.items.getD j default) ≤ 0)} => [(0, some ⟨[.d v.enc], 6, 25, true, true⟩)]) (fun i : {i : Nat // 1 ≤ i ∧ i ≤ v.items.length + 1 ∧ (v.k = 11 → ∀ j, 1 ≤ j → j < i → j < v.items.length → cmpV (v.items.getD (j - 1) default) (v.items.getD j default) ≤ 0)} => v.items.length + 1 - i.1) [0] (⟨1, by omega, by omega, fun _ j a b => by omega⟩ : {i : Nat // 1 ≤ i ∧ i ≤ v.items.length + 1 ∧ (v.k = 11 → ∀ j, 1 ≤ j → j < i → j < v.items.length → cmpV (v.items.getD (j - 1) default) (v.items.getD j default) ≤ 0)}) (by rfl) (by rfl) ?_ ?_ fun i => ?_
    · rfl
    · rfl
    obtain ⟨q, hq1, hq2, hq3⟩ := i
    refine boxed fun C hC => ?_
    generalize hgen0 : v.enc = gen0
    generalize hgen1 : DV.int .i64 v.k = gen1
    generalize hgen2 : DV.int .i64 (q : Int) = gen2
    cbv
    subst hgen0
    subst hgen1
    subst hgen2
    subst hC
    refine ⟨?_⟩
    simp only [hI, hF, std]
    have w3 := wrap_succ (n := q) (by omega)
    have w2 := wrap_pred hq1 (by omega)
    by_cases hlt : q < v.items.length ∧ v.k = 11
    · have hp : q - 1 < v.items.length := by omega
      have g1 := get_enc _ _ hlt.1
      have g2 := get_enc _ _ hp
      have k1 := V.ok_get hv hlt.1
      have k2 := V.ok_get hv hp
      simp only [ib_add, ib_sub, ib_mul, ib_eql, ib_neq, ib_lss, ib_leq, ib_gtr, ib_geq, sb_eql, sb_neq, sb_lss, sb_gtr, eqI_eq, ltI_eq, leI_eq, eqB_eq, isIK_int, isIK_ite, isStrD_ite, asInt_ite, sat_req, sat_ite, sat_ret, sat_back, aimF_q, aimR_q, into_q, into_bk, binV_add, binV_sub, binV_mul, binV_eql, binV_neq, binV_lss, binV_leq, binV_gtr, binV_geq, binV_seql, binV_sneq, bbinV_eql, bbinV_neq, unV_not, unV_neg, convV_int, asBool_ite, isBoolD_ite, isBUD_ite, grdD_ite, grdD_bool, grdD_tup, isBUD_tup, isBUD_bool, isBoolD_tup, isBoolD_bool, asBool_tup, asBool_bool, isIntD_int, isStrD_str, asInt_int, asStr_str, lstD_sim, lstD_snil, isSlD_sim, isSlD_snil, isSnil_sim, isSnil_snil, Option.isSome_some, Option.getD_some, true_and, and_true, ↓reduceIte, Nat.reduceEqDiff, reduceCtorEq, pick_or, pick_and, pick_or', pick_and', Bool.not_not, ite_bool, dlV_cell, cells_agg, cells_str, cells_int, cells_bool, cells_sim, cells_snil, List.getD_cons_zero, List.getD_cons_succ, beq_tt, beq_ft, ite_same, imp_true, lookOk, lookRes, sfOf, sgOf, hOk, hRes, hOut, aimP_q, one_int, one_bool, one_str, one_sim, one_snil, one_fn, Int.toNat_natCast, Nat.zero_add, Int.toNat_zero, natCast_fold, Int.ofNat_eq_natCast, isB_bool, beq_self_eq_true, dIsAgg_agg, bel_d, bel7_d, bel_aggd, List.all_cons, List.all_nil, Bool.and_self, Bool.and_true, Bool.true_and, dlV_enc, enc_cells, lst_encO, isSl_encO, one_encO, lst_encS, isSl_encS, one_encS, isAgg_enc, toV_enc, isV_enc, toVs_enc, isVs_enc, toSs_enc, isSs_enc, e88, e41, e89, e25, e90, e36, e3, w2, g1, g2]
      simp [hlt, w3, - List.getD_eq_getElem?_getD, k1, k2, dlV_enc, enc_cells, lst_encO, isSl_encO, one_encO, lst_encS, isSl_encS, one_encS, isAgg_enc, toV_enc, isV_enc, toVs_enc, isVs_enc, toSs_enc, isSs_enc]
      refine ⟨hp, fun h => (o3 hnames hdbl ⟨hlt.2, (sortedOk_f _).2 fun hs => ?_⟩).symm, fun h => ⟨q + 1, by omega, ⟨by omega, by omega, fun j a b c => ?_⟩, by simp⟩⟩
      · have := hs q hq1 hlt.1; omega
      · by_cases hj : j = q
        · subst hj; exact h
        · exact hq3 hlt.2 j a (by omega) c
    · simp only [ib_add, ib_sub, ib_mul, ib_eql, ib_neq, ib_lss, ib_leq, ib_gtr, ib_geq, sb_eql, sb_neq, sb_lss, sb_gtr, eqI_eq, ltI_eq, leI_eq, eqB_eq, isIK_int, isIK_ite, isStrD_ite, asInt_ite, sat_req, sat_ite, sat_ret, sat_back, aimF_q, aimR_q, into_q, into_bk, binV_add, binV_sub, binV_mul, binV_eql, binV_neq, binV_lss, binV_leq, binV_gtr, binV_geq, binV_seql, binV_sneq, bbinV_eql, bbinV_neq, unV_not, unV_neg, convV_int, asBool_ite, isBoolD_ite, isBUD_ite, grdD_ite, grdD_bool, grdD_tup, isBUD_tup, isBUD_bool, isBoolD_tup, isBoolD_bool, asBool_tup, asBool_bool, isIntD_int, isStrD_str, asInt_int, asStr_str, lstD_sim, lstD_snil, isSlD_sim, isSlD_snil, isSnil_sim, isSnil_snil, Option.isSome_some, Option.getD_some, true_and, and_true, ↓reduceIte, Nat.reduceEqDiff, reduceCtorEq, pick_or, pick_and, pick_or', pick_and', Bool.not_not, ite_bool, dlV_cell, cells_agg, cells_str, cells_int, cells_bool, cells_sim, cells_snil, List.getD_cons_zero, List.getD_cons_succ, beq_tt, beq_ft, ite_same, imp_true, lookOk, lookRes, sfOf, sgOf, hOk, hRes, hOut, aimP_q, one_int, one_bool, one_str, one_sim, one_snil, one_fn, Int.toNat_natCast, Nat.zero_add, Int.toNat_zero, natCast_fold, Int.ofNat_eq_natCast, isB_bool, beq_self_eq_true, dIsAgg_agg, bel_d, bel7_d, bel_aggd, List.all_cons, List.all_nil, Bool.and_self, Bool.and_true, Bool.true_and, dlV_enc, enc_cells, lst_encO, isSl_encO, one_encO, lst_encS, isSl_encS, one_encS, isAgg_enc, toV_enc, isV_enc, toVs_enc, isVs_enc, toSs_enc, isSs_enc, e88, e41, e89, e25, e90, e36, e3]
      have hn : ¬ ((q : Int) < v.items.length ∧ v.k = 11) := by omega
      simp [- List.getD_eq_getElem?_getD]
      refine ⟨fun a b => absurd ⟨a, b⟩ hlt, fun _ => (o4 hnames hdbl fun hc => ?_).symm⟩
      have hle : ¬ q < v.items.length := fun h => hlt ⟨h, hc.1⟩
      exact (sortedOk_f _).1 hc.2 fun j a b => hq3 hc.1 j a (by omega) b
  simp only [dlV_enc, enc_cells, lst_encO, isSl_encO, one_encO, lst_encS, isSl_encS, one_encS, isAgg_enc, toV_enc, isV_enc, toVs_enc, isVs_enc, toSs_enc, isSs_enc, hv, e1, e3, decide_true]
  by_cases c1 : ¬ ((1 ≤ v.k ∧ v.k ≤ 6) ∨ (9 ≤ v.k ∧ v.k ≤ 12) ∨ v.k = 14)
  · have hE : ownE v = 4 := by unfold ownE; rw [if_pos c1]
    have q1 : (decide (1 ≤ v.k) && decide (v.k ≤ 6)) = false := by simp; omega
    have q2 : (decide (9 ≤ v.k) && decide (v.k ≤ 12)) = false := by simp; omega
    have q3 : ¬ v.k = 14 := by omega
    simp [q1, q2, q3, hE]
  have hk : v.k = 1 ∨ v.k = 2 ∨ v.k = 3 ∨ v.k = 4 ∨ v.k = 5 ∨ v.k = 6 ∨ v.k = 9 ∨ v.k = 10 ∨ v.k = 11 ∨ v.k = 12 ∨ v.k = 14 := by omega
  have hE : ownE v = ownE v := rfl
  conv at hE => rhs; unfold ownE
  rw [if_neg c1] at hE
  have gd : (¬ (v.e ≠ 0 ∨ (¬(v.k = 1 ∨ v.k = 2 ∨ v.k = 14) ∧ v.n ≠ 0) ∨ (¬(3 ≤ v.k ∧ v.k ≤ 6) ∧ v.s ≠ ⟨#[]⟩) ∨ (¬(v.k = 9 ∨ v.k = 12) ∧ v.names ≠ []) ∨ (¬(9 ≤ v.k ∧ v.k ≤ 12) ∧ v.items ≠ []))) →
    ¬ ((v.k = 1 ∧ ¬(0 ≤ v.n ∧ v.n ≤ 1)) ∨ (v.k = 14 ∧ ¬(0 ≤ v.n ∧ v.n ≤ 4))) →
    ¬ (((v.k = 9 ∨ v.k = 12) ∧ (v.names.length : Int) ≠ v.items.length) ∨ (v.k = 12 ∧ (v.items.length : Int) ≠ 1)) →
    ¬ ((v.s.size : Int) > 200 ∨ (v.k = 9 ∧ (v.items.length : Int) > 16) ∨ (v.items.length : Int) > 40) →
    ¬ ((v.k = 2 ∧ ¬(-1152921504606846976 ≤ v.n ∧ v.n ≤ 1152921504606846976)) ∨ charsOk v = false) →
    ¬ (v.k = 3 ∧ nameOk v.s = false) → L := fun a b c d e f => loops ⟨Classical.not_not.1 c1, a, b, c, d, e, f⟩
  clear loops hL
  rcases hk with h | h | h | h | h | h | h | h | h | h | h
  all_goals simp [h] at hE gd
  all_goals simp [h]
  all_goals clear hI hF hv c1 e1 e3
  all_goals have ln : 0 < v.names.length ↔ ¬ v.names = [] := List.length_pos_iff
  all_goals have li : 0 < v.items.length ↔ ¬ v.items = [] := List.length_pos_iff
  all_goals try simp only [ln, li]
  all_goals clear ln li
  all_goals grind
open Classical in
noncomputable def e69 : Ent := ⟨69, fun | [d_v] => decide (isV d_v) | _ => false, fun | [d_v] => .int .i64 (ownE (toV d_v)) | _ => .inil⟩
open Classical in
theorem ok69 : EntOk Tryz.prog [0] e69 := fun ds h => by
  unfold e69 at h ⊢
  simp only at h ⊢
  split at h
  · rw [decide_eq_true_iff] at h
    obtain ⟨v0, rfl, k0⟩ := h
    simp only [toV_enc, toVs_enc, toSs_enc]
    exact pc69 _ k0
  · cases h
end Go.Proofs.Sx
