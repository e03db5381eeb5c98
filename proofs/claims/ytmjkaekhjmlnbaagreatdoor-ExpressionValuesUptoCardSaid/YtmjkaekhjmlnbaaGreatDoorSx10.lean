/- The first error of a value and of those within it. -/
import Derived.Test.YtmjkaekhjmlnbaaGreatDoorSx9
import Derived.Test.YtmjkaekhjmlnbaaGreatDoorSxBase
import Derived.Test.YtmjkaekhjmlnbaaGreatDoorAmPtr
set_option linter.unusedVariables false
set_option linter.unusedSimpArgs false
set_option maxRecDepth 100000
namespace Go.Proofs.Sx
open Go Go.Proofs Go.Proofs.Am 
variable {gs : List Nat}

open Classical in
noncomputable def e47 : Ent := ⟨47, fun | [d_v] => decide (isV d_v) | _ => false, fun | [d_v] => .int .i64 (ownE (toV d_v)) | _ => .inil⟩
open Classical in
theorem ok47 : EntOk Tryz.prog [0] e47 := fun ds h => by
  unfold e47 at h ⊢
  simp only at h ⊢
  split at h
  · rw [decide_eq_true_iff] at h
    obtain ⟨v0, rfl, k0⟩ := h
    simp only [toV_enc, toVs_enc, toSs_enc]
    exact pc47 _ k0
  · cases h
mutual
noncomputable def plainE : V → Int
  | .mk k n e s nm it => if ownE (.mk k n e s nm it) ≠ 0 then ownE (.mk k n e s nm it) else plainO it
noncomputable def plainO : Option (List V) → Int
  | none => 0
  | some l => plainL l
noncomputable def plainL : List V → Int
  | [] => 0
  | v :: r => if plainE v ≠ 0 then plainE v else plainL r
end
theorem plainO_eq (o : Option (List V)) : plainO o = plainL (o.getD []) := by cases o <;> rw [plainO] <;> simp [plainL]
theorem plainE_eq (v : V) : plainE v = if ownE v ≠ 0 then ownE v else plainL v.items := by
  cases v; rw [plainE, plainO_eq]; rfl
theorem plainL_step (l : List V) (i : Nat) (h : i < l.length) : plainL (l.drop i) = if plainE (l.getD i default) ≠ 0 then plainE (l.getD i default) else plainL (l.drop (i + 1)) := by
  rw [List.drop_eq_getElem_cons h, plainL]
  simp [List.getD, h]
open Classical in
/-- A function of shorter values. -/
noncomputable def eVn (f : Nat) (r : V → DV) (n : Nat) : Ent := ⟨f, fun | [a] => decide (isV a ∧ (toV a).sz < n) | _ => false, fun | [a] => r (toV a) | _ => .inil⟩
open Classical in
theorem okVn {f n : Nat} {r : V → DV} (h : ∀ v : V, v.ok → v.sz < n → PureCall Tryz.prog [0] f [v.enc] (dRet (r v))) : EntOk Tryz.prog [0] (eVn f r n) := fun ds hk => by
  unfold eVn at hk ⊢
  simp only at hk ⊢
  split at hk
  · rw [decide_eq_true_iff] at hk
    obtain ⟨⟨v, rfl, h1⟩, h3⟩ := hk
    simp only [toV_enc] at h3 ⊢
    exact h v h1 h3
  · cases hk
def lv28 : Nat → List Nat × List Nat
  | 5 => ([1, 13, 14, 15], [0])
  | _ => ([], [])
theorem pc28n : ∀ (n : Nat) (v : V), v.ok → v.sz < n → PureCall Tryz.prog [0] 28 [v.enc] (dRet (.int .i64 (plainE v)))
  | 0, v, _, h => by omega
  | n + 1, v, hv, hn => by
    have ok28' := okVn (r := fun v => .int .i64 (plainE v)) (pc28n n)
    refine pure_of_tree mixed fn28 (Nat.le_of_ble_eq_true rfl) (Nat.lt_of_succ_le (Nat.le_of_ble_eq_true rfl)) (sfOk (.cons ok47 (.cons ok28' .nil))) TbOk (lv := lv28) fun I F hI hF => ?_
    refine boxed fun C hC => ?_
    generalize hgen0 : v.enc = gen0
    cbv
    subst hgen0
    subst hC
    refine ⟨?_⟩
    simp only [hI, hF, std]
    have e3 : v.it.getD [] = v.items := rfl
    have il := V.ok_il hv
    have hE := plainE_eq v
    simp only [ib_add, ib_sub, ib_mul, ib_eql, ib_neq, ib_lss, ib_leq, ib_gtr, ib_geq, sb_eql, sb_neq, sb_lss, sb_gtr, eqI_eq, ltI_eq, leI_eq, eqB_eq, isIK_int, isIK_ite, isStrD_ite, asInt_ite, sat_req, sat_ite, sat_ret, sat_back, aimF_q, aimR_q, into_q, into_bk, binV_add, binV_sub, binV_mul, binV_eql, binV_neq, binV_lss, binV_leq, binV_gtr, binV_geq, binV_seql, binV_sneq, bbinV_eql, bbinV_neq, unV_not, unV_neg, convV_int, asBool_ite, isBoolD_ite, isBUD_ite, grdD_ite, grdD_bool, grdD_tup, isBUD_tup, isBUD_bool, isBoolD_tup, isBoolD_bool, asBool_tup, asBool_bool, isIntD_int, isStrD_str, asInt_int, asStr_str, lstD_sim, lstD_snil, isSlD_sim, isSlD_snil, isSnil_sim, isSnil_snil, Option.isSome_some, Option.getD_some, true_and, and_true, ↓reduceIte, Nat.reduceEqDiff, reduceCtorEq, pick_or, pick_and, pick_or', pick_and', Bool.not_not, ite_bool, dlV_cell, cells_agg, cells_str, cells_int, cells_bool, cells_sim, cells_snil, List.getD_cons_zero, List.getD_cons_succ, beq_tt, beq_ft, ite_same, imp_true, lookOk, lookRes, sfOf, sgOf, hOk, hRes, hOut, aimP_q, one_int, one_bool, one_str, one_sim, one_snil, one_fn, Int.toNat_natCast, Nat.zero_add, Int.toNat_zero, natCast_fold, Int.ofNat_eq_natCast, isB_bool, beq_self_eq_true, dIsAgg_agg, bel_d, bel7_d, bel_aggd, List.all_cons, List.all_nil, Bool.and_self, Bool.and_true, Bool.true_and, dlV_enc, enc_cells, lst_encO, isSl_encO, one_encO, lst_encS, isSl_encS, one_encS, isAgg_enc, toV_enc, isV_enc, toVs_enc, isVs_enc, toSs_enc, isSs_enc, e47, eVn, e3]
    simp [hv, dlV_enc, enc_cells, lst_encO, isSl_encO, one_encO, lst_encS, isSl_encS, one_encS, isAgg_enc, toV_enc, isV_enc, toVs_enc, isVs_enc, toSs_enc, isSs_enc]
    refine ⟨fun h => ?_, fun h => ?_⟩
    · rw [hE, if_pos h]
    rw [if_neg (fun hc => hc h)] at hE
    refine loop_rule (kend := fun I => kEndF I Tb [.tmp 2]) hI hF (sfOk (.cons ok47 (.cons ok28' .nil))) TbOk (by exact fun Bk e s h => endF TbOk Bk e s h) (lv := lv28) 0 (fun i : {i : Nat // i ≤ v.items.length ∧ plainL v.items = plainL (v.items.drop i)} => [.loc 0 6 0 0, .d (encO v.it), .d (.int .i64 (v.items.length : Int)), .d (.int .i64 (i.1 : Int))]) (fun i : {i : Nat // i ≤ v.items.length ∧ plainL v.items = plainL (v.items.drop i)} => [(0, some ⟨[.d v.enc], 6, 25, true, true⟩)]) (fun i : {i : Nat // i ≤ v.items.length ∧ plainL v.items = plainL (v.items.drop i)} => v.items.length - i.1) [0] (⟨0, by omega, by simp⟩ : {i : Nat // i ≤ v.items.length ∧ plainL v.items = plainL (v.items.drop i)}) (by rfl) (by rfl) ?_ ?_ fun i => ?_
    · rfl
    · rfl
    obtain ⟨i, hi1, hi2⟩ := i
    refine boxed fun C hC => ?_
    generalize hgen0 : v.enc = gen0
    generalize hgen1 : encO v.it = gen1
    generalize hgen2 : DV.int .i64 (v.items.length : Int) = gen2
    generalize hgen3 : DV.int .i64 (i : Int) = gen3
    cbv
    subst hgen0
    subst hgen1
    subst hgen2
    subst hgen3
    subst hC
    refine ⟨?_⟩
    simp only [hI, hF, std]
    have w3 := wrap_succ (n := i) (by omega)
    by_cases hlt : i < v.items.length
    · have g1 := get_enc _ _ hlt
      have k1 := V.ok_get hv hlt
      have k2 := V.sz_get hlt
      have k3 : (v.items.getD i default).sz < n := by omega
      have hs := plainL_step v.items i hlt
      simp only [ib_add, ib_sub, ib_mul, ib_eql, ib_neq, ib_lss, ib_leq, ib_gtr, ib_geq, sb_eql, sb_neq, sb_lss, sb_gtr, eqI_eq, ltI_eq, leI_eq, eqB_eq, isIK_int, isIK_ite, isStrD_ite, asInt_ite, sat_req, sat_ite, sat_ret, sat_back, aimF_q, aimR_q, into_q, into_bk, binV_add, binV_sub, binV_mul, binV_eql, binV_neq, binV_lss, binV_leq, binV_gtr, binV_geq, binV_seql, binV_sneq, bbinV_eql, bbinV_neq, unV_not, unV_neg, convV_int, asBool_ite, isBoolD_ite, isBUD_ite, grdD_ite, grdD_bool, grdD_tup, isBUD_tup, isBUD_bool, isBoolD_tup, isBoolD_bool, asBool_tup, asBool_bool, isIntD_int, isStrD_str, asInt_int, asStr_str, lstD_sim, lstD_snil, isSlD_sim, isSlD_snil, isSnil_sim, isSnil_snil, Option.isSome_some, Option.getD_some, true_and, and_true, ↓reduceIte, Nat.reduceEqDiff, reduceCtorEq, pick_or, pick_and, pick_or', pick_and', Bool.not_not, ite_bool, dlV_cell, cells_agg, cells_str, cells_int, cells_bool, cells_sim, cells_snil, List.getD_cons_zero, List.getD_cons_succ, beq_tt, beq_ft, ite_same, imp_true, lookOk, lookRes, sfOf, sgOf, hOk, hRes, hOut, aimP_q, one_int, one_bool, one_str, one_sim, one_snil, one_fn, Int.toNat_natCast, Nat.zero_add, Int.toNat_zero, natCast_fold, Int.ofNat_eq_natCast, isB_bool, beq_self_eq_true, dIsAgg_agg, bel_d, bel7_d, bel_aggd, List.all_cons, List.all_nil, Bool.and_self, Bool.and_true, Bool.true_and, dlV_enc, enc_cells, lst_encO, isSl_encO, one_encO, lst_encS, isSl_encS, one_encS, isAgg_enc, toV_enc, isV_enc, toVs_enc, isVs_enc, toSs_enc, isSs_enc, e47, eVn, e3, g1]
      simp [hlt, w3, - List.getD_eq_getElem?_getD, k1, k3, dlV_enc, enc_cells, lst_encO, isSl_encO, one_encO, lst_encS, isSl_encS, one_encS, isAgg_enc, toV_enc, isV_enc, toVs_enc, isVs_enc, toSs_enc, isSs_enc]
      refine ⟨fun h => ?_, fun h => ⟨i + 1, by omega, ⟨by omega, ?_⟩, by simp⟩⟩
      · rw [hE, hi2, hs, if_pos h]
      · rw [hi2, hs, if_neg (fun hc => hc h)]
    · have hs : v.items.drop i = [] := List.drop_eq_nil_of_le (by omega)
      simp only [ib_add, ib_sub, ib_mul, ib_eql, ib_neq, ib_lss, ib_leq, ib_gtr, ib_geq, sb_eql, sb_neq, sb_lss, sb_gtr, eqI_eq, ltI_eq, leI_eq, eqB_eq, isIK_int, isIK_ite, isStrD_ite, asInt_ite, sat_req, sat_ite, sat_ret, sat_back, aimF_q, aimR_q, into_q, into_bk, binV_add, binV_sub, binV_mul, binV_eql, binV_neq, binV_lss, binV_leq, binV_gtr, binV_geq, binV_seql, binV_sneq, bbinV_eql, bbinV_neq, unV_not, unV_neg, convV_int, asBool_ite, isBoolD_ite, isBUD_ite, grdD_ite, grdD_bool, grdD_tup, isBUD_tup, isBUD_bool, isBoolD_tup, isBoolD_bool, asBool_tup, asBool_bool, isIntD_int, isStrD_str, asInt_int, asStr_str, lstD_sim, lstD_snil, isSlD_sim, isSlD_snil, isSnil_sim, isSnil_snil, Option.isSome_some, Option.getD_some, true_and, and_true, ↓reduceIte, Nat.reduceEqDiff, reduceCtorEq, pick_or, pick_and, pick_or', pick_and', Bool.not_not, ite_bool, dlV_cell, cells_agg, cells_str, cells_int, cells_bool, cells_sim, cells_snil, List.getD_cons_zero, List.getD_cons_succ, beq_tt, beq_ft, ite_same, imp_true, lookOk, lookRes, sfOf, sgOf, hOk, hRes, hOut, aimP_q, one_int, one_bool, one_str, one_sim, one_snil, one_fn, Int.toNat_natCast, Nat.zero_add, Int.toNat_zero, natCast_fold, Int.ofNat_eq_natCast, isB_bool, beq_self_eq_true, dIsAgg_agg, bel_d, bel7_d, bel_aggd, List.all_cons, List.all_nil, Bool.and_self, Bool.and_true, Bool.true_and, dlV_enc, enc_cells, lst_encO, isSl_encO, one_encO, lst_encS, isSl_encS, one_encS, isAgg_enc, toV_enc, isV_enc, toVs_enc, isVs_enc, toSs_enc, isSs_enc, e47, eVn, e3]
      simp [hlt, hE, hi2, hs, plainL]
theorem pc28 (v : V) (hv : v.ok) : PureCall Tryz.prog [0] 28 [v.enc] (dRet (.int .i64 (plainE v))) := pc28n (v.sz + 1) v hv (by omega)
open Classical in
noncomputable def e28 : Ent := ⟨28, fun | [d_v] => decide (isV d_v) | _ => false, fun | [d_v] => .int .i64 (plainE (toV d_v)) | _ => .inil⟩
open Classical in
theorem ok28 : EntOk Tryz.prog [0] e28 := fun ds h => by
  unfold e28 at h ⊢
  simp only at h ⊢
  split at h
  · rw [decide_eq_true_iff] at h
    obtain ⟨v0, rfl, k0⟩ := h
    simp only [toV_enc, toVs_enc, toSs_enc]
    exact pc28 _ k0
  · cases h
def lv49 : Nat → List Nat × List Nat
  | 5 => ([1, 4], [0])
  | _ => ([], [])
theorem pc49n : ∀ (n : Nat) (v : V), v.ok → v.sz < n → PureCall Tryz.prog [0] 49 [v.enc] (dRet (.int .i64 (plainE v)))
  | 0, v, _, h => by omega
  | n + 1, v, hv, hn => by
    have ok49' := okVn (r := fun v => .int .i64 (plainE v)) (pc49n n)
    refine pure_of_tree mixed fn49 (Nat.le_of_ble_eq_true rfl) (Nat.lt_of_succ_le (Nat.le_of_ble_eq_true rfl)) (sfOk (.cons ok69 (.cons ok49' .nil))) TbOk (lv := lv49) fun I F hI hF => ?_
    refine boxed fun C hC => ?_
    generalize hgen0 : v.enc = gen0
    cbv
    subst hgen0
    subst hC
    refine ⟨?_⟩
    simp only [hI, hF, std]
    have e3 : v.it.getD [] = v.items := rfl
    have il := V.ok_il hv
    have hE := plainE_eq v
    simp only [ib_add, ib_sub, ib_mul, ib_eql, ib_neq, ib_lss, ib_leq, ib_gtr, ib_geq, sb_eql, sb_neq, sb_lss, sb_gtr, eqI_eq, ltI_eq, leI_eq, eqB_eq, isIK_int, isIK_ite, isStrD_ite, asInt_ite, sat_req, sat_ite, sat_ret, sat_back, aimF_q, aimR_q, into_q, into_bk, binV_add, binV_sub, binV_mul, binV_eql, binV_neq, binV_lss, binV_leq, binV_gtr, binV_geq, binV_seql, binV_sneq, bbinV_eql, bbinV_neq, unV_not, unV_neg, convV_int, asBool_ite, isBoolD_ite, isBUD_ite, grdD_ite, grdD_bool, grdD_tup, isBUD_tup, isBUD_bool, isBoolD_tup, isBoolD_bool, asBool_tup, asBool_bool, isIntD_int, isStrD_str, asInt_int, asStr_str, lstD_sim, lstD_snil, isSlD_sim, isSlD_snil, isSnil_sim, isSnil_snil, Option.isSome_some, Option.getD_some, true_and, and_true, ↓reduceIte, Nat.reduceEqDiff, reduceCtorEq, pick_or, pick_and, pick_or', pick_and', Bool.not_not, ite_bool, dlV_cell, cells_agg, cells_str, cells_int, cells_bool, cells_sim, cells_snil, List.getD_cons_zero, List.getD_cons_succ, beq_tt, beq_ft, ite_same, imp_true, lookOk, lookRes, sfOf, sgOf, hOk, hRes, hOut, aimP_q, one_int, one_bool, one_str, one_sim, one_snil, one_fn, Int.toNat_natCast, Nat.zero_add, Int.toNat_zero, natCast_fold, Int.ofNat_eq_natCast, isB_bool, beq_self_eq_true, dIsAgg_agg, bel_d, bel7_d, bel_aggd, List.all_cons, List.all_nil, Bool.and_self, Bool.and_true, Bool.true_and, dlV_enc, enc_cells, lst_encO, isSl_encO, one_encO, lst_encS, isSl_encS, one_encS, isAgg_enc, toV_enc, isV_enc, toVs_enc, isVs_enc, toSs_enc, isSs_enc, e69, eVn, e3]
    simp [hv, dlV_enc, enc_cells, lst_encO, isSl_encO, one_encO, lst_encS, isSl_encS, one_encS, isAgg_enc, toV_enc, isV_enc, toVs_enc, isVs_enc, toSs_enc, isSs_enc]
    refine ⟨fun h => ?_, fun h => ?_⟩
    · rw [hE, if_pos h]
    rw [if_neg (fun hc => hc h)] at hE
    refine loop_rule (kend := fun I => kEndF I Tb [.tmp 2]) hI hF (sfOk (.cons ok69 (.cons ok49' .nil))) TbOk (by exact fun Bk e s h => endF TbOk Bk e s h) (lv := lv49) 0 (fun i : {i : Nat // i ≤ v.items.length ∧ plainL v.items = plainL (v.items.drop i)} => [.loc 0 6 0 0, .d (.int .i64 (i.1 : Int))]) (fun i : {i : Nat // i ≤ v.items.length ∧ plainL v.items = plainL (v.items.drop i)} => [(0, some ⟨[.d v.enc], 6, 25, true, true⟩)]) (fun i : {i : Nat // i ≤ v.items.length ∧ plainL v.items = plainL (v.items.drop i)} => v.items.length - i.1) [0] (⟨0, by omega, by simp⟩ : {i : Nat // i ≤ v.items.length ∧ plainL v.items = plainL (v.items.drop i)}) (by rfl) (by rfl) ?_ ?_ fun i => ?_
    · rfl
    · rfl
    obtain ⟨i, hi1, hi2⟩ := i
    refine boxed fun C hC => ?_
    generalize hgen0 : v.enc = gen0
    generalize hgen1 : DV.int .i64 (i : Int) = gen1
    cbv
    subst hgen0
    subst hgen1
    subst hC
    refine ⟨?_⟩
    simp only [hI, hF, std]
    have w3 := wrap_succ (n := i) (by omega)
    by_cases hlt : i < v.items.length
    · have g1 := get_enc _ _ hlt
      have k1 := V.ok_get hv hlt
      have k2 := V.sz_get hlt
      have k3 : (v.items.getD i default).sz < n := by omega
      have hs := plainL_step v.items i hlt
      simp only [ib_add, ib_sub, ib_mul, ib_eql, ib_neq, ib_lss, ib_leq, ib_gtr, ib_geq, sb_eql, sb_neq, sb_lss, sb_gtr, eqI_eq, ltI_eq, leI_eq, eqB_eq, isIK_int, isIK_ite, isStrD_ite, asInt_ite, sat_req, sat_ite, sat_ret, sat_back, aimF_q, aimR_q, into_q, into_bk, binV_add, binV_sub, binV_mul, binV_eql, binV_neq, binV_lss, binV_leq, binV_gtr, binV_geq, binV_seql, binV_sneq, bbinV_eql, bbinV_neq, unV_not, unV_neg, convV_int, asBool_ite, isBoolD_ite, isBUD_ite, grdD_ite, grdD_bool, grdD_tup, isBUD_tup, isBUD_bool, isBoolD_tup, isBoolD_bool, asBool_tup, asBool_bool, isIntD_int, isStrD_str, asInt_int, asStr_str, lstD_sim, lstD_snil, isSlD_sim, isSlD_snil, isSnil_sim, isSnil_snil, Option.isSome_some, Option.getD_some, true_and, and_true, ↓reduceIte, Nat.reduceEqDiff, reduceCtorEq, pick_or, pick_and, pick_or', pick_and', Bool.not_not, ite_bool, dlV_cell, cells_agg, cells_str, cells_int, cells_bool, cells_sim, cells_snil, List.getD_cons_zero, List.getD_cons_succ, beq_tt, beq_ft, ite_same, imp_true, lookOk, lookRes, sfOf, sgOf, hOk, hRes, hOut, aimP_q, one_int, one_bool, one_str, one_sim, one_snil, one_fn, Int.toNat_natCast, Nat.zero_add, Int.toNat_zero, natCast_fold, Int.ofNat_eq_natCast, isB_bool, beq_self_eq_true, dIsAgg_agg, bel_d, bel7_d, bel_aggd, List.all_cons, List.all_nil, Bool.and_self, Bool.and_true, Bool.true_and, dlV_enc, enc_cells, lst_encO, isSl_encO, one_encO, lst_encS, isSl_encS, one_encS, isAgg_enc, toV_enc, isV_enc, toVs_enc, isVs_enc, toSs_enc, isSs_enc, e69, eVn, e3, g1]
      simp [hlt, w3, - List.getD_eq_getElem?_getD, k1, k3, dlV_enc, enc_cells, lst_encO, isSl_encO, one_encO, lst_encS, isSl_encS, one_encS, isAgg_enc, toV_enc, isV_enc, toVs_enc, isVs_enc, toSs_enc, isSs_enc]
      refine ⟨fun h => ?_, fun h => ⟨i + 1, by omega, ⟨by omega, ?_⟩, by simp⟩⟩
      · rw [hE, hi2, hs, if_pos h]
      · rw [hi2, hs, if_neg (fun hc => hc h)]
    · have hs : v.items.drop i = [] := List.drop_eq_nil_of_le (by omega)
      simp only [ib_add, ib_sub, ib_mul, ib_eql, ib_neq, ib_lss, ib_leq, ib_gtr, ib_geq, sb_eql, sb_neq, sb_lss, sb_gtr, eqI_eq, ltI_eq, leI_eq, eqB_eq, isIK_int, isIK_ite, isStrD_ite, asInt_ite, sat_req, sat_ite, sat_ret, sat_back, aimF_q, aimR_q, into_q, into_bk, binV_add, binV_sub, binV_mul, binV_eql, binV_neq, binV_lss, binV_leq, binV_gtr, binV_geq, binV_seql, binV_sneq, bbinV_eql, bbinV_neq, unV_not, unV_neg, convV_int, asBool_ite, isBoolD_ite, isBUD_ite, grdD_ite, grdD_bool, grdD_tup, isBUD_tup, isBUD_bool, isBoolD_tup, isBoolD_bool, asBool_tup, asBool_bool, isIntD_int, isStrD_str, asInt_int, asStr_str, lstD_sim, lstD_snil, isSlD_sim, isSlD_snil, isSnil_sim, isSnil_snil, Option.isSome_some, Option.getD_some, true_and, and_true, ↓reduceIte, Nat.reduceEqDiff, reduceCtorEq, pick_or, pick_and, pick_or', pick_and', Bool.not_not, ite_bool, dlV_cell, cells_agg, cells_str, cells_int, cells_bool, cells_sim, cells_snil, List.getD_cons_zero, List.getD_cons_succ, beq_tt, beq_ft, ite_same, imp_true, lookOk, lookRes, sfOf, sgOf, hOk, hRes, hOut, aimP_q, one_int, one_bool, one_str, one_sim, one_snil, one_fn, Int.toNat_natCast, Nat.zero_add, Int.toNat_zero, natCast_fold, Int.ofNat_eq_natCast, isB_bool, beq_self_eq_true, dIsAgg_agg, bel_d, bel7_d, bel_aggd, List.all_cons, List.all_nil, Bool.and_self, Bool.and_true, Bool.true_and, dlV_enc, enc_cells, lst_encO, isSl_encO, one_encO, lst_encS, isSl_encS, one_encS, isAgg_enc, toV_enc, isV_enc, toVs_enc, isVs_enc, toSs_enc, isSs_enc, e69, eVn, e3]
      simp [hlt, hE, hi2, hs, plainL]
theorem pc49 (v : V) (hv : v.ok) : PureCall Tryz.prog [0] 49 [v.enc] (dRet (.int .i64 (plainE v))) := pc49n (v.sz + 1) v hv (by omega)
open Classical in
noncomputable def e49 : Ent := ⟨49, fun | [d_v] => decide (isV d_v) | _ => false, fun | [d_v] => .int .i64 (plainE (toV d_v)) | _ => .inil⟩
open Classical in
theorem ok49 : EntOk Tryz.prog [0] e49 := fun ds h => by
  unfold e49 at h ⊢
  simp only at h ⊢
  split at h
  · rw [decide_eq_true_iff] at h
    obtain ⟨v0, rfl, k0⟩ := h
    simp only [toV_enc, toVs_enc, toSs_enc]
    exact pc49 _ k0
  · cases h
end Go.Proofs.Sx
