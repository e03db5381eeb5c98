/- Names bound in environments, walked. -/
import Derived.Test.YtmjkaekhjmlnbaaGreatDoorSx14
import Derived.Test.YtmjkaekhjmlnbaaGreatDoorSxBase
import Derived.Test.YtmjkaekhjmlnbaaGreatDoorAmPtr
set_option linter.unusedVariables false
set_option linter.unusedSimpArgs false
set_option maxRecDepth 100000
namespace Go.Proofs.Sx
open Go Go.Proofs Go.Proofs.Am 
variable {gs : List Nat}

theorem dlV_encB (b : B) : dlV 7 true (encB b) 0 = encB b := dlV_whole 7 _ rfl
theorem dlV_encBv (b : B) : dlV 6 true (encB b) 1 = b.v.enc := by rw [enc_eq]; rfl
/-- The first place of a name. -/
def idxB : List B → ByteArray → Int
  | [], _ => -1
  | x :: l, s => if x.nm = s then 0 else if idxB l s < 0 then -1 else idxB l s + 1
theorem idxB_none : ∀ {l : List B} {s : ByteArray}, (∀ i, i < l.length → (l.getD i default).nm ≠ s) → idxB l s = -1
  | [], s, _ => rfl
  | x :: l, s, h => by
    have h0 := h 0 (by simp)
    have ih := idxB_none (l := l) (s := s) fun i hi => h (i + 1) (by simpa using hi)
    simp only [idxB]
    rw [if_neg (by simpa using h0), ih, if_pos (by omega)]
theorem idxB_some : ∀ {l : List B} {s : ByteArray} {i : Nat}, i < l.length → (l.getD i default).nm = s → (∀ j, j < i → (l.getD j default).nm ≠ s) → idxB l s = i
  | x :: l, s, 0, h, h1, h2 => by
    simp only [idxB]; rw [if_pos (by simpa using h1)]; rfl
  | x :: l, s, i + 1, h, h1, h2 => by
    have h0 := h2 0 (by omega)
    have ih := idxB_some (l := l) (s := s) (i := i) (by simpa using h) (by simpa using h1) fun j hj => h2 (j + 1) (by omega)
    simp only [idxB]
    rw [if_neg (by simpa using h0), ih, if_neg (by omega)]; simp
def lv45 : Nat → List Nat × List Nat
  | 2 => ([0, 1, 5], [])
  | _ => ([], [])
theorem pc45 (o : Option (List B)) (s : ByteArray) (ho : okBs o) : PureCall Tryz.prog [0] 45 [encBs o, .str s] (dRet (.int .i64 (idxB (o.getD []) s))) := by
  have hl := okBs_len ho
  refine pure_of_tree mixed fn45 (Nat.le_of_ble_eq_true rfl) (Nat.lt_of_succ_le (Nat.le_of_ble_eq_true rfl)) (sfOk .nil) TbOk (lv := lv45) fun I F hI hF => ?_
  refine boxed fun C hC => ?_
  generalize hgen0 : encBs o = gen0
  generalize hgen1 : DV.str s = gen1
  cbv
  subst hgen0
  subst hgen1
  subst hC
  refine ⟨?_⟩
  simp only [hI, hF, std]
  simp only [ib_add, ib_sub, ib_mul, ib_eql, ib_neq, ib_lss, ib_leq, ib_gtr, ib_geq, sb_eql, sb_neq, sb_lss, sb_gtr, eqI_eq, ltI_eq, leI_eq, eqB_eq, isIK_int, isIK_ite, isStrD_ite, asInt_ite, sat_req, sat_ite, sat_ret, sat_back, aimF_q, aimR_q, into_q, into_bk, binV_add, binV_sub, binV_mul, binV_eql, binV_neq, binV_lss, binV_leq, binV_gtr, binV_geq, binV_seql, binV_sneq, bbinV_eql, bbinV_neq, unV_not, unV_neg, convV_int, asBool_ite, isBoolD_ite, isBUD_ite, grdD_ite, grdD_bool, grdD_tup, isBUD_tup, isBUD_bool, isBoolD_tup, isBoolD_bool, asBool_tup, asBool_bool, isIntD_int, isStrD_str, asInt_int, asStr_str, lstD_sim, lstD_snil, isSlD_sim, isSlD_snil, isSnil_sim, isSnil_snil, Option.isSome_some, Option.getD_some, true_and, and_true, ↓reduceIte, Nat.reduceEqDiff, reduceCtorEq, pick_or, pick_and, pick_or', pick_and', Bool.not_not, ite_bool, dlV_cell, cells_agg, cells_str, cells_int, cells_bool, cells_sim, cells_snil, List.getD_cons_zero, List.getD_cons_succ, beq_tt, beq_ft, ite_same, imp_true, lookOk, lookRes, sfOf, sgOf, hOk, hRes, hOut, aimP_q, one_int, one_bool, one_str, one_sim, one_snil, one_fn, Int.toNat_natCast, Nat.zero_add, Int.toNat_zero, natCast_fold, Int.ofNat_eq_natCast, isB_bool, beq_self_eq_true, dIsAgg_agg, bel_d, bel7_d, bel_aggd, List.all_cons, List.all_nil, Bool.and_self, Bool.and_true, Bool.true_and, dlV_enc, enc_cells, lst_encO, isSl_encO, one_encO, lst_encS, isSl_encS, one_encS, isAgg_enc, toV_enc, isV_enc, toVs_enc, isVs_enc, toSs_enc, isSs_enc]
  refine loop_rule (kend := fun I => kEndF I Tb [.tmp 4]) hI hF (sfOk .nil) TbOk (by exact fun Bk e s h => endF TbOk Bk e s h) (lv := lv45) 0 (fun i : {i : Nat // i ≤ (o.getD []).length ∧ ∀ j, j < i → ((o.getD []).getD j default).nm ≠ s} => [.d (encBs o), .d (.str s), .d (.int .i64 (i.1 : Int))]) (fun i : {i : Nat // i ≤ (o.getD []).length ∧ ∀ j, j < i → ((o.getD []).getD j default).nm ≠ s} => []) (fun i : {i : Nat // i ≤ (o.getD []).length ∧ ∀ j, j < i → ((o.getD []).getD j default).nm ≠ s} => (o.getD []).length - i.1) [] (⟨0, by omega, fun j h => by omega⟩ : {i : Nat // i ≤ (o.getD []).length ∧ ∀ j, j < i → ((o.getD []).getD j default).nm ≠ s}) (by rfl) (by rfl) ?_ ?_ fun i => ?_
  · rfl
  · rfl
  obtain ⟨i, hi1, hi2⟩ := i
  refine boxed fun C hC => ?_
  generalize hgen0 : encBs o = gen0
  generalize hgen1 : DV.str s = gen1
  generalize hgen2 : DV.int .i64 (i : Int) = gen2
  cbv
  subst hgen0
  subst hgen1
  subst hgen2
  subst hC
  refine ⟨?_⟩
  simp only [hI, hF, std]
  have w3 := wrap_succ (n := i) (by omega)
  by_cases hlt : i < (o.getD []).length
  · have g1 := get_encB _ _ hlt
    simp only [ib_add, ib_sub, ib_mul, ib_eql, ib_neq, ib_lss, ib_leq, ib_gtr, ib_geq, sb_eql, sb_neq, sb_lss, sb_gtr, eqI_eq, ltI_eq, leI_eq, eqB_eq, isIK_int, isIK_ite, isStrD_ite, asInt_ite, sat_req, sat_ite, sat_ret, sat_back, aimF_q, aimR_q, into_q, into_bk, binV_add, binV_sub, binV_mul, binV_eql, binV_neq, binV_lss, binV_leq, binV_gtr, binV_geq, binV_seql, binV_sneq, bbinV_eql, bbinV_neq, unV_not, unV_neg, convV_int, asBool_ite, isBoolD_ite, isBUD_ite, grdD_ite, grdD_bool, grdD_tup, isBUD_tup, isBUD_bool, isBoolD_tup, isBoolD_bool, asBool_tup, asBool_bool, isIntD_int, isStrD_str, asInt_int, asStr_str, lstD_sim, lstD_snil, isSlD_sim, isSlD_snil, isSnil_sim, isSnil_snil, Option.isSome_some, Option.getD_some, true_and, and_true, ↓reduceIte, Nat.reduceEqDiff, reduceCtorEq, pick_or, pick_and, pick_or', pick_and', Bool.not_not, ite_bool, dlV_cell, cells_agg, cells_str, cells_int, cells_bool, cells_sim, cells_snil, List.getD_cons_zero, List.getD_cons_succ, beq_tt, beq_ft, ite_same, imp_true, lookOk, lookRes, sfOf, sgOf, hOk, hRes, hOut, aimP_q, one_int, one_bool, one_str, one_sim, one_snil, one_fn, Int.toNat_natCast, Nat.zero_add, Int.toNat_zero, natCast_fold, Int.ofNat_eq_natCast, isB_bool, beq_self_eq_true, dIsAgg_agg, bel_d, bel7_d, bel_aggd, List.all_cons, List.all_nil, Bool.and_self, Bool.and_true, Bool.true_and, dlV_enc, enc_cells, lst_encO, isSl_encO, one_encO, lst_encS, isSl_encS, one_encS, isAgg_enc, toV_enc, isV_enc, toVs_enc, isVs_enc, toSs_enc, isSs_enc, dlV_encB, dlV_encBv, encB_cells, lst_encBs, isSl_encBs, one_encBs, isAgg_encB, toB_enc, isB0_enc, toBs_enc, isBs_enc, agg_enc, g1]
    simp [hlt, w3, - List.getD_eq_getElem?_getD, dlV_encB, dlV_encBv, encB_cells, lst_encBs, isSl_encBs, one_encBs, isAgg_encB, toB_enc, isB0_enc, toBs_enc, isBs_enc, agg_enc]
    refine ⟨fun h => (idxB_some hlt h hi2).symm, fun h => ⟨i + 1, by omega, ⟨by omega, fun j hj => ?_⟩, by simp⟩⟩
    by_cases hji : j = i
    · subst hji; exact h
    · exact hi2 j (by omega)
  · simp only [ib_add, ib_sub, ib_mul, ib_eql, ib_neq, ib_lss, ib_leq, ib_gtr, ib_geq, sb_eql, sb_neq, sb_lss, sb_gtr, eqI_eq, ltI_eq, leI_eq, eqB_eq, isIK_int, isIK_ite, isStrD_ite, asInt_ite, sat_req, sat_ite, sat_ret, sat_back, aimF_q, aimR_q, into_q, into_bk, binV_add, binV_sub, binV_mul, binV_eql, binV_neq, binV_lss, binV_leq, binV_gtr, binV_geq, binV_seql, binV_sneq, bbinV_eql, bbinV_neq, unV_not, unV_neg, convV_int, asBool_ite, isBoolD_ite, isBUD_ite, grdD_ite, grdD_bool, grdD_tup, isBUD_tup, isBUD_bool, isBoolD_tup, isBoolD_bool, asBool_tup, asBool_bool, isIntD_int, isStrD_str, asInt_int, asStr_str, lstD_sim, lstD_snil, isSlD_sim, isSlD_snil, isSnil_sim, isSnil_snil, Option.isSome_some, Option.getD_some, true_and, and_true, ↓reduceIte, Nat.reduceEqDiff, reduceCtorEq, pick_or, pick_and, pick_or', pick_and', Bool.not_not, ite_bool, dlV_cell, cells_agg, cells_str, cells_int, cells_bool, cells_sim, cells_snil, List.getD_cons_zero, List.getD_cons_succ, beq_tt, beq_ft, ite_same, imp_true, lookOk, lookRes, sfOf, sgOf, hOk, hRes, hOut, aimP_q, one_int, one_bool, one_str, one_sim, one_snil, one_fn, Int.toNat_natCast, Nat.zero_add, Int.toNat_zero, natCast_fold, Int.ofNat_eq_natCast, isB_bool, beq_self_eq_true, dIsAgg_agg, bel_d, bel7_d, bel_aggd, List.all_cons, List.all_nil, Bool.and_self, Bool.and_true, Bool.true_and, dlV_enc, enc_cells, lst_encO, isSl_encO, one_encO, lst_encS, isSl_encS, one_encS, isAgg_enc, toV_enc, isV_enc, toVs_enc, isVs_enc, toSs_enc, isSs_enc, dlV_encB, dlV_encBv, encB_cells, lst_encBs, isSl_encBs, one_encBs, isAgg_encB, toB_enc, isB0_enc, toBs_enc, isBs_enc, agg_enc]
    simp [hlt, - List.getD_eq_getElem?_getD]
    exact (idxB_none fun j hj => hi2 j (by omega)).symm
open Classical in
noncomputable def e45 : Ent := ⟨45, fun | [d_o, .str s] => decide (isBs d_o) | _ => false, fun | [d_o, .str s] => .int .i64 (idxB ((toBs d_o).getD []) s) | _ => .inil⟩
open Classical in
theorem ok45 : EntOk Tryz.prog [0] e45 := fun ds h => by
  unfold e45 at h ⊢
  simp only at h ⊢
  split at h
  · rw [decide_eq_true_iff] at h
    obtain ⟨v0, rfl, k0⟩ := h
    simp only [toV_enc, toVs_enc, toSs_enc, toB_enc, toBs_enc]
    exact pc45 _ _ k0
  · cases h
theorem pc26 (o : Option (List B)) (s : ByteArray) (ho : okBs o) : PureCall Tryz.prog [0] 26 [encBs o, .str s] (dRet (.int .i64 (idxB (o.getD []) s))) := by
  refine pure_of_tree mixed fn26 (Nat.le_of_ble_eq_true rfl) (Nat.lt_of_succ_le (Nat.le_of_ble_eq_true rfl)) (sfOk (.cons ok45 .nil)) TbOk (lv := lv0) fun I F hI hF => ?_
  refine boxed fun C hC => ?_
  generalize hgen0 : encBs o = gen0
  generalize hgen1 : DV.str s = gen1
  cbv
  subst hgen0
  subst hgen1
  subst hC
  refine ⟨?_⟩
  simp only [hI, hF, std]
  simp only [ib_add, ib_sub, ib_mul, ib_eql, ib_neq, ib_lss, ib_leq, ib_gtr, ib_geq, sb_eql, sb_neq, sb_lss, sb_gtr, eqI_eq, ltI_eq, leI_eq, eqB_eq, isIK_int, isIK_ite, isStrD_ite, asInt_ite, sat_req, sat_ite, sat_ret, sat_back, aimF_q, aimR_q, into_q, into_bk, binV_add, binV_sub, binV_mul, binV_eql, binV_neq, binV_lss, binV_leq, binV_gtr, binV_geq, binV_seql, binV_sneq, bbinV_eql, bbinV_neq, unV_not, unV_neg, convV_int, asBool_ite, isBoolD_ite, isBUD_ite, grdD_ite, grdD_bool, grdD_tup, isBUD_tup, isBUD_bool, isBoolD_tup, isBoolD_bool, asBool_tup, asBool_bool, isIntD_int, isStrD_str, asInt_int, asStr_str, lstD_sim, lstD_snil, isSlD_sim, isSlD_snil, isSnil_sim, isSnil_snil, Option.isSome_some, Option.getD_some, true_and, and_true, ↓reduceIte, Nat.reduceEqDiff, reduceCtorEq, pick_or, pick_and, pick_or', pick_and', Bool.not_not, ite_bool, dlV_cell, cells_agg, cells_str, cells_int, cells_bool, cells_sim, cells_snil, List.getD_cons_zero, List.getD_cons_succ, beq_tt, beq_ft, ite_same, imp_true, lookOk, lookRes, sfOf, sgOf, hOk, hRes, hOut, aimP_q, one_int, one_bool, one_str, one_sim, one_snil, one_fn, Int.toNat_natCast, Nat.zero_add, Int.toNat_zero, natCast_fold, Int.ofNat_eq_natCast, isB_bool, beq_self_eq_true, dIsAgg_agg, bel_d, bel7_d, bel_aggd, List.all_cons, List.all_nil, Bool.and_self, Bool.and_true, Bool.true_and, dlV_enc, enc_cells, lst_encO, isSl_encO, one_encO, lst_encS, isSl_encS, one_encS, isAgg_enc, toV_enc, isV_enc, toVs_enc, isVs_enc, toSs_enc, isSs_enc, dlV_encB, dlV_encBv, encB_cells, lst_encBs, isSl_encBs, one_encBs, isAgg_encB, toB_enc, isB0_enc, toBs_enc, isBs_enc, agg_enc, e45]
  simp [ho, dlV_encB, dlV_encBv, encB_cells, lst_encBs, isSl_encBs, one_encBs, isAgg_encB, toB_enc, isB0_enc, toBs_enc, isBs_enc, agg_enc]
open Classical in
noncomputable def e26 : Ent := ⟨26, fun | [d_o, .str s] => decide (isBs d_o) | _ => false, fun | [d_o, .str s] => .int .i64 (idxB ((toBs d_o).getD []) s) | _ => .inil⟩
open Classical in
theorem ok26 : EntOk Tryz.prog [0] e26 := fun ds h => by
  unfold e26 at h ⊢
  simp only at h ⊢
  split at h
  · rw [decide_eq_true_iff] at h
    obtain ⟨v0, rfl, k0⟩ := h
    simp only [toV_enc, toVs_enc, toSs_enc, toB_enc, toBs_enc]
    exact pc26 _ _ k0
  · cases h
theorem pc23a (a b : B) : PureCall Tryz.prog [0] 23 [encB a, .pim [encB b] 0 0] (dRet (.bool (decide (a.nm = b.nm)))) := by
  refine pure_of_tree mixed fn23 (Nat.le_of_ble_eq_true rfl) (Nat.lt_of_succ_le (Nat.le_of_ble_eq_true rfl)) (sfOk .nil) TbOk (lv := lv0) fun I F hI hF => ?_
  refine boxed fun C hC => ?_
  generalize hgen0 : encB a = gen0
  generalize hgen1 : encB b = gen1
  cbv
  subst hgen0
  subst hgen1
  subst hC
  refine ⟨?_⟩
  simp only [hI, hF, std]
  simp only [ib_add, ib_sub, ib_mul, ib_eql, ib_neq, ib_lss, ib_leq, ib_gtr, ib_geq, sb_eql, sb_neq, sb_lss, sb_gtr, eqI_eq, ltI_eq, leI_eq, eqB_eq, isIK_int, isIK_ite, isStrD_ite, asInt_ite, sat_req, sat_ite, sat_ret, sat_back, aimF_q, aimR_q, into_q, into_bk, binV_add, binV_sub, binV_mul, binV_eql, binV_neq, binV_lss, binV_leq, binV_gtr, binV_geq, binV_seql, binV_sneq, bbinV_eql, bbinV_neq, unV_not, unV_neg, convV_int, asBool_ite, isBoolD_ite, isBUD_ite, grdD_ite, grdD_bool, grdD_tup, isBUD_tup, isBUD_bool, isBoolD_tup, isBoolD_bool, asBool_tup, asBool_bool, isIntD_int, isStrD_str, asInt_int, asStr_str, lstD_sim, lstD_snil, isSlD_sim, isSlD_snil, isSnil_sim, isSnil_snil, Option.isSome_some, Option.getD_some, true_and, and_true, ↓reduceIte, Nat.reduceEqDiff, reduceCtorEq, pick_or, pick_and, pick_or', pick_and', Bool.not_not, ite_bool, dlV_cell, cells_agg, cells_str, cells_int, cells_bool, cells_sim, cells_snil, List.getD_cons_zero, List.getD_cons_succ, beq_tt, beq_ft, ite_same, imp_true, lookOk, lookRes, sfOf, sgOf, hOk, hRes, hOut, aimP_q, one_int, one_bool, one_str, one_sim, one_snil, one_fn, Int.toNat_natCast, Nat.zero_add, Int.toNat_zero, natCast_fold, Int.ofNat_eq_natCast, isB_bool, beq_self_eq_true, dIsAgg_agg, bel_d, bel7_d, bel_aggd, List.all_cons, List.all_nil, Bool.and_self, Bool.and_true, Bool.true_and, dlV_enc, enc_cells, lst_encO, isSl_encO, one_encO, lst_encS, isSl_encS, one_encS, isAgg_enc, toV_enc, isV_enc, toVs_enc, isVs_enc, toSs_enc, isSs_enc, dlV_encB, dlV_encBv, encB_cells, lst_encBs, isSl_encBs, one_encBs, isAgg_encB, toB_enc, isB0_enc, toBs_enc, isBs_enc, agg_enc]
  simp
theorem pc23 (a b : B) (ha : okB0 a) (hb : okB0 b) : PureCall Tryz.prog [0] 23 [encB a, .pim [encB b] 0 0] (dRet (.bool (decide (a.nm = b.nm)))) := pc23a a b
open Classical in
noncomputable def e23 : Ent := ⟨23, fun | [d_a, .pim [d_b] 0 0] => decide (isB0 d_a ∧ isB0 d_b) | _ => false, fun | [d_a, .pim [d_b] 0 0] => .bool (decide ((toB d_a).nm = (toB d_b).nm)) | _ => .inil⟩
open Classical in
theorem ok23 : EntOk Tryz.prog [0] e23 := fun ds h => by
  unfold e23 at h ⊢
  simp only at h ⊢
  split at h
  · rw [decide_eq_true_iff] at h
    obtain ⟨⟨v0, rfl, k0⟩, ⟨v1, rfl, k1⟩⟩ := h
    simp only [toV_enc, toVs_enc, toSs_enc, toB_enc, toBs_enc]
    exact pc23 _ _ k0 k1
  · cases h
def lv40 : Nat → List Nat × List Nat
  | 2 => ([0, 1, 7, 8], [])
  | _ => ([], [])
theorem pc40 (o : Option (List B)) (b : B) (ho : okBs o) (hb : okB0 b) : PureCall Tryz.prog [0] 40 [encBs o, .fn 23 [.pim [encB b] 0 0]] (dRet (.int .i64 (idxB (o.getD []) b.nm))) := by
  have hl := okBs_len ho
  refine pure_of_tree mixed fn40 (Nat.le_of_ble_eq_true rfl) (Nat.lt_of_succ_le (Nat.le_of_ble_eq_true rfl)) (sfOk (.cons ok23 .nil)) TbOk (lv := lv40) fun I F hI hF => ?_
  refine boxed fun C hC => ?_
  generalize hgen0 : encBs o = gen0
  generalize hgen1 : encB b = gen1
  cbv
  subst hgen0
  subst hgen1
  subst hC
  refine ⟨?_⟩
  simp only [hI, hF, std]
  simp only [ib_add, ib_sub, ib_mul, ib_eql, ib_neq, ib_lss, ib_leq, ib_gtr, ib_geq, sb_eql, sb_neq, sb_lss, sb_gtr, eqI_eq, ltI_eq, leI_eq, eqB_eq, isIK_int, isIK_ite, isStrD_ite, asInt_ite, sat_req, sat_ite, sat_ret, sat_back, aimF_q, aimR_q, into_q, into_bk, binV_add, binV_sub, binV_mul, binV_eql, binV_neq, binV_lss, binV_leq, binV_gtr, binV_geq, binV_seql, binV_sneq, bbinV_eql, bbinV_neq, unV_not, unV_neg, convV_int, asBool_ite, isBoolD_ite, isBUD_ite, grdD_ite, grdD_bool, grdD_tup, isBUD_tup, isBUD_bool, isBoolD_tup, isBoolD_bool, asBool_tup, asBool_bool, isIntD_int, isStrD_str, asInt_int, asStr_str, lstD_sim, lstD_snil, isSlD_sim, isSlD_snil, isSnil_sim, isSnil_snil, Option.isSome_some, Option.getD_some, true_and, and_true, ↓reduceIte, Nat.reduceEqDiff, reduceCtorEq, pick_or, pick_and, pick_or', pick_and', Bool.not_not, ite_bool, dlV_cell, cells_agg, cells_str, cells_int, cells_bool, cells_sim, cells_snil, List.getD_cons_zero, List.getD_cons_succ, beq_tt, beq_ft, ite_same, imp_true, lookOk, lookRes, sfOf, sgOf, hOk, hRes, hOut, aimP_q, one_int, one_bool, one_str, one_sim, one_snil, one_fn, Int.toNat_natCast, Nat.zero_add, Int.toNat_zero, natCast_fold, Int.ofNat_eq_natCast, isB_bool, beq_self_eq_true, dIsAgg_agg, bel_d, bel7_d, bel_aggd, List.all_cons, List.all_nil, Bool.and_self, Bool.and_true, Bool.true_and, dlV_enc, enc_cells, lst_encO, isSl_encO, one_encO, lst_encS, isSl_encS, one_encS, isAgg_enc, toV_enc, isV_enc, toVs_enc, isVs_enc, toSs_enc, isSs_enc, dlV_encB, dlV_encBv, encB_cells, lst_encBs, isSl_encBs, one_encBs, isAgg_encB, toB_enc, isB0_enc, toBs_enc, isBs_enc, agg_enc]
  refine loop_rule (kend := fun I => kEndF I Tb [.tmp 4]) hI hF (sfOk (.cons ok23 .nil)) TbOk (by exact fun Bk e s h => endF TbOk Bk e s h) (lv := lv40) 0 (fun i : {i : Nat // i ≤ (o.getD []).length ∧ ∀ j, j < i → ((o.getD []).getD j default).nm ≠ b.nm} => [.d (encBs o), .d (.fn 23 [.pim [encB b] 0 0]), .d (.int .i64 ((o.getD []).length : Int)), .d (.int .i64 (i.1 : Int))]) (fun i : {i : Nat // i ≤ (o.getD []).length ∧ ∀ j, j < i → ((o.getD []).getD j default).nm ≠ b.nm} => []) (fun i : {i : Nat // i ≤ (o.getD []).length ∧ ∀ j, j < i → ((o.getD []).getD j default).nm ≠ b.nm} => (o.getD []).length - i.1) [] (⟨0, by omega, fun j h => by omega⟩ : {i : Nat // i ≤ (o.getD []).length ∧ ∀ j, j < i → ((o.getD []).getD j default).nm ≠ b.nm}) (by rfl) (by rfl) ?_ ?_ fun i => ?_
  · simp
  · rfl
  obtain ⟨i, hi1, hi2⟩ := i
  refine boxed fun C hC => ?_
  generalize hgen0 : encBs o = gen0
  generalize hgen1 : encB b = gen1
  generalize hgen2 : DV.int .i64 ((o.getD []).length : Int) = gen2
  generalize hgen3 : DV.int .i64 (i : Int) = gen3
  cbv
  subst hgen0
  subst hgen1
  subst hgen2
  subst hgen3
  subst hC
  refine ⟨?_⟩
  simp only [hI, hF, std]
  have w3 := wrap_succ (n := i) (by omega)
  by_cases hlt : i < (o.getD []).length
  · have g1 := get_encB _ _ hlt
    have k1 := okBs_get ho hlt
    simp only [ib_add, ib_sub, ib_mul, ib_eql, ib_neq, ib_lss, ib_leq, ib_gtr, ib_geq, sb_eql, sb_neq, sb_lss, sb_gtr, eqI_eq, ltI_eq, leI_eq, eqB_eq, isIK_int, isIK_ite, isStrD_ite, asInt_ite, sat_req, sat_ite, sat_ret, sat_back, aimF_q, aimR_q, into_q, into_bk, binV_add, binV_sub, binV_mul, binV_eql, binV_neq, binV_lss, binV_leq, binV_gtr, binV_geq, binV_seql, binV_sneq, bbinV_eql, bbinV_neq, unV_not, unV_neg, convV_int, asBool_ite, isBoolD_ite, isBUD_ite, grdD_ite, grdD_bool, grdD_tup, isBUD_tup, isBUD_bool, isBoolD_tup, isBoolD_bool, asBool_tup, asBool_bool, isIntD_int, isStrD_str, asInt_int, asStr_str, lstD_sim, lstD_snil, isSlD_sim, isSlD_snil, isSnil_sim, isSnil_snil, Option.isSome_some, Option.getD_some, true_and, and_true, ↓reduceIte, Nat.reduceEqDiff, reduceCtorEq, pick_or, pick_and, pick_or', pick_and', Bool.not_not, ite_bool, dlV_cell, cells_agg, cells_str, cells_int, cells_bool, cells_sim, cells_snil, List.getD_cons_zero, List.getD_cons_succ, beq_tt, beq_ft, ite_same, imp_true, lookOk, lookRes, sfOf, sgOf, hOk, hRes, hOut, aimP_q, one_int, one_bool, one_str, one_sim, one_snil, one_fn, Int.toNat_natCast, Nat.zero_add, Int.toNat_zero, natCast_fold, Int.ofNat_eq_natCast, isB_bool, beq_self_eq_true, dIsAgg_agg, bel_d, bel7_d, bel_aggd, List.all_cons, List.all_nil, Bool.and_self, Bool.and_true, Bool.true_and, dlV_enc, enc_cells, lst_encO, isSl_encO, one_encO, lst_encS, isSl_encS, one_encS, isAgg_enc, toV_enc, isV_enc, toVs_enc, isVs_enc, toSs_enc, isSs_enc, dlV_encB, dlV_encBv, encB_cells, lst_encBs, isSl_encBs, one_encBs, isAgg_encB, toB_enc, isB0_enc, toBs_enc, isBs_enc, agg_enc, g1, e23]
    simp [hlt, w3, - List.getD_eq_getElem?_getD, dlV_encB, dlV_encBv, encB_cells, lst_encBs, isSl_encBs, one_encBs, isAgg_encB, toB_enc, isB0_enc, toBs_enc, isBs_enc, agg_enc, k1, hb]
    refine ⟨fun h => (idxB_some hlt h hi2).symm, fun h => ⟨i + 1, by omega, ⟨by omega, fun j hj => ?_⟩, by simp⟩⟩
    by_cases hji : j = i
    · subst hji; exact h
    · exact hi2 j (by omega)
  · simp only [ib_add, ib_sub, ib_mul, ib_eql, ib_neq, ib_lss, ib_leq, ib_gtr, ib_geq, sb_eql, sb_neq, sb_lss, sb_gtr, eqI_eq, ltI_eq, leI_eq, eqB_eq, isIK_int, isIK_ite, isStrD_ite, asInt_ite, sat_req, sat_ite, sat_ret, sat_back, aimF_q, aimR_q, into_q, into_bk, binV_add, binV_sub, binV_mul, binV_eql, binV_neq, binV_lss, binV_leq, binV_gtr, binV_geq, binV_seql, binV_sneq, bbinV_eql, bbinV_neq, unV_not, unV_neg, convV_int, asBool_ite, isBoolD_ite, isBUD_ite, grdD_ite, grdD_bool, grdD_tup, isBUD_tup, isBUD_bool, isBoolD_tup, isBoolD_bool, asBool_tup, asBool_bool, isIntD_int, isStrD_str, asInt_int, asStr_str, lstD_sim, lstD_snil, isSlD_sim, isSlD_snil, isSnil_sim, isSnil_snil, Option.isSome_some, Option.getD_some, true_and, and_true, ↓reduceIte, Nat.reduceEqDiff, reduceCtorEq, pick_or, pick_and, pick_or', pick_and', Bool.not_not, ite_bool, dlV_cell, cells_agg, cells_str, cells_int, cells_bool, cells_sim, cells_snil, List.getD_cons_zero, List.getD_cons_succ, beq_tt, beq_ft, ite_same, imp_true, lookOk, lookRes, sfOf, sgOf, hOk, hRes, hOut, aimP_q, one_int, one_bool, one_str, one_sim, one_snil, one_fn, Int.toNat_natCast, Nat.zero_add, Int.toNat_zero, natCast_fold, Int.ofNat_eq_natCast, isB_bool, beq_self_eq_true, dIsAgg_agg, bel_d, bel7_d, bel_aggd, List.all_cons, List.all_nil, Bool.and_self, Bool.and_true, Bool.true_and, dlV_enc, enc_cells, lst_encO, isSl_encO, one_encO, lst_encS, isSl_encS, one_encS, isAgg_enc, toV_enc, isV_enc, toVs_enc, isVs_enc, toSs_enc, isSs_enc, dlV_encB, dlV_encBv, encB_cells, lst_encBs, isSl_encBs, one_encBs, isAgg_encB, toB_enc, isB0_enc, toBs_enc, isBs_enc, agg_enc, e23]
    simp [hlt, - List.getD_eq_getElem?_getD]
    exact (idxB_none fun j hj => hi2 j (by omega)).symm
open Classical in
noncomputable def e40 : Ent := ⟨40, fun | [d_o, .fn 23 [.pim [d_b] 0 0]] => decide (isBs d_o ∧ isB0 d_b) | _ => false, fun | [d_o, .fn 23 [.pim [d_b] 0 0]] => .int .i64 (idxB ((toBs d_o).getD []) (toB d_b).nm) | _ => .inil⟩
open Classical in
theorem ok40 : EntOk Tryz.prog [0] e40 := fun ds h => by
  unfold e40 at h ⊢
  simp only at h ⊢
  split at h
  · rw [decide_eq_true_iff] at h
    obtain ⟨⟨v0, rfl, k0⟩, ⟨v1, rfl, k1⟩⟩ := h
    simp only [toV_enc, toVs_enc, toSs_enc, toB_enc, toBs_enc]
    exact pc40 _ _ k0 k1
  · cases h
theorem pc22 (o : Option (List B)) (b : B) (ho : okBs o) (hb : okB0 b) : PureCall Tryz.prog [0] 22 [encBs o, .fn 23 [.pim [encB b] 0 0]] (dRet (.bool (decide (0 ≤ idxB (o.getD []) b.nm)))) := by
  refine pure_of_tree mixed fn22 (Nat.le_of_ble_eq_true rfl) (Nat.lt_of_succ_le (Nat.le_of_ble_eq_true rfl)) (sfOk (.cons ok40 .nil)) TbOk (lv := lv0) fun I F hI hF => ?_
  refine boxed fun C hC => ?_
  generalize hgen0 : encBs o = gen0
  generalize hgen1 : encB b = gen1
  cbv
  subst hgen0
  subst hgen1
  subst hC
  refine ⟨?_⟩
  simp only [hI, hF, std]
  simp only [ib_add, ib_sub, ib_mul, ib_eql, ib_neq, ib_lss, ib_leq, ib_gtr, ib_geq, sb_eql, sb_neq, sb_lss, sb_gtr, eqI_eq, ltI_eq, leI_eq, eqB_eq, isIK_int, isIK_ite, isStrD_ite, asInt_ite, sat_req, sat_ite, sat_ret, sat_back, aimF_q, aimR_q, into_q, into_bk, binV_add, binV_sub, binV_mul, binV_eql, binV_neq, binV_lss, binV_leq, binV_gtr, binV_geq, binV_seql, binV_sneq, bbinV_eql, bbinV_neq, unV_not, unV_neg, convV_int, asBool_ite, isBoolD_ite, isBUD_ite, grdD_ite, grdD_bool, grdD_tup, isBUD_tup, isBUD_bool, isBoolD_tup, isBoolD_bool, asBool_tup, asBool_bool, isIntD_int, isStrD_str, asInt_int, asStr_str, lstD_sim, lstD_snil, isSlD_sim, isSlD_snil, isSnil_sim, isSnil_snil, Option.isSome_some, Option.getD_some, true_and, and_true, ↓reduceIte, Nat.reduceEqDiff, reduceCtorEq, pick_or, pick_and, pick_or', pick_and', Bool.not_not, ite_bool, dlV_cell, cells_agg, cells_str, cells_int, cells_bool, cells_sim, cells_snil, List.getD_cons_zero, List.getD_cons_succ, beq_tt, beq_ft, ite_same, imp_true, lookOk, lookRes, sfOf, sgOf, hOk, hRes, hOut, aimP_q, one_int, one_bool, one_str, one_sim, one_snil, one_fn, Int.toNat_natCast, Nat.zero_add, Int.toNat_zero, natCast_fold, Int.ofNat_eq_natCast, isB_bool, beq_self_eq_true, dIsAgg_agg, bel_d, bel7_d, bel_aggd, List.all_cons, List.all_nil, Bool.and_self, Bool.and_true, Bool.true_and, dlV_enc, enc_cells, lst_encO, isSl_encO, one_encO, lst_encS, isSl_encS, one_encS, isAgg_enc, toV_enc, isV_enc, toVs_enc, isVs_enc, toSs_enc, isSs_enc, dlV_encB, dlV_encBv, encB_cells, lst_encBs, isSl_encBs, one_encBs, isAgg_encB, toB_enc, isB0_enc, toBs_enc, isBs_enc, agg_enc, e40]
  simp [ho, hb, dlV_encB, dlV_encBv, encB_cells, lst_encBs, isSl_encBs, one_encBs, isAgg_encB, toB_enc, isB0_enc, toBs_enc, isBs_enc, agg_enc]
open Classical in
noncomputable def e22 : Ent := ⟨22, fun | [d_o, .fn 23 [.pim [d_b] 0 0]] => decide (isBs d_o ∧ isB0 d_b) | _ => false, fun | [d_o, .fn 23 [.pim [d_b] 0 0]] => .bool (decide (0 ≤ idxB ((toBs d_o).getD []) (toB d_b).nm)) | _ => .inil⟩
open Classical in
theorem ok22 : EntOk Tryz.prog [0] e22 := fun ds h => by
  unfold e22 at h ⊢
  simp only at h ⊢
  split at h
  · rw [decide_eq_true_iff] at h
    obtain ⟨⟨v0, rfl, k0⟩, ⟨v1, rfl, k1⟩⟩ := h
    simp only [toV_enc, toVs_enc, toSs_enc, toB_enc, toBs_enc]
    exact pc22 _ _ k0 k1
  · cases h
/-- Copies of bindings. -/
def ownB (b : B) : B := ⟨b.nm, ownV b.v⟩
def ownEs (o : Option (List B)) : Option (List B) := if o.getD [] = [] then none else some ((o.getD []).map ownB)
def aggB (b : B) : AV := .agg [.d (.str b.nm), .d (.int .i64 b.v.k), .d (.int .i64 b.v.n), .d (.int .i64 b.v.e), .d (.str b.v.s), .d (encS b.v.nm), .d (encO b.v.it)]
def ownBA (l : List B) (i : Nat) : List AV := (l.take i).map fun b => aggB (ownB b)
theorem ownBA_len {l : List B} {i : Nat} (h : i ≤ l.length) : (ownBA l i).length = i := by simp [ownBA]; omega
theorem ownBA_succ {l : List B} {i : Nat} (h : i < l.length) : ownBA l (i + 1) = ownBA l i ++ [aggB (ownB (l.getD i default))] := by
  unfold ownBA
  rw [List.take_add_one, List.map_append]
  simp [List.getD, h]
theorem frz_aggB (lh : Nat → Option LB) (b : B) : frz lh 7 (aggB b) = some (encB b) := rfl
theorem mapM_aggB (lh : Nat → Option LB) (f : B → B) : ∀ (l : List B), (l.map fun b => aggB (f b)).mapM (frz lh 7) = some (l.map fun b => encB (f b))
  | [] => rfl
  | b :: r => by simp [List.mapM_cons, frz_aggB, mapM_aggB lh f r]
theorem frz_rowB {lh : LM} {o : Option (List B)} {i : Nat} (hb : lh.get 0 = some ⟨ownBA (o.getD []) i, 7, 44, true, true⟩) (h : (o.getD []).length ≤ i) (h1 : i ≤ (o.getD []).length) (h2 : 0 < i) (h3 : (o.getD []).length ≤ 1048576) : frz lh.get 8 (.slc 0 7 0 i) = some (encBs (ownEs o)) := by
  have hi : i = (o.getD []).length := by omega
  have hl : 0 + i ≤ (ownBA (o.getD []) i).length ∧ i ≤ big := ⟨by rw [ownBA_len h1]; omega, by unfold big; omega⟩
  simp only [frz, hb, if_pos hl, List.drop_zero]
  rw [List.take_of_length_le (by rw [ownBA_len h1]; omega)]
  have : ownBA (o.getD []) i = (o.getD []).map fun b => aggB (ownB b) := by unfold ownBA; rw [List.take_of_length_le h]
  have hne : ¬ o.getD [] = [] := fun hc => by rw [hc] at hi; simp at hi; omega
  rw [this, mapM_aggB, ownEs, if_neg hne, encBs, List.map_map]; rfl
def lv24 : Nat → List Nat × List Nat
  | 3 => ([0, 3, 4], [10003])
  | _ => ([], [])
theorem pc24 (o : Option (List B)) (ho : okBs o) : PureCall Tryz.prog [0] 24 [encBs o] (dRet (encBs (ownEs o))) := by
  have hl := okBs_len ho
  refine pure_of_treeR mixed fn24 (Nat.le_of_ble_eq_true rfl) (Nat.lt_of_succ_le (Nat.le_of_ble_eq_true rfl)) (sfOk (.cons ok11 .nil)) TbOk (lv := lv24) fun I F hI hF => ?_
  refine boxed fun C hC => ?_
  generalize hgen0 : encBs o = gen0
  cbv
  subst hgen0
  subst hC
  refine ⟨?_⟩
  simp only [hI, hF, std]
  simp only [ib_add, ib_sub, ib_mul, ib_eql, ib_neq, ib_lss, ib_leq, ib_gtr, ib_geq, sb_eql, sb_neq, sb_lss, sb_gtr, eqI_eq, ltI_eq, leI_eq, eqB_eq, isIK_int, isIK_ite, isStrD_ite, asInt_ite, sat_req, sat_ite, sat_ret, sat_back, aimF_q, aimR_q, into_q, into_bk, binV_add, binV_sub, binV_mul, binV_eql, binV_neq, binV_lss, binV_leq, binV_gtr, binV_geq, binV_seql, binV_sneq, bbinV_eql, bbinV_neq, unV_not, unV_neg, convV_int, asBool_ite, isBoolD_ite, isBUD_ite, grdD_ite, grdD_bool, grdD_tup, isBUD_tup, isBUD_bool, isBoolD_tup, isBoolD_bool, asBool_tup, asBool_bool, isIntD_int, isStrD_str, asInt_int, asStr_str, lstD_sim, lstD_snil, isSlD_sim, isSlD_snil, isSnil_sim, isSnil_snil, Option.isSome_some, Option.getD_some, true_and, and_true, ↓reduceIte, Nat.reduceEqDiff, reduceCtorEq, pick_or, pick_and, pick_or', pick_and', Bool.not_not, ite_bool, dlV_cell, cells_agg, cells_str, cells_int, cells_bool, cells_sim, cells_snil, List.getD_cons_zero, List.getD_cons_succ, beq_tt, beq_ft, ite_same, imp_true, lookOk, lookRes, sfOf, sgOf, hOk, hRes, hOut, aimP_q, one_int, one_bool, one_str, one_sim, one_snil, one_fn, Int.toNat_natCast, Nat.zero_add, Int.toNat_zero, natCast_fold, Int.ofNat_eq_natCast, isB_bool, beq_self_eq_true, dIsAgg_agg, bel_d, bel7_d, bel_aggd, List.all_cons, List.all_nil, Bool.and_self, Bool.and_true, Bool.true_and, dlV_enc, enc_cells, lst_encO, isSl_encO, one_encO, lst_encS, isSl_encS, one_encS, isAgg_enc, toV_enc, isV_enc, toVs_enc, isVs_enc, toSs_enc, isSs_enc, dlV_encB, dlV_encBv, encB_cells, lst_encBs, isSl_encBs, one_encBs, isAgg_encB, toB_enc, isB0_enc, toBs_enc, isBs_enc, agg_enc]
  refine loop_rule (kend := fun I => kEnd I Tb [.tmp 2]) hI hF (sfOk (.cons ok11 .nil)) TbOk (by exact fun Bk e s h => endR TbOk Bk e s h) (lv := lv24) 0 (fun i : {i : Bool × Nat // i.2 ≤ (o.getD []).length ∧ (i.1 = true ↔ 0 < i.2)} => [.d (encBs o), accA 7 i.1.1 i.1.2, .d (.int .i64 (i.1.2 : Int))]) (fun i : {i : Bool × Nat // i.2 ≤ (o.getD []).length ∧ (i.1 = true ↔ 0 < i.2)} => [(0, accB 7 44 (ownBA (o.getD []) i.1.2) i.1.1)]) (fun i : {i : Bool × Nat // i.2 ≤ (o.getD []).length ∧ (i.1 = true ↔ 0 < i.2)} => (o.getD []).length - i.1.2) [10003] (⟨(false, 0), by simp, by simp⟩ : {i : Bool × Nat // i.2 ≤ (o.getD []).length ∧ (i.1 = true ↔ 0 < i.2)}) (by rfl) (by rfl) ?_ ?_ fun i => ?_
  · rfl
  · rfl
  obtain ⟨⟨b, i⟩, hi1, hi2⟩ := i
  have hi1 : i ≤ (o.getD []).length := hi1
  have hi2 : b = true ↔ 0 < i := hi2
  have w3 := wrap_succ (n := i) (by omega)
  have hlen := ownBA_len hi1
  cases b with
  | false =>
    rw [show accA 7 false i = .d .snil from rfl, show accB 7 44 (ownBA (o.getD []) i) false = none from rfl]
    have h0 : i = 0 := by have := mt hi2.2; simp at this; omega
    refine boxed fun C hC => ?_
    generalize hgen0 : encBs o = gen0
    generalize hgen1 : DV.int .i64 (i : Int) = gen1
    cbv
    subst hgen0
    subst hgen1
    subst hC
    refine ⟨?_⟩
    simp only [hI, hF, std]
    by_cases hlt : i < (o.getD []).length
    · have g1 := get_encB _ _ hlt
      have k1 := (okBs_get ho hlt).2
      simp only [ib_add, ib_sub, ib_mul, ib_eql, ib_neq, ib_lss, ib_leq, ib_gtr, ib_geq, sb_eql, sb_neq, sb_lss, sb_gtr, eqI_eq, ltI_eq, leI_eq, eqB_eq, isIK_int, isIK_ite, isStrD_ite, asInt_ite, sat_req, sat_ite, sat_ret, sat_back, aimF_q, aimR_q, into_q, into_bk, binV_add, binV_sub, binV_mul, binV_eql, binV_neq, binV_lss, binV_leq, binV_gtr, binV_geq, binV_seql, binV_sneq, bbinV_eql, bbinV_neq, unV_not, unV_neg, convV_int, asBool_ite, isBoolD_ite, isBUD_ite, grdD_ite, grdD_bool, grdD_tup, isBUD_tup, isBUD_bool, isBoolD_tup, isBoolD_bool, asBool_tup, asBool_bool, isIntD_int, isStrD_str, asInt_int, asStr_str, lstD_sim, lstD_snil, isSlD_sim, isSlD_snil, isSnil_sim, isSnil_snil, Option.isSome_some, Option.getD_some, true_and, and_true, ↓reduceIte, Nat.reduceEqDiff, reduceCtorEq, pick_or, pick_and, pick_or', pick_and', Bool.not_not, ite_bool, dlV_cell, cells_agg, cells_str, cells_int, cells_bool, cells_sim, cells_snil, List.getD_cons_zero, List.getD_cons_succ, beq_tt, beq_ft, ite_same, imp_true, lookOk, lookRes, sfOf, sgOf, hOk, hRes, hOut, aimP_q, one_int, one_bool, one_str, one_sim, one_snil, one_fn, Int.toNat_natCast, Nat.zero_add, Int.toNat_zero, natCast_fold, Int.ofNat_eq_natCast, isB_bool, beq_self_eq_true, dIsAgg_agg, bel_d, bel7_d, bel_aggd, List.all_cons, List.all_nil, Bool.and_self, Bool.and_true, Bool.true_and, dlV_enc, enc_cells, lst_encO, isSl_encO, one_encO, lst_encS, isSl_encS, one_encS, isAgg_enc, toV_enc, isV_enc, toVs_enc, isVs_enc, toSs_enc, isSs_enc, dlV_encB, dlV_encBv, encB_cells, lst_encBs, isSl_encBs, one_encBs, isAgg_encB, toB_enc, isB0_enc, toBs_enc, isBs_enc, agg_enc, e11, g1, add_fold]
      simp [hlt, w3, - List.getD_eq_getElem?_getD, k1, dlV_enc, enc_cells, lst_encO, isSl_encO, one_encO, lst_encS, isSl_encS, one_encS, isAgg_enc, toV_enc, isV_enc, toVs_enc, isVs_enc, toSs_enc, isSs_enc, dlV_encB, dlV_encBv, encB_cells, lst_encBs, isSl_encBs, one_encBs, isAgg_encB, toB_enc, isB0_enc, toBs_enc, isBs_enc, agg_enc]
      subst h0
      refine .inr ⟨1, by omega, ⟨rfl, rfl⟩, ⟨hlt, by omega⟩, ?_⟩
      rw [show ownBA (o.getD []) 1 = [aggB (ownB ((o.getD []).getD 0 default))] from by rw [ownBA_succ hlt]; rfl]; rfl
    · simp only [ib_add, ib_sub, ib_mul, ib_eql, ib_neq, ib_lss, ib_leq, ib_gtr, ib_geq, sb_eql, sb_neq, sb_lss, sb_gtr, eqI_eq, ltI_eq, leI_eq, eqB_eq, isIK_int, isIK_ite, isStrD_ite, asInt_ite, sat_req, sat_ite, sat_ret, sat_back, aimF_q, aimR_q, into_q, into_bk, binV_add, binV_sub, binV_mul, binV_eql, binV_neq, binV_lss, binV_leq, binV_gtr, binV_geq, binV_seql, binV_sneq, bbinV_eql, bbinV_neq, unV_not, unV_neg, convV_int, asBool_ite, isBoolD_ite, isBUD_ite, grdD_ite, grdD_bool, grdD_tup, isBUD_tup, isBUD_bool, isBoolD_tup, isBoolD_bool, asBool_tup, asBool_bool, isIntD_int, isStrD_str, asInt_int, asStr_str, lstD_sim, lstD_snil, isSlD_sim, isSlD_snil, isSnil_sim, isSnil_snil, Option.isSome_some, Option.getD_some, true_and, and_true, ↓reduceIte, Nat.reduceEqDiff, reduceCtorEq, pick_or, pick_and, pick_or', pick_and', Bool.not_not, ite_bool, dlV_cell, cells_agg, cells_str, cells_int, cells_bool, cells_sim, cells_snil, List.getD_cons_zero, List.getD_cons_succ, beq_tt, beq_ft, ite_same, imp_true, lookOk, lookRes, sfOf, sgOf, hOk, hRes, hOut, aimP_q, one_int, one_bool, one_str, one_sim, one_snil, one_fn, Int.toNat_natCast, Nat.zero_add, Int.toNat_zero, natCast_fold, Int.ofNat_eq_natCast, isB_bool, beq_self_eq_true, dIsAgg_agg, bel_d, bel7_d, bel_aggd, List.all_cons, List.all_nil, Bool.and_self, Bool.and_true, Bool.true_and, dlV_enc, enc_cells, lst_encO, isSl_encO, one_encO, lst_encS, isSl_encS, one_encS, isAgg_enc, toV_enc, isV_enc, toVs_enc, isVs_enc, toSs_enc, isSs_enc, dlV_encB, dlV_encBv, encB_cells, lst_encBs, isSl_encBs, one_encBs, isAgg_encB, toB_enc, isB0_enc, toBs_enc, isBs_enc, agg_enc, e11, add_fold]
      simp [hlt]
      have he : o.getD [] = [] := List.length_eq_zero_iff.1 (by omega)
      rw [ownEs, if_pos he]; rfl
  | true =>
    rw [show accA 7 true i = .slc 0 7 0 i from rfl, show accB 7 44 (ownBA (o.getD []) i) true = some ⟨ownBA (o.getD []) i, 7, 44, true, true⟩ from rfl]
    refine boxed fun C hC => ?_
    generalize hgen0 : encBs o = gen0
    generalize hgen1 : DV.int .i64 (i : Int) = gen1
    generalize hgen2 : ownBA (o.getD []) i = gen2
    cbv
    subst hgen0
    subst hgen1
    subst hgen2
    subst hC
    refine ⟨?_⟩
    simp only [hI, hF, std]
    by_cases hlt : i < (o.getD []).length
    · have g1 := get_encB _ _ hlt
      have k1 := (okBs_get ho hlt).2
      simp only [ib_add, ib_sub, ib_mul, ib_eql, ib_neq, ib_lss, ib_leq, ib_gtr, ib_geq, sb_eql, sb_neq, sb_lss, sb_gtr, eqI_eq, ltI_eq, leI_eq, eqB_eq, isIK_int, isIK_ite, isStrD_ite, asInt_ite, sat_req, sat_ite, sat_ret, sat_back, aimF_q, aimR_q, into_q, into_bk, binV_add, binV_sub, binV_mul, binV_eql, binV_neq, binV_lss, binV_leq, binV_gtr, binV_geq, binV_seql, binV_sneq, bbinV_eql, bbinV_neq, unV_not, unV_neg, convV_int, asBool_ite, isBoolD_ite, isBUD_ite, grdD_ite, grdD_bool, grdD_tup, isBUD_tup, isBUD_bool, isBoolD_tup, isBoolD_bool, asBool_tup, asBool_bool, isIntD_int, isStrD_str, asInt_int, asStr_str, lstD_sim, lstD_snil, isSlD_sim, isSlD_snil, isSnil_sim, isSnil_snil, Option.isSome_some, Option.getD_some, true_and, and_true, ↓reduceIte, Nat.reduceEqDiff, reduceCtorEq, pick_or, pick_and, pick_or', pick_and', Bool.not_not, ite_bool, dlV_cell, cells_agg, cells_str, cells_int, cells_bool, cells_sim, cells_snil, List.getD_cons_zero, List.getD_cons_succ, beq_tt, beq_ft, ite_same, imp_true, lookOk, lookRes, sfOf, sgOf, hOk, hRes, hOut, aimP_q, one_int, one_bool, one_str, one_sim, one_snil, one_fn, Int.toNat_natCast, Nat.zero_add, Int.toNat_zero, natCast_fold, Int.ofNat_eq_natCast, isB_bool, beq_self_eq_true, dIsAgg_agg, bel_d, bel7_d, bel_aggd, List.all_cons, List.all_nil, Bool.and_self, Bool.and_true, Bool.true_and, dlV_enc, enc_cells, lst_encO, isSl_encO, one_encO, lst_encS, isSl_encS, one_encS, isAgg_enc, toV_enc, isV_enc, toVs_enc, isVs_enc, toSs_enc, isSs_enc, dlV_encB, dlV_encBv, encB_cells, lst_encBs, isSl_encBs, one_encBs, isAgg_encB, toB_enc, isB0_enc, toBs_enc, isBs_enc, agg_enc, e11, g1, add_fold]
      simp [hlt, w3, - List.getD_eq_getElem?_getD, k1, dlV_enc, enc_cells, lst_encO, isSl_encO, one_encO, lst_encS, isSl_encS, one_encS, isAgg_enc, toV_enc, isV_enc, toVs_enc, isVs_enc, toSs_enc, isSs_enc, dlV_encB, dlV_encBv, encB_cells, lst_encBs, isSl_encBs, one_encBs, isAgg_encB, toB_enc, isB0_enc, toBs_enc, isBs_enc, agg_enc]
      refine ⟨⟨by rw [← List.length.eq_def]; simp [hlen], by omega⟩, ⟨fun x hx => ?_, rfl⟩, .inr ⟨i + 1, by omega, ⟨rfl, rfl⟩, ⟨hlt, by omega⟩, ?_⟩⟩
      · obtain ⟨d, _, rfl⟩ := List.mem_map.1 (List.mem_of_mem_take hx); rfl
      · rw [List.take_of_length_le (by simp [hlen]), ownBA_succ hlt]; rfl
    · simp only [ib_add, ib_sub, ib_mul, ib_eql, ib_neq, ib_lss, ib_leq, ib_gtr, ib_geq, sb_eql, sb_neq, sb_lss, sb_gtr, eqI_eq, ltI_eq, leI_eq, eqB_eq, isIK_int, isIK_ite, isStrD_ite, asInt_ite, sat_req, sat_ite, sat_ret, sat_back, aimF_q, aimR_q, into_q, into_bk, binV_add, binV_sub, binV_mul, binV_eql, binV_neq, binV_lss, binV_leq, binV_gtr, binV_geq, binV_seql, binV_sneq, bbinV_eql, bbinV_neq, unV_not, unV_neg, convV_int, asBool_ite, isBoolD_ite, isBUD_ite, grdD_ite, grdD_bool, grdD_tup, isBUD_tup, isBUD_bool, isBoolD_tup, isBoolD_bool, asBool_tup, asBool_bool, isIntD_int, isStrD_str, asInt_int, asStr_str, lstD_sim, lstD_snil, isSlD_sim, isSlD_snil, isSnil_sim, isSnil_snil, Option.isSome_some, Option.getD_some, true_and, and_true, ↓reduceIte, Nat.reduceEqDiff, reduceCtorEq, pick_or, pick_and, pick_or', pick_and', Bool.not_not, ite_bool, dlV_cell, cells_agg, cells_str, cells_int, cells_bool, cells_sim, cells_snil, List.getD_cons_zero, List.getD_cons_succ, beq_tt, beq_ft, ite_same, imp_true, lookOk, lookRes, sfOf, sgOf, hOk, hRes, hOut, aimP_q, one_int, one_bool, one_str, one_sim, one_snil, one_fn, Int.toNat_natCast, Nat.zero_add, Int.toNat_zero, natCast_fold, Int.ofNat_eq_natCast, isB_bool, beq_self_eq_true, dIsAgg_agg, bel_d, bel7_d, bel_aggd, List.all_cons, List.all_nil, Bool.and_self, Bool.and_true, Bool.true_and, dlV_enc, enc_cells, lst_encO, isSl_encO, one_encO, lst_encS, isSl_encS, one_encS, isAgg_enc, toV_enc, isV_enc, toVs_enc, isVs_enc, toSs_enc, isSs_enc, dlV_encB, dlV_encBv, encB_cells, lst_encBs, isSl_encBs, one_encBs, isAgg_encB, toB_enc, isB0_enc, toBs_enc, isBs_enc, agg_enc, e11, add_fold]
      simp [hlt]
      exact frz_rowB rfl (by omega) hi1 (hi2.1 rfl) hl
open Classical in
noncomputable def e24 : Ent := ⟨24, fun | [d_o] => decide (isBs d_o) | _ => false, fun | [d_o] => encBs (ownEs (toBs d_o)) | _ => .inil⟩
open Classical in
theorem ok24 : EntOk Tryz.prog [0] e24 := fun ds h => by
  unfold e24 at h ⊢
  simp only at h ⊢
  split at h
  · rw [decide_eq_true_iff] at h
    obtain ⟨v0, rfl, k0⟩ := h
    simp only [toV_enc, toVs_enc, toSs_enc, toB_enc, toBs_enc]
    exact pc24 _ k0
  · cases h
theorem pc8 (o : Option (List B)) (ho : okBs o) : PureCall Tryz.prog [0] 8 [encBs o] (dRet (encBs (ownEs o))) := by
  refine pure_of_tree mixed fn8 (Nat.le_of_ble_eq_true rfl) (Nat.lt_of_succ_le (Nat.le_of_ble_eq_true rfl)) (sfOk (.cons ok24 .nil)) TbOk (lv := lv0) fun I F hI hF => ?_
  refine boxed fun C hC => ?_
  generalize hgen0 : encBs o = gen0
  cbv
  subst hgen0
  subst hC
  refine ⟨?_⟩
  simp only [hI, hF, std]
  simp only [ib_add, ib_sub, ib_mul, ib_eql, ib_neq, ib_lss, ib_leq, ib_gtr, ib_geq, sb_eql, sb_neq, sb_lss, sb_gtr, eqI_eq, ltI_eq, leI_eq, eqB_eq, isIK_int, isIK_ite, isStrD_ite, asInt_ite, sat_req, sat_ite, sat_ret, sat_back, aimF_q, aimR_q, into_q, into_bk, binV_add, binV_sub, binV_mul, binV_eql, binV_neq, binV_lss, binV_leq, binV_gtr, binV_geq, binV_seql, binV_sneq, bbinV_eql, bbinV_neq, unV_not, unV_neg, convV_int, asBool_ite, isBoolD_ite, isBUD_ite, grdD_ite, grdD_bool, grdD_tup, isBUD_tup, isBUD_bool, isBoolD_tup, isBoolD_bool, asBool_tup, asBool_bool, isIntD_int, isStrD_str, asInt_int, asStr_str, lstD_sim, lstD_snil, isSlD_sim, isSlD_snil, isSnil_sim, isSnil_snil, Option.isSome_some, Option.getD_some, true_and, and_true, ↓reduceIte, Nat.reduceEqDiff, reduceCtorEq, pick_or, pick_and, pick_or', pick_and', Bool.not_not, ite_bool, dlV_cell, cells_agg, cells_str, cells_int, cells_bool, cells_sim, cells_snil, List.getD_cons_zero, List.getD_cons_succ, beq_tt, beq_ft, ite_same, imp_true, lookOk, lookRes, sfOf, sgOf, hOk, hRes, hOut, aimP_q, one_int, one_bool, one_str, one_sim, one_snil, one_fn, Int.toNat_natCast, Nat.zero_add, Int.toNat_zero, natCast_fold, Int.ofNat_eq_natCast, isB_bool, beq_self_eq_true, dIsAgg_agg, bel_d, bel7_d, bel_aggd, List.all_cons, List.all_nil, Bool.and_self, Bool.and_true, Bool.true_and, dlV_enc, enc_cells, lst_encO, isSl_encO, one_encO, lst_encS, isSl_encS, one_encS, isAgg_enc, toV_enc, isV_enc, toVs_enc, isVs_enc, toSs_enc, isSs_enc, dlV_encB, dlV_encBv, encB_cells, lst_encBs, isSl_encBs, one_encBs, isAgg_encB, toB_enc, isB0_enc, toBs_enc, isBs_enc, agg_enc, e24]
  simp [ho, dlV_encB, dlV_encBv, encB_cells, lst_encBs, isSl_encBs, one_encBs, isAgg_encB, toB_enc, isB0_enc, toBs_enc, isBs_enc, agg_enc]
open Classical in
noncomputable def e8 : Ent := ⟨8, fun | [d_o] => decide (isBs d_o) | _ => false, fun | [d_o] => encBs (ownEs (toBs d_o)) | _ => .inil⟩
open Classical in
theorem ok8 : EntOk Tryz.prog [0] e8 := fun ds h => by
  unfold e8 at h ⊢
  simp only at h ⊢
  split at h
  · rw [decide_eq_true_iff] at h
    obtain ⟨v0, rfl, k0⟩ := h
    simp only [toV_enc, toVs_enc, toSs_enc, toB_enc, toBs_enc]
    exact pc8 _ k0
  · cases h
end Go.Proofs.Sx
