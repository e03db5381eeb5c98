/- Values compared by the program. -/
import Derived.Test.YtmjkaekhjmlnbaaGreatDoorSx6
import Derived.Test.YtmjkaekhjmlnbaaGreatDoorSxBase
import Derived.Test.YtmjkaekhjmlnbaaGreatDoorAmPtr
set_option linter.unusedVariables false
set_option linter.unusedSimpArgs false
set_option maxRecDepth 100000
namespace Go.Proofs.Sx
open Go Go.Proofs Go.Proofs.Am 
variable {gs : List Nat}

theorem pc134 (s : ByteArray) : PureCall Tryz.prog [0] 134 [.str s] (dRet (.bool false)) := by
  refine pure_of_tree mixed fn134 (Nat.le_of_ble_eq_true rfl) (Nat.lt_of_succ_le (Nat.le_of_ble_eq_true rfl)) (sfOk .nil) TbOk (lv := lv0) fun I F hI hF => ?_
  refine boxed fun C hC => ?_
  generalize hgen0 : DV.str s = gen0
  cbv
  subst hgen0
  subst hC
  refine ⟨?_⟩
  simp only [hI, hF, std]
  simp only [ib_add, ib_sub, ib_mul, ib_eql, ib_neq, ib_lss, ib_leq, ib_gtr, ib_geq, sb_eql, sb_neq, sb_lss, sb_gtr, eqI_eq, ltI_eq, leI_eq, eqB_eq, isIK_int, isIK_ite, isStrD_ite, asInt_ite, sat_req, sat_ite, sat_ret, sat_back, aimF_q, aimR_q, into_q, into_bk, binV_add, binV_sub, binV_mul, binV_eql, binV_neq, binV_lss, binV_leq, binV_gtr, binV_geq, binV_seql, binV_sneq, bbinV_eql, bbinV_neq, unV_not, unV_neg, convV_int, asBool_ite, isBoolD_ite, isBUD_ite, grdD_ite, grdD_bool, grdD_tup, isBUD_tup, isBUD_bool, isBoolD_tup, isBoolD_bool, asBool_tup, asBool_bool, isIntD_int, isStrD_str, asInt_int, asStr_str, lstD_sim, lstD_snil, isSlD_sim, isSlD_snil, isSnil_sim, isSnil_snil, Option.isSome_some, Option.getD_some, true_and, and_true, ↓reduceIte, Nat.reduceEqDiff, reduceCtorEq, pick_or, pick_and, pick_or', pick_and', Bool.not_not, ite_bool, dlV_cell, cells_agg, cells_str, cells_int, cells_bool, cells_sim, cells_snil, List.getD_cons_zero, List.getD_cons_succ, beq_tt, beq_ft, ite_same, imp_true, lookOk, lookRes, sfOf, sgOf, hOk, hRes, hOut, aimP_q, one_int, one_bool, one_str, one_sim, one_snil, one_fn, Int.toNat_natCast, Nat.zero_add, Int.toNat_zero, natCast_fold, Int.ofNat_eq_natCast, isB_bool, beq_self_eq_true, dIsAgg_agg, bel_d, bel7_d, bel_aggd, List.all_cons, List.all_nil, Bool.and_self, Bool.and_true, Bool.true_and, dlV_enc, enc_cells, lst_encO, isSl_encO, one_encO, lst_encS, isSl_encS, one_encS, isAgg_enc, toV_enc, isV_enc, toVs_enc, isVs_enc, toSs_enc, isSs_enc]
  simp
noncomputable def e134 : Ent := ⟨134, fun | [.str _] => true | _ => false, fun | [.str s] => .bool false | _ => .inil⟩
open Classical in
theorem ok134 : EntOk Tryz.prog [0] e134 := fun ds h => by
  unfold e134 at h ⊢
  simp only at h ⊢
  split at h
  · exact pc134 _
  · cases h
theorem pc110 (a b : ByteArray) : PureCall Tryz.prog [0] 110 [.str a, .str b] (dRet (.int .i64 (cmpS a b))) := by
  refine pure_of_tree mixed fn110 (Nat.le_of_ble_eq_true rfl) (Nat.lt_of_succ_le (Nat.le_of_ble_eq_true rfl)) (sfOk (.cons ok134 .nil)) TbOk (lv := lv0) fun I F hI hF => ?_
  refine boxed fun C hC => ?_
  generalize hgen0 : DV.str a = gen0
  generalize hgen1 : DV.str b = gen1
  cbv
  subst hgen0
  subst hgen1
  subst hC
  refine ⟨?_⟩
  simp only [hI, hF, std]
  simp only [ib_add, ib_sub, ib_mul, ib_eql, ib_neq, ib_lss, ib_leq, ib_gtr, ib_geq, sb_eql, sb_neq, sb_lss, sb_gtr, eqI_eq, ltI_eq, leI_eq, eqB_eq, isIK_int, isIK_ite, isStrD_ite, asInt_ite, sat_req, sat_ite, sat_ret, sat_back, aimF_q, aimR_q, into_q, into_bk, binV_add, binV_sub, binV_mul, binV_eql, binV_neq, binV_lss, binV_leq, binV_gtr, binV_geq, binV_seql, binV_sneq, bbinV_eql, bbinV_neq, unV_not, unV_neg, convV_int, asBool_ite, isBoolD_ite, isBUD_ite, grdD_ite, grdD_bool, grdD_tup, isBUD_tup, isBUD_bool, isBoolD_tup, isBoolD_bool, asBool_tup, asBool_bool, isIntD_int, isStrD_str, asInt_int, asStr_str, lstD_sim, lstD_snil, isSlD_sim, isSlD_snil, isSnil_sim, isSnil_snil, Option.isSome_some, Option.getD_some, true_and, and_true, ↓reduceIte, Nat.reduceEqDiff, reduceCtorEq, pick_or, pick_and, pick_or', pick_and', Bool.not_not, ite_bool, dlV_cell, cells_agg, cells_str, cells_int, cells_bool, cells_sim, cells_snil, List.getD_cons_zero, List.getD_cons_succ, beq_tt, beq_ft, ite_same, imp_true, lookOk, lookRes, sfOf, sgOf, hOk, hRes, hOut, aimP_q, one_int, one_bool, one_str, one_sim, one_snil, one_fn, Int.toNat_natCast, Nat.zero_add, Int.toNat_zero, natCast_fold, Int.ofNat_eq_natCast, isB_bool, beq_self_eq_true, dIsAgg_agg, bel_d, bel7_d, bel_aggd, List.all_cons, List.all_nil, Bool.and_self, Bool.and_true, Bool.true_and, dlV_enc, enc_cells, lst_encO, isSl_encO, one_encO, lst_encS, isSl_encS, one_encS, isAgg_enc, toV_enc, isV_enc, toVs_enc, isVs_enc, toSs_enc, isSs_enc, e134, ltB_cmpS]
  have h := cmpS_range a b
  have hz := cmpS_zero a b
  simp
  refine ⟨fun h => h.symm, fun h1 => ⟨fun h2 h3 => ?_, fun h2 => ?_⟩⟩
  · rcases h with h | h | h
    · exact absurd h h1
    · exact absurd (hz.1 h) h3
    · exact h.symm
  · exact (hz.2 (h2 h1)).symm
noncomputable def e110 : Ent := ⟨110, fun | [.str _, .str _] => true | _ => false, fun | [.str a, .str b] => .int .i64 (cmpS a b) | _ => .inil⟩
open Classical in
theorem ok110 : EntOk Tryz.prog [0] e110 := fun ds h => by
  unfold e110 at h ⊢
  simp only at h ⊢
  split at h
  · exact pc110 _ _
  · cases h
def lv86 : Nat → List Nat × List Nat
  | 2 => ([0, 1, 9, 10, 11], [])
  | _ => ([], [])
theorem pc86 (a b : Option (List ByteArray)) (ha : okS0 a) (hb : okS0 b) : PureCall Tryz.prog [0] 86 [encS a, encS b] (dRet (.int .i64 (cmpN (a.getD []) (b.getD [])))) := by
  have hl := ha.1
  have hr := hb.1
  refine pure_of_tree mixed fn86 (Nat.le_of_ble_eq_true rfl) (Nat.lt_of_succ_le (Nat.le_of_ble_eq_true rfl)) (sfOk (.cons ok110 .nil)) TbOk (lv := lv86) fun I F hI hF => ?_
  refine boxed fun C hC => ?_
  generalize hgen0 : encS a = gen0
  generalize hgen1 : encS b = gen1
  cbv
  subst hgen0
  subst hgen1
  subst hC
  refine ⟨?_⟩
  simp only [hI, hF, std]
  simp only [ib_add, ib_sub, ib_mul, ib_eql, ib_neq, ib_lss, ib_leq, ib_gtr, ib_geq, sb_eql, sb_neq, sb_lss, sb_gtr, eqI_eq, ltI_eq, leI_eq, eqB_eq, isIK_int, isIK_ite, isStrD_ite, asInt_ite, sat_req, sat_ite, sat_ret, sat_back, aimF_q, aimR_q, into_q, into_bk, binV_add, binV_sub, binV_mul, binV_eql, binV_neq, binV_lss, binV_leq, binV_gtr, binV_geq, binV_seql, binV_sneq, bbinV_eql, bbinV_neq, unV_not, unV_neg, convV_int, asBool_ite, isBoolD_ite, isBUD_ite, grdD_ite, grdD_bool, grdD_tup, isBUD_tup, isBUD_bool, isBoolD_tup, isBoolD_bool, asBool_tup, asBool_bool, isIntD_int, isStrD_str, asInt_int, asStr_str, lstD_sim, lstD_snil, isSlD_sim, isSlD_snil, isSnil_sim, isSnil_snil, Option.isSome_some, Option.getD_some, true_and, and_true, ↓reduceIte, Nat.reduceEqDiff, reduceCtorEq, pick_or, pick_and, pick_or', pick_and', Bool.not_not, ite_bool, dlV_cell, cells_agg, cells_str, cells_int, cells_bool, cells_sim, cells_snil, List.getD_cons_zero, List.getD_cons_succ, beq_tt, beq_ft, ite_same, imp_true, lookOk, lookRes, sfOf, sgOf, hOk, hRes, hOut, aimP_q, one_int, one_bool, one_str, one_sim, one_snil, one_fn, Int.toNat_natCast, Nat.zero_add, Int.toNat_zero, natCast_fold, Int.ofNat_eq_natCast, isB_bool, beq_self_eq_true, dIsAgg_agg, bel_d, bel7_d, bel_aggd, List.all_cons, List.all_nil, Bool.and_self, Bool.and_true, Bool.true_and, dlV_enc, enc_cells, lst_encO, isSl_encO, one_encO, lst_encS, isSl_encS, one_encS, isAgg_enc, toV_enc, isV_enc, toVs_enc, isVs_enc, toSs_enc, isSs_enc]
  try simp
  refine loop_rule (kend := fun I => kEndF I Tb [.tmp 4]) hI hF (sfOk (.cons ok110 .nil)) TbOk (by exact fun Bk e s h => endF TbOk Bk e s h) (lv := lv86) 0 (fun i : {i : Nat // i ≤ (a.getD []).length ∧ i ≤ (b.getD []).length ∧ cmpN (a.getD []) (b.getD []) = cmpN ((a.getD []).drop i) ((b.getD []).drop i)} => [.d (encS a), .d (encS b), .d (encS a), .d (.int .i64 ((a.getD []).length : Int)), .d (.int .i64 (i.1 : Int))]) (fun i : {i : Nat // i ≤ (a.getD []).length ∧ i ≤ (b.getD []).length ∧ cmpN (a.getD []) (b.getD []) = cmpN ((a.getD []).drop i) ((b.getD []).drop i)} => []) (fun i : {i : Nat // i ≤ (a.getD []).length ∧ i ≤ (b.getD []).length ∧ cmpN (a.getD []) (b.getD []) = cmpN ((a.getD []).drop i) ((b.getD []).drop i)} => (a.getD []).length - i.1) [] (⟨0, by omega, by omega, by simp⟩ : {i : Nat // i ≤ (a.getD []).length ∧ i ≤ (b.getD []).length ∧ cmpN (a.getD []) (b.getD []) = cmpN ((a.getD []).drop i) ((b.getD []).drop i)}) (by rfl) (by rfl) ?_ ?_ fun i => ?_
  · rfl
  · rfl
  obtain ⟨i, hi1, hi2, hi3⟩ := i
  refine boxed fun C hC => ?_
  generalize hgen0 : encS a = gen0
  generalize hgen1 : encS b = gen1
  generalize hgen2 : DV.int .i64 (i : Int) = gen2
  generalize hgen3 : DV.int .i64 ((a.getD []).length : Int) = gen3
  cbv
  subst hgen0
  subst hgen1
  subst hgen2
  subst hgen3
  subst hC
  refine ⟨?_⟩
  simp only [hI, hF, std]
  have w3 := wrap_succ (n := i) (by omega)
  by_cases hlt : i < (a.getD []).length ∧ i < (b.getD []).length
  · have g1 := get_str _ _ hlt.1
    have g2 := get_str _ _ hlt.2
    have hs := cmpN_step (a.getD []) (b.getD []) i hlt.1 hlt.2
    simp only [ib_add, ib_sub, ib_mul, ib_eql, ib_neq, ib_lss, ib_leq, ib_gtr, ib_geq, sb_eql, sb_neq, sb_lss, sb_gtr, eqI_eq, ltI_eq, leI_eq, eqB_eq, isIK_int, isIK_ite, isStrD_ite, asInt_ite, sat_req, sat_ite, sat_ret, sat_back, aimF_q, aimR_q, into_q, into_bk, binV_add, binV_sub, binV_mul, binV_eql, binV_neq, binV_lss, binV_leq, binV_gtr, binV_geq, binV_seql, binV_sneq, bbinV_eql, bbinV_neq, unV_not, unV_neg, convV_int, asBool_ite, isBoolD_ite, isBUD_ite, grdD_ite, grdD_bool, grdD_tup, isBUD_tup, isBUD_bool, isBoolD_tup, isBoolD_bool, asBool_tup, asBool_bool, isIntD_int, isStrD_str, asInt_int, asStr_str, lstD_sim, lstD_snil, isSlD_sim, isSlD_snil, isSnil_sim, isSnil_snil, Option.isSome_some, Option.getD_some, true_and, and_true, ↓reduceIte, Nat.reduceEqDiff, reduceCtorEq, pick_or, pick_and, pick_or', pick_and', Bool.not_not, ite_bool, dlV_cell, cells_agg, cells_str, cells_int, cells_bool, cells_sim, cells_snil, List.getD_cons_zero, List.getD_cons_succ, beq_tt, beq_ft, ite_same, imp_true, lookOk, lookRes, sfOf, sgOf, hOk, hRes, hOut, aimP_q, one_int, one_bool, one_str, one_sim, one_snil, one_fn, Int.toNat_natCast, Nat.zero_add, Int.toNat_zero, natCast_fold, Int.ofNat_eq_natCast, isB_bool, beq_self_eq_true, dIsAgg_agg, bel_d, bel7_d, bel_aggd, List.all_cons, List.all_nil, Bool.and_self, Bool.and_true, Bool.true_and, dlV_enc, enc_cells, lst_encO, isSl_encO, one_encO, lst_encS, isSl_encS, one_encS, isAgg_enc, toV_enc, isV_enc, toVs_enc, isVs_enc, toSs_enc, isSs_enc, g1, g2, e110]
    simp [hlt, w3, - List.getD_eq_getElem?_getD, hi3, hs]
    refine ⟨fun h => by omega, fun h => (thn_ne h).symm, fun h => ⟨i + 1, by omega, ⟨by omega, by omega, thn_eq h⟩, by simp⟩⟩
  · have he := cmpN_end (a.getD []) (b.getD []) i hlt hi1 hi2
    have hc : ∀ x y : Nat, cmpI x y = if x < y then -1 else if y < x then 1 else 0 := fun x y => by unfold cmpI; split <;> split <;> (try split) <;> omega
    by_cases h1 : i < (a.getD []).length
    · have g1 := get_str _ _ h1
      have h2 : ¬ i < (b.getD []).length := fun h => hlt ⟨h1, h⟩
      simp only [ib_add, ib_sub, ib_mul, ib_eql, ib_neq, ib_lss, ib_leq, ib_gtr, ib_geq, sb_eql, sb_neq, sb_lss, sb_gtr, eqI_eq, ltI_eq, leI_eq, eqB_eq, isIK_int, isIK_ite, isStrD_ite, asInt_ite, sat_req, sat_ite, sat_ret, sat_back, aimF_q, aimR_q, into_q, into_bk, binV_add, binV_sub, binV_mul, binV_eql, binV_neq, binV_lss, binV_leq, binV_gtr, binV_geq, binV_seql, binV_sneq, bbinV_eql, bbinV_neq, unV_not, unV_neg, convV_int, asBool_ite, isBoolD_ite, isBUD_ite, grdD_ite, grdD_bool, grdD_tup, isBUD_tup, isBUD_bool, isBoolD_tup, isBoolD_bool, asBool_tup, asBool_bool, isIntD_int, isStrD_str, asInt_int, asStr_str, lstD_sim, lstD_snil, isSlD_sim, isSlD_snil, isSnil_sim, isSnil_snil, Option.isSome_some, Option.getD_some, true_and, and_true, ↓reduceIte, Nat.reduceEqDiff, reduceCtorEq, pick_or, pick_and, pick_or', pick_and', Bool.not_not, ite_bool, dlV_cell, cells_agg, cells_str, cells_int, cells_bool, cells_sim, cells_snil, List.getD_cons_zero, List.getD_cons_succ, beq_tt, beq_ft, ite_same, imp_true, lookOk, lookRes, sfOf, sgOf, hOk, hRes, hOut, aimP_q, one_int, one_bool, one_str, one_sim, one_snil, one_fn, Int.toNat_natCast, Nat.zero_add, Int.toNat_zero, natCast_fold, Int.ofNat_eq_natCast, isB_bool, beq_self_eq_true, dIsAgg_agg, bel_d, bel7_d, bel_aggd, List.all_cons, List.all_nil, Bool.and_self, Bool.and_true, Bool.true_and, dlV_enc, enc_cells, lst_encO, isSl_encO, one_encO, lst_encS, isSl_encS, one_encS, isAgg_enc, toV_enc, isV_enc, toVs_enc, isVs_enc, toSs_enc, isSs_enc, g1, e110]
      simp [hi3, he, - List.getD_eq_getElem?_getD, h1, h2, hc]
      split <;> (try split) <;> omega
    · simp only [ib_add, ib_sub, ib_mul, ib_eql, ib_neq, ib_lss, ib_leq, ib_gtr, ib_geq, sb_eql, sb_neq, sb_lss, sb_gtr, eqI_eq, ltI_eq, leI_eq, eqB_eq, isIK_int, isIK_ite, isStrD_ite, asInt_ite, sat_req, sat_ite, sat_ret, sat_back, aimF_q, aimR_q, into_q, into_bk, binV_add, binV_sub, binV_mul, binV_eql, binV_neq, binV_lss, binV_leq, binV_gtr, binV_geq, binV_seql, binV_sneq, bbinV_eql, bbinV_neq, unV_not, unV_neg, convV_int, asBool_ite, isBoolD_ite, isBUD_ite, grdD_ite, grdD_bool, grdD_tup, isBUD_tup, isBUD_bool, isBoolD_tup, isBoolD_bool, asBool_tup, asBool_bool, isIntD_int, isStrD_str, asInt_int, asStr_str, lstD_sim, lstD_snil, isSlD_sim, isSlD_snil, isSnil_sim, isSnil_snil, Option.isSome_some, Option.getD_some, true_and, and_true, ↓reduceIte, Nat.reduceEqDiff, reduceCtorEq, pick_or, pick_and, pick_or', pick_and', Bool.not_not, ite_bool, dlV_cell, cells_agg, cells_str, cells_int, cells_bool, cells_sim, cells_snil, List.getD_cons_zero, List.getD_cons_succ, beq_tt, beq_ft, ite_same, imp_true, lookOk, lookRes, sfOf, sgOf, hOk, hRes, hOut, aimP_q, one_int, one_bool, one_str, one_sim, one_snil, one_fn, Int.toNat_natCast, Nat.zero_add, Int.toNat_zero, natCast_fold, Int.ofNat_eq_natCast, isB_bool, beq_self_eq_true, dIsAgg_agg, bel_d, bel7_d, bel_aggd, List.all_cons, List.all_nil, Bool.and_self, Bool.and_true, Bool.true_and, dlV_enc, enc_cells, lst_encO, isSl_encO, one_encO, lst_encS, isSl_encS, one_encS, isAgg_enc, toV_enc, isV_enc, toVs_enc, isVs_enc, toSs_enc, isSs_enc, e110]
      simp [hi3, he, - List.getD_eq_getElem?_getD, h1, hc]
      constructor <;> intro h <;> (try intro _) <;> (try split) <;> (try split) <;> omega
open Classical in
noncomputable def e86 : Ent := ⟨86, fun | [d_a, d_b] => decide (isSs d_a ∧ isSs d_b) | _ => false, fun | [d_a, d_b] => .int .i64 (cmpN ((toSs d_a).getD []) ((toSs d_b).getD [])) | _ => .inil⟩
open Classical in
theorem ok86 : EntOk Tryz.prog [0] e86 := fun ds h => by
  unfold e86 at h ⊢
  simp only at h ⊢
  split at h
  · rw [decide_eq_true_iff] at h
    obtain ⟨⟨v0, rfl, k0⟩, ⟨v1, rfl, k1⟩⟩ := h
    simp only [toV_enc, toVs_enc, toSs_enc]
    exact pc86 _ _ k0 k1
  · cases h

/-- The program's comparison of shorter values. -/
noncomputable def e68n (n : Nat) : Ent := { e36n n with f := 68 }
open Classical in
theorem ok68n {n : Nat} (h : ∀ v w : V, v.ok → w.ok → v.sz < n → PureCall Tryz.prog [0] 68 [v.enc, w.enc] (dRet (.int .i64 (cmpV v w)))) : EntOk Tryz.prog [0] (e68n n) := fun ds hk => by
  unfold e68n e36n at hk ⊢
  simp only at hk ⊢
  split at hk
  · rw [decide_eq_true_iff] at hk
    obtain ⟨⟨v, rfl, h1⟩, ⟨w, rfl, h2⟩, h3⟩ := hk
    simp only [toV_enc] at h3 ⊢
    exact h v w h1 h2 h3
  · cases hk
def lv87 : Nat → List Nat × List Nat
  | 2 => ([0, 1, 2, 11, 12, 13], [])
  | _ => ([], [])
theorem pc87 (n : Nat) (h68 : ∀ v w : V, v.ok → w.ok → v.sz < n → PureCall Tryz.prog [0] 68 [v.enc, w.enc] (dRet (.int .i64 (cmpV v w)))) (a b : Option (List V)) (ha : okO a) (hb : okO b) (hn : szO a < n) :
    PureCall Tryz.prog [0] 87 [encO a, encO b, .fn 68 []] (dRet (.int .i64 (cmpL (a.getD []) (b.getD [])))) := by
  have hl := okO_len ha
  have hr := okO_len hb
  have ok68' := ok68n h68
  refine pure_of_tree mixed fn87 (Nat.le_of_ble_eq_true rfl) (Nat.lt_of_succ_le (Nat.le_of_ble_eq_true rfl)) (sfOk (.cons ok68' .nil)) TbOk (lv := lv87) fun I F hI hF => ?_
  refine boxed fun C hC => ?_
  generalize hgen0 : encO a = gen0
  generalize hgen1 : encO b = gen1
  cbv
  subst hgen0
  subst hgen1
  subst hC
  refine ⟨?_⟩
  simp only [hI, hF, std]
  simp only [ib_add, ib_sub, ib_mul, ib_eql, ib_neq, ib_lss, ib_leq, ib_gtr, ib_geq, sb_eql, sb_neq, sb_lss, sb_gtr, eqI_eq, ltI_eq, leI_eq, eqB_eq, isIK_int, isIK_ite, isStrD_ite, asInt_ite, sat_req, sat_ite, sat_ret, sat_back, aimF_q, aimR_q, into_q, into_bk, binV_add, binV_sub, binV_mul, binV_eql, binV_neq, binV_lss, binV_leq, binV_gtr, binV_geq, binV_seql, binV_sneq, bbinV_eql, bbinV_neq, unV_not, unV_neg, convV_int, asBool_ite, isBoolD_ite, isBUD_ite, grdD_ite, grdD_bool, grdD_tup, isBUD_tup, isBUD_bool, isBoolD_tup, isBoolD_bool, asBool_tup, asBool_bool, isIntD_int, isStrD_str, asInt_int, asStr_str, lstD_sim, lstD_snil, isSlD_sim, isSlD_snil, isSnil_sim, isSnil_snil, Option.isSome_some, Option.getD_some, true_and, and_true, ↓reduceIte, Nat.reduceEqDiff, reduceCtorEq, pick_or, pick_and, pick_or', pick_and', Bool.not_not, ite_bool, dlV_cell, cells_agg, cells_str, cells_int, cells_bool, cells_sim, cells_snil, List.getD_cons_zero, List.getD_cons_succ, beq_tt, beq_ft, ite_same, imp_true, lookOk, lookRes, sfOf, sgOf, hOk, hRes, hOut, aimP_q, one_int, one_bool, one_str, one_sim, one_snil, one_fn, Int.toNat_natCast, Nat.zero_add, Int.toNat_zero, natCast_fold, Int.ofNat_eq_natCast, isB_bool, beq_self_eq_true, dIsAgg_agg, bel_d, bel7_d, bel_aggd, List.all_cons, List.all_nil, Bool.and_self, Bool.and_true, Bool.true_and, dlV_enc, enc_cells, lst_encO, isSl_encO, one_encO, lst_encS, isSl_encS, one_encS, isAgg_enc, toV_enc, isV_enc, toVs_enc, isVs_enc, toSs_enc, isSs_enc]
  try simp
  refine loop_rule (kend := fun I => kEndF I Tb [.tmp 6]) hI hF (sfOk (.cons ok68' .nil)) TbOk (by exact fun Bk e s h => endF TbOk Bk e s h) (lv := lv87) 0 (fun i : {i : Nat // i ≤ (a.getD []).length ∧ i ≤ (b.getD []).length ∧ cmpL (a.getD []) (b.getD []) = cmpL ((a.getD []).drop i) ((b.getD []).drop i)} => [.d (encO a), .d (encO b), .d (.fn 68 []), .d (encO a), .d (.int .i64 ((a.getD []).length : Int)), .d (.int .i64 (i.1 : Int))]) (fun i : {i : Nat // i ≤ (a.getD []).length ∧ i ≤ (b.getD []).length ∧ cmpL (a.getD []) (b.getD []) = cmpL ((a.getD []).drop i) ((b.getD []).drop i)} => []) (fun i : {i : Nat // i ≤ (a.getD []).length ∧ i ≤ (b.getD []).length ∧ cmpL (a.getD []) (b.getD []) = cmpL ((a.getD []).drop i) ((b.getD []).drop i)} => (a.getD []).length - i.1) [] (⟨0, by omega, by omega, by simp⟩ : {i : Nat // i ≤ (a.getD []).length ∧ i ≤ (b.getD []).length ∧ cmpL (a.getD []) (b.getD []) = cmpL ((a.getD []).drop i) ((b.getD []).drop i)}) (by rfl) (by rfl) ?_ ?_ fun i => ?_
  · rfl
  · rfl
  obtain ⟨i, hi1, hi2, hi3⟩ := i
  refine boxed fun C hC => ?_
  generalize hgen0 : encO a = gen0
  generalize hgen1 : encO b = gen1
  generalize hgen2 : DV.int .i64 (i : Int) = gen2
  generalize hgen3 : DV.int .i64 ((a.getD []).length : Int) = gen3
  cbv
  subst hgen0
  subst hgen1
  subst hgen2
  subst hgen3
  subst hC
  refine ⟨?_⟩
  simp only [hI, hF, std]
  have w3 := wrap_succ (n := i) (by omega)
  by_cases hlt : i < (a.getD []).length ∧ i < (b.getD []).length
  · have g1 := get_enc _ _ hlt.1
    have g2 := get_enc _ _ hlt.2
    have k1 := okO_get ha hlt.1
    have k2 := okO_get hb hlt.2
    have k3 := szO_get hlt.1
    have k4 : ((a.getD []).getD i default).sz < n := by omega
    have hs := cmpL_step (a.getD []) (b.getD []) i hlt.1 hlt.2
    simp only [ib_add, ib_sub, ib_mul, ib_eql, ib_neq, ib_lss, ib_leq, ib_gtr, ib_geq, sb_eql, sb_neq, sb_lss, sb_gtr, eqI_eq, ltI_eq, leI_eq, eqB_eq, isIK_int, isIK_ite, isStrD_ite, asInt_ite, sat_req, sat_ite, sat_ret, sat_back, aimF_q, aimR_q, into_q, into_bk, binV_add, binV_sub, binV_mul, binV_eql, binV_neq, binV_lss, binV_leq, binV_gtr, binV_geq, binV_seql, binV_sneq, bbinV_eql, bbinV_neq, unV_not, unV_neg, convV_int, asBool_ite, isBoolD_ite, isBUD_ite, grdD_ite, grdD_bool, grdD_tup, isBUD_tup, isBUD_bool, isBoolD_tup, isBoolD_bool, asBool_tup, asBool_bool, isIntD_int, isStrD_str, asInt_int, asStr_str, lstD_sim, lstD_snil, isSlD_sim, isSlD_snil, isSnil_sim, isSnil_snil, Option.isSome_some, Option.getD_some, true_and, and_true, ↓reduceIte, Nat.reduceEqDiff, reduceCtorEq, pick_or, pick_and, pick_or', pick_and', Bool.not_not, ite_bool, dlV_cell, cells_agg, cells_str, cells_int, cells_bool, cells_sim, cells_snil, List.getD_cons_zero, List.getD_cons_succ, beq_tt, beq_ft, ite_same, imp_true, lookOk, lookRes, sfOf, sgOf, hOk, hRes, hOut, aimP_q, one_int, one_bool, one_str, one_sim, one_snil, one_fn, Int.toNat_natCast, Nat.zero_add, Int.toNat_zero, natCast_fold, Int.ofNat_eq_natCast, isB_bool, beq_self_eq_true, dIsAgg_agg, bel_d, bel7_d, bel_aggd, List.all_cons, List.all_nil, Bool.and_self, Bool.and_true, Bool.true_and, dlV_enc, enc_cells, lst_encO, isSl_encO, one_encO, lst_encS, isSl_encS, one_encS, isAgg_enc, toV_enc, isV_enc, toVs_enc, isVs_enc, toSs_enc, isSs_enc, g1, g2, e68n, e36n]
    simp [hlt, w3, - List.getD_eq_getElem?_getD, hi3, hs, k1, k2, k4, dlV_enc, enc_cells, lst_encO, isSl_encO, one_encO, lst_encS, isSl_encS, one_encS, isAgg_enc, toV_enc, isV_enc, toVs_enc, isVs_enc, toSs_enc, isSs_enc]
    refine ⟨fun h => by omega, fun h => (thn_ne h).symm, fun h => ⟨i + 1, by omega, ⟨by omega, by omega, thn_eq h⟩, by simp⟩⟩
  · have he := cmpL_end (a.getD []) (b.getD []) i hlt hi1 hi2
    have hc : ∀ x y : Nat, cmpI x y = if x < y then -1 else if y < x then 1 else 0 := fun x y => by unfold cmpI; split <;> split <;> (try split) <;> omega
    by_cases h1 : i < (a.getD []).length
    · have g1 := get_enc _ _ h1
      have h2 : ¬ i < (b.getD []).length := fun h => hlt ⟨h1, h⟩
      simp only [ib_add, ib_sub, ib_mul, ib_eql, ib_neq, ib_lss, ib_leq, ib_gtr, ib_geq, sb_eql, sb_neq, sb_lss, sb_gtr, eqI_eq, ltI_eq, leI_eq, eqB_eq, isIK_int, isIK_ite, isStrD_ite, asInt_ite, sat_req, sat_ite, sat_ret, sat_back, aimF_q, aimR_q, into_q, into_bk, binV_add, binV_sub, binV_mul, binV_eql, binV_neq, binV_lss, binV_leq, binV_gtr, binV_geq, binV_seql, binV_sneq, bbinV_eql, bbinV_neq, unV_not, unV_neg, convV_int, asBool_ite, isBoolD_ite, isBUD_ite, grdD_ite, grdD_bool, grdD_tup, isBUD_tup, isBUD_bool, isBoolD_tup, isBoolD_bool, asBool_tup, asBool_bool, isIntD_int, isStrD_str, asInt_int, asStr_str, lstD_sim, lstD_snil, isSlD_sim, isSlD_snil, isSnil_sim, isSnil_snil, Option.isSome_some, Option.getD_some, true_and, and_true, ↓reduceIte, Nat.reduceEqDiff, reduceCtorEq, pick_or, pick_and, pick_or', pick_and', Bool.not_not, ite_bool, dlV_cell, cells_agg, cells_str, cells_int, cells_bool, cells_sim, cells_snil, List.getD_cons_zero, List.getD_cons_succ, beq_tt, beq_ft, ite_same, imp_true, lookOk, lookRes, sfOf, sgOf, hOk, hRes, hOut, aimP_q, one_int, one_bool, one_str, one_sim, one_snil, one_fn, Int.toNat_natCast, Nat.zero_add, Int.toNat_zero, natCast_fold, Int.ofNat_eq_natCast, isB_bool, beq_self_eq_true, dIsAgg_agg, bel_d, bel7_d, bel_aggd, List.all_cons, List.all_nil, Bool.and_self, Bool.and_true, Bool.true_and, dlV_enc, enc_cells, lst_encO, isSl_encO, one_encO, lst_encS, isSl_encS, one_encS, isAgg_enc, toV_enc, isV_enc, toVs_enc, isVs_enc, toSs_enc, isSs_enc, g1, e68n, e36n]
      simp [hi3, he, - List.getD_eq_getElem?_getD, h1, h2, hc]
      repeat' (first | apply And.intro | intro _)
      all_goals first | omega | (split <;> (try split) <;> omega) | skip
      trace_state
    · simp only [ib_add, ib_sub, ib_mul, ib_eql, ib_neq, ib_lss, ib_leq, ib_gtr, ib_geq, sb_eql, sb_neq, sb_lss, sb_gtr, eqI_eq, ltI_eq, leI_eq, eqB_eq, isIK_int, isIK_ite, isStrD_ite, asInt_ite, sat_req, sat_ite, sat_ret, sat_back, aimF_q, aimR_q, into_q, into_bk, binV_add, binV_sub, binV_mul, binV_eql, binV_neq, binV_lss, binV_leq, binV_gtr, binV_geq, binV_seql, binV_sneq, bbinV_eql, bbinV_neq, unV_not, unV_neg, convV_int, asBool_ite, isBoolD_ite, isBUD_ite, grdD_ite, grdD_bool, grdD_tup, isBUD_tup, isBUD_bool, isBoolD_tup, isBoolD_bool, asBool_tup, asBool_bool, isIntD_int, isStrD_str, asInt_int, asStr_str, lstD_sim, lstD_snil, isSlD_sim, isSlD_snil, isSnil_sim, isSnil_snil, Option.isSome_some, Option.getD_some, true_and, and_true, ↓reduceIte, Nat.reduceEqDiff, reduceCtorEq, pick_or, pick_and, pick_or', pick_and', Bool.not_not, ite_bool, dlV_cell, cells_agg, cells_str, cells_int, cells_bool, cells_sim, cells_snil, List.getD_cons_zero, List.getD_cons_succ, beq_tt, beq_ft, ite_same, imp_true, lookOk, lookRes, sfOf, sgOf, hOk, hRes, hOut, aimP_q, one_int, one_bool, one_str, one_sim, one_snil, one_fn, Int.toNat_natCast, Nat.zero_add, Int.toNat_zero, natCast_fold, Int.ofNat_eq_natCast, isB_bool, beq_self_eq_true, dIsAgg_agg, bel_d, bel7_d, bel_aggd, List.all_cons, List.all_nil, Bool.and_self, Bool.and_true, Bool.true_and, dlV_enc, enc_cells, lst_encO, isSl_encO, one_encO, lst_encS, isSl_encS, one_encS, isAgg_enc, toV_enc, isV_enc, toVs_enc, isVs_enc, toSs_enc, isSs_enc, e68n, e36n]
      simp [hi3, he, - List.getD_eq_getElem?_getD, h1, hc]
      constructor <;> intro h <;> (try intro _) <;> (try split) <;> (try split) <;> omega

def lv68 : Nat → List Nat × List Nat
  | 2 => ([2, 3, 24, 25, 26], [0, 1, 2])
  | _ => ([], [])
theorem pc68n : ∀ (n : Nat) (v w : V), v.ok → w.ok → v.sz < n → PureCall Tryz.prog [0] 68 [v.enc, w.enc] (dRet (.int .i64 (cmpV v w)))
  | 0, v, w, _, _, h => by omega
  | n + 1, v, w, hv, hw, hn => by
    have ih := pc68n n
    have hsz : szO v.it < n := by
      obtain ⟨k, m, e, s, nm, it⟩ := v
      simp only [V.sz] at hn
      simp only [V.it]; omega
    have pc87' := pc87 n ih v.it w.it (V.ok_it hv) (V.ok_it hw) hsz
    have ok87' : EntOk Tryz.prog [0] ⟨87, fun ds => match ds with | [a, b, .fn 68 []] => scalarV a v.it && scalarV b w.it | _ => false, fun _ => .int .i64 (cmpL v.items w.items)⟩ := fun ds h => by
      simp only at h
      split at h
      · simp only [Bool.and_eq_true, scalarV, decide_eq_true_iff] at h
        rw [h.1, h.2]; exact pc87'
      · cases h
    refine pure_of_tree mixed fn68 (Nat.le_of_ble_eq_true rfl) (Nat.lt_of_succ_le (Nat.le_of_ble_eq_true rfl)) (sfOk (.cons ok85 (.cons ok86 (.cons ok87' .nil)))) TbOk (lv := lv68) fun I F hI hF => ?_
    refine boxed fun C hC => ?_
    generalize hgen0 : v.enc = gen0
    generalize hgen1 : w.enc = gen1
    cbv
    subst hgen0
    subst hgen1
    subst hC
    refine ⟨?_⟩
    simp only [hI, hF, std]
    simp only [ib_add, ib_sub, ib_mul, ib_eql, ib_neq, ib_lss, ib_leq, ib_gtr, ib_geq, sb_eql, sb_neq, sb_lss, sb_gtr, eqI_eq, ltI_eq, leI_eq, eqB_eq, isIK_int, isIK_ite, isStrD_ite, asInt_ite, sat_req, sat_ite, sat_ret, sat_back, aimF_q, aimR_q, into_q, into_bk, binV_add, binV_sub, binV_mul, binV_eql, binV_neq, binV_lss, binV_leq, binV_gtr, binV_geq, binV_seql, binV_sneq, bbinV_eql, bbinV_neq, unV_not, unV_neg, convV_int, asBool_ite, isBoolD_ite, isBUD_ite, grdD_ite, grdD_bool, grdD_tup, isBUD_tup, isBUD_bool, isBoolD_tup, isBoolD_bool, asBool_tup, asBool_bool, isIntD_int, isStrD_str, asInt_int, asStr_str, lstD_sim, lstD_snil, isSlD_sim, isSlD_snil, isSnil_sim, isSnil_snil, Option.isSome_some, Option.getD_some, true_and, and_true, ↓reduceIte, Nat.reduceEqDiff, reduceCtorEq, pick_or, pick_and, pick_or', pick_and', Bool.not_not, ite_bool, dlV_cell, cells_agg, cells_str, cells_int, cells_bool, cells_sim, cells_snil, List.getD_cons_zero, List.getD_cons_succ, beq_tt, beq_ft, ite_same, imp_true, lookOk, lookRes, sfOf, sgOf, hOk, hRes, hOut, aimP_q, one_int, one_bool, one_str, one_sim, one_snil, one_fn, Int.toNat_natCast, Nat.zero_add, Int.toNat_zero, natCast_fold, Int.ofNat_eq_natCast, isB_bool, beq_self_eq_true, dIsAgg_agg, bel_d, bel7_d, bel_aggd, List.all_cons, List.all_nil, Bool.and_self, Bool.and_true, Bool.true_and, dlV_enc, enc_cells, lst_encO, isSl_encO, one_encO, lst_encS, isSl_encS, one_encS, isAgg_enc, toV_enc, isV_enc, toVs_enc, isVs_enc, toSs_enc, isSs_enc]
    try simp
    have hal := cmpV_eq' v w
    rw [cmpIs3] at hal
    refine loop_rule (I := { I with off := fun n x => n + (Am.asInt x).toNat }) (kend := fun I => kEndF I Tb [.tmp 4]) (by subst hI; rfl) hF (sfOk (.cons ok85 (.cons ok86 (.cons ok87' .nil)))) TbOk (endF TbOk) (lv := lv68) 0
      (fun i : {i : Fin 4 // (0 < i.1 → v.k = w.k) ∧ (1 < i.1 → v.n = w.n) ∧ (2 < i.1 → v.e = w.e)} => [.loc 0 6 0 0, .loc 1 6 0 0, .slc 2 2 0 3, .d (.int .i64 3), .d (.int .i64 (i.1.1 : Int))])
      (fun _ => [(0, some ⟨[.d v.enc], 6, 25, true, true⟩), (1, some ⟨[.d w.enc], 6, 25, true, true⟩), (2, some ⟨[.agg [.d (.int .i64 v.k), .d (.int .i64 w.k)], .agg [.d (.int .i64 v.n), .d (.int .i64 w.n)], .agg [.d (.int .i64 v.e), .d (.int .i64 w.e)]], 2, 112, true, true⟩)])
      (fun i => 3 - i.1.1) [0, 1, 2] ⟨0, by omega, by omega, by omega⟩ rfl rfl ?_ ?_ fun i => ?_
    · rfl
    · rfl
    obtain ⟨i, hi1, hi2, hi3⟩ := i
    match i, hi1, hi2, hi3 with
    | 0, hi1, hi2, hi3 =>
      refine boxed fun C hC => ?_
      generalize hgen0 : v.enc = gen0
      generalize hgen1 : w.enc = gen1
      generalize hgen2 : DV.int .i64 v.k = gen2
      generalize hgen3 : DV.int .i64 v.n = gen3
      generalize hgen4 : DV.int .i64 v.e = gen4
      generalize hgen5 : DV.int .i64 w.k = gen5
      generalize hgen6 : DV.int .i64 w.n = gen6
      generalize hgen7 : DV.int .i64 w.e = gen7
      cbv
      subst hgen0
      subst hgen1
      subst hgen2
      subst hgen3
      subst hgen4
      subst hgen5
      subst hgen6
      subst hgen7
      subst hC
      refine ⟨?_⟩
      simp only [hI, hF, std]
      simp only [ib_add, ib_sub, ib_mul, ib_eql, ib_neq, ib_lss, ib_leq, ib_gtr, ib_geq, sb_eql, sb_neq, sb_lss, sb_gtr, eqI_eq, ltI_eq, leI_eq, eqB_eq, isIK_int, isIK_ite, isStrD_ite, asInt_ite, sat_req, sat_ite, sat_ret, sat_back, aimF_q, aimR_q, into_q, into_bk, binV_add, binV_sub, binV_mul, binV_eql, binV_neq, binV_lss, binV_leq, binV_gtr, binV_geq, binV_seql, binV_sneq, bbinV_eql, bbinV_neq, unV_not, unV_neg, convV_int, asBool_ite, isBoolD_ite, isBUD_ite, grdD_ite, grdD_bool, grdD_tup, isBUD_tup, isBUD_bool, isBoolD_tup, isBoolD_bool, asBool_tup, asBool_bool, isIntD_int, isStrD_str, asInt_int, asStr_str, lstD_sim, lstD_snil, isSlD_sim, isSlD_snil, isSnil_sim, isSnil_snil, Option.isSome_some, Option.getD_some, true_and, and_true, ↓reduceIte, Nat.reduceEqDiff, reduceCtorEq, pick_or, pick_and, pick_or', pick_and', Bool.not_not, ite_bool, dlV_cell, cells_agg, cells_str, cells_int, cells_bool, cells_sim, cells_snil, List.getD_cons_zero, List.getD_cons_succ, beq_tt, beq_ft, ite_same, imp_true, lookOk, lookRes, sfOf, sgOf, hOk, hRes, hOut, aimP_q, one_int, one_bool, one_str, one_sim, one_snil, one_fn, Int.toNat_natCast, Nat.zero_add, Int.toNat_zero, natCast_fold, Int.ofNat_eq_natCast, isB_bool, beq_self_eq_true, dIsAgg_agg, bel_d, bel7_d, bel_aggd, List.all_cons, List.all_nil, Bool.and_self, Bool.and_true, Bool.true_and, dlV_enc, enc_cells, lst_encO, isSl_encO, one_encO, lst_encS, isSl_encS, one_encS, isAgg_enc, toV_enc, isV_enc, toVs_enc, isVs_enc, toSs_enc, isSs_enc]
      have hlt : (Int.ofNat 0 < 3) := by decide
      have hge : (0 ≤ Int.ofNat 0) := by decide
      have hw1 : IntKind.i64.wrap (Int.ofNat 0 + 1) = 1 := rfl
      rw [thn_assoc] at hal
      by_cases hk : v.k = w.k
      · simp [hk, hlt, hge, hw1]
        refine ⟨⟨1, by decide⟩, ?_⟩
        have q1 := hi1
        have q2 := hi2
        simp at q1 q2
        simp [hk, q1, q2]
        rfl
      · rw [thn_ne (fun e => hk ((cmpI_zero _ _).1 e))] at hal
        simp [hk, hlt, hge, hal, cmpI]
        repeat' (first | apply And.intro | intro _)
        all_goals first | omega | (split <;> (try split) <;> omega)
    | 1, hi1, hi2, hi3 =>
      refine boxed fun C hC => ?_
      generalize hgen0 : v.enc = gen0
      generalize hgen1 : w.enc = gen1
      generalize hgen2 : DV.int .i64 v.k = gen2
      generalize hgen3 : DV.int .i64 v.n = gen3
      generalize hgen4 : DV.int .i64 v.e = gen4
      generalize hgen5 : DV.int .i64 w.k = gen5
      generalize hgen6 : DV.int .i64 w.n = gen6
      generalize hgen7 : DV.int .i64 w.e = gen7
      cbv
      subst hgen0
      subst hgen1
      subst hgen2
      subst hgen3
      subst hgen4
      subst hgen5
      subst hgen6
      subst hgen7
      subst hC
      refine ⟨?_⟩
      simp only [hI, hF, std]
      simp only [ib_add, ib_sub, ib_mul, ib_eql, ib_neq, ib_lss, ib_leq, ib_gtr, ib_geq, sb_eql, sb_neq, sb_lss, sb_gtr, eqI_eq, ltI_eq, leI_eq, eqB_eq, isIK_int, isIK_ite, isStrD_ite, asInt_ite, sat_req, sat_ite, sat_ret, sat_back, aimF_q, aimR_q, into_q, into_bk, binV_add, binV_sub, binV_mul, binV_eql, binV_neq, binV_lss, binV_leq, binV_gtr, binV_geq, binV_seql, binV_sneq, bbinV_eql, bbinV_neq, unV_not, unV_neg, convV_int, asBool_ite, isBoolD_ite, isBUD_ite, grdD_ite, grdD_bool, grdD_tup, isBUD_tup, isBUD_bool, isBoolD_tup, isBoolD_bool, asBool_tup, asBool_bool, isIntD_int, isStrD_str, asInt_int, asStr_str, lstD_sim, lstD_snil, isSlD_sim, isSlD_snil, isSnil_sim, isSnil_snil, Option.isSome_some, Option.getD_some, true_and, and_true, ↓reduceIte, Nat.reduceEqDiff, reduceCtorEq, pick_or, pick_and, pick_or', pick_and', Bool.not_not, ite_bool, dlV_cell, cells_agg, cells_str, cells_int, cells_bool, cells_sim, cells_snil, List.getD_cons_zero, List.getD_cons_succ, beq_tt, beq_ft, ite_same, imp_true, lookOk, lookRes, sfOf, sgOf, hOk, hRes, hOut, aimP_q, one_int, one_bool, one_str, one_sim, one_snil, one_fn, Int.toNat_natCast, Nat.zero_add, Int.toNat_zero, natCast_fold, Int.ofNat_eq_natCast, isB_bool, beq_self_eq_true, dIsAgg_agg, bel_d, bel7_d, bel_aggd, List.all_cons, List.all_nil, Bool.and_self, Bool.and_true, Bool.true_and, dlV_enc, enc_cells, lst_encO, isSl_encO, one_encO, lst_encS, isSl_encS, one_encS, isAgg_enc, toV_enc, isV_enc, toVs_enc, isVs_enc, toSs_enc, isSs_enc]
      have hlt : (Int.ofNat 1 < 3) := by decide
      have hge : (0 ≤ Int.ofNat 1) := by decide
      have hw1 : IntKind.i64.wrap (Int.ofNat 1 + 1) = 2 := rfl
      rw [thn_eq (a := cmpI v.k w.k) ((cmpI_zero _ _).2 (hi1 (by simp))), thn_assoc] at hal
      by_cases hk : v.n = w.n
      · simp [hk, hlt, hge, hw1]
        refine ⟨⟨2, by decide⟩, ?_⟩
        have q1 := hi1
        have q2 := hi2
        simp at q1 q2
        simp [hk, q1, q2]
        rfl
      · rw [thn_ne (fun e => hk ((cmpI_zero _ _).1 e))] at hal
        simp [hk, hlt, hge, hal, cmpI]
        repeat' (first | apply And.intro | intro _)
        all_goals first | omega | (split <;> (try split) <;> omega)
    | 2, hi1, hi2, hi3 =>
      refine boxed fun C hC => ?_
      generalize hgen0 : v.enc = gen0
      generalize hgen1 : w.enc = gen1
      generalize hgen2 : DV.int .i64 v.k = gen2
      generalize hgen3 : DV.int .i64 v.n = gen3
      generalize hgen4 : DV.int .i64 v.e = gen4
      generalize hgen5 : DV.int .i64 w.k = gen5
      generalize hgen6 : DV.int .i64 w.n = gen6
      generalize hgen7 : DV.int .i64 w.e = gen7
      cbv
      subst hgen0
      subst hgen1
      subst hgen2
      subst hgen3
      subst hgen4
      subst hgen5
      subst hgen6
      subst hgen7
      subst hC
      refine ⟨?_⟩
      simp only [hI, hF, std]
      simp only [ib_add, ib_sub, ib_mul, ib_eql, ib_neq, ib_lss, ib_leq, ib_gtr, ib_geq, sb_eql, sb_neq, sb_lss, sb_gtr, eqI_eq, ltI_eq, leI_eq, eqB_eq, isIK_int, isIK_ite, isStrD_ite, asInt_ite, sat_req, sat_ite, sat_ret, sat_back, aimF_q, aimR_q, into_q, into_bk, binV_add, binV_sub, binV_mul, binV_eql, binV_neq, binV_lss, binV_leq, binV_gtr, binV_geq, binV_seql, binV_sneq, bbinV_eql, bbinV_neq, unV_not, unV_neg, convV_int, asBool_ite, isBoolD_ite, isBUD_ite, grdD_ite, grdD_bool, grdD_tup, isBUD_tup, isBUD_bool, isBoolD_tup, isBoolD_bool, asBool_tup, asBool_bool, isIntD_int, isStrD_str, asInt_int, asStr_str, lstD_sim, lstD_snil, isSlD_sim, isSlD_snil, isSnil_sim, isSnil_snil, Option.isSome_some, Option.getD_some, true_and, and_true, ↓reduceIte, Nat.reduceEqDiff, reduceCtorEq, pick_or, pick_and, pick_or', pick_and', Bool.not_not, ite_bool, dlV_cell, cells_agg, cells_str, cells_int, cells_bool, cells_sim, cells_snil, List.getD_cons_zero, List.getD_cons_succ, beq_tt, beq_ft, ite_same, imp_true, lookOk, lookRes, sfOf, sgOf, hOk, hRes, hOut, aimP_q, one_int, one_bool, one_str, one_sim, one_snil, one_fn, Int.toNat_natCast, Nat.zero_add, Int.toNat_zero, natCast_fold, Int.ofNat_eq_natCast, isB_bool, beq_self_eq_true, dIsAgg_agg, bel_d, bel7_d, bel_aggd, List.all_cons, List.all_nil, Bool.and_self, Bool.and_true, Bool.true_and, dlV_enc, enc_cells, lst_encO, isSl_encO, one_encO, lst_encS, isSl_encS, one_encS, isAgg_enc, toV_enc, isV_enc, toVs_enc, isVs_enc, toSs_enc, isSs_enc]
      have hlt : (Int.ofNat 2 < 3) := by decide
      have hge : (0 ≤ Int.ofNat 2) := by decide
      have hw1 : IntKind.i64.wrap (Int.ofNat 2 + 1) = 3 := rfl
      rw [thn_eq (a := cmpI v.k w.k) ((cmpI_zero _ _).2 (hi1 (by simp))), thn_eq (a := cmpI v.n w.n) ((cmpI_zero _ _).2 (hi2 (by simp)))] at hal
      by_cases hk : v.e = w.e
      · simp [hk, hlt, hge, hw1]
        refine ⟨⟨3, by decide⟩, ?_⟩
        have q1 := hi1
        have q2 := hi2
        simp at q1 q2
        simp [hk, q1, q2]
        rfl
      · rw [thn_ne (fun e => hk ((cmpI_zero _ _).1 e))] at hal
        simp [hk, hlt, hge, hal, cmpI]
        repeat' (first | apply And.intro | intro _)
        all_goals first | omega | (split <;> (try split) <;> omega)
    | 3, hi1, hi2, hi3 =>
      refine boxed fun C hC => ?_
      generalize hgen0 : v.enc = gen0
      generalize hgen1 : w.enc = gen1
      generalize hgen2 : DV.int .i64 v.k = gen2
      generalize hgen3 : DV.int .i64 v.n = gen3
      generalize hgen4 : DV.int .i64 v.e = gen4
      generalize hgen5 : DV.int .i64 w.k = gen5
      generalize hgen6 : DV.int .i64 w.n = gen6
      generalize hgen7 : DV.int .i64 w.e = gen7
      cbv
      subst hgen0
      subst hgen1
      subst hgen2
      subst hgen3
      subst hgen4
      subst hgen5
      subst hgen6
      subst hgen7
      subst hC
      refine ⟨?_⟩
      simp only [hI, hF, std]
      have hlt : ¬ (Int.ofNat 3 < 3) := by decide
      rw [thn_eq (a := cmpI v.k w.k) ((cmpI_zero _ _).2 (hi1 (by decide))), thn_eq (a := cmpI v.n w.n) ((cmpI_zero _ _).2 (hi2 (by decide))), thn_eq (a := cmpI v.e w.e) ((cmpI_zero _ _).2 (hi3 (by decide)))] at hal
      have e85' : ∀ a b, e85.res [.str a, .str b] = .int .i64 (cmpS a b) := fun a b => rfl
      have e85k : ∀ a b, e85.ok [.str a, .str b] = true := fun a b => rfl
      have f85 : e85.f = 85 := rfl
      have f86 : e86.f = 86 := rfl
      have e86' : e86.res [encS v.nm, encS w.nm] = .int .i64 (cmpN v.names w.names) := by unfold e86; simp only [toSs_enc]; rfl
      have e86k : e86.ok [encS v.nm, encS w.nm] = true := by unfold e86; simp [isSs_enc, V.ok_nm hv, V.ok_nm hw]
      simp only [ib_add, ib_sub, ib_mul, ib_eql, ib_neq, ib_lss, ib_leq, ib_gtr, ib_geq, sb_eql, sb_neq, sb_lss, sb_gtr, eqI_eq, ltI_eq, leI_eq, eqB_eq, isIK_int, isIK_ite, isStrD_ite, asInt_ite, sat_req, sat_ite, sat_ret, sat_back, aimF_q, aimR_q, into_q, into_bk, binV_add, binV_sub, binV_mul, binV_eql, binV_neq, binV_lss, binV_leq, binV_gtr, binV_geq, binV_seql, binV_sneq, bbinV_eql, bbinV_neq, unV_not, unV_neg, convV_int, asBool_ite, isBoolD_ite, isBUD_ite, grdD_ite, grdD_bool, grdD_tup, isBUD_tup, isBUD_bool, isBoolD_tup, isBoolD_bool, asBool_tup, asBool_bool, isIntD_int, isStrD_str, asInt_int, asStr_str, lstD_sim, lstD_snil, isSlD_sim, isSlD_snil, isSnil_sim, isSnil_snil, Option.isSome_some, Option.getD_some, true_and, and_true, ↓reduceIte, Nat.reduceEqDiff, reduceCtorEq, pick_or, pick_and, pick_or', pick_and', Bool.not_not, ite_bool, dlV_cell, cells_agg, cells_str, cells_int, cells_bool, cells_sim, cells_snil, List.getD_cons_zero, List.getD_cons_succ, beq_tt, beq_ft, ite_same, imp_true, lookOk, lookRes, sfOf, sgOf, hOk, hRes, hOut, aimP_q, one_int, one_bool, one_str, one_sim, one_snil, one_fn, Int.toNat_natCast, Nat.zero_add, Int.toNat_zero, natCast_fold, Int.ofNat_eq_natCast, isB_bool, beq_self_eq_true, dIsAgg_agg, bel_d, bel7_d, bel_aggd, List.all_cons, List.all_nil, Bool.and_self, Bool.and_true, Bool.true_and, dlV_enc, enc_cells, lst_encO, isSl_encO, one_encO, lst_encS, isSl_encS, one_encS, isAgg_enc, toV_enc, isV_enc, toVs_enc, isVs_enc, toSs_enc, isSs_enc, f85, f86, e85', e85k, e86', e86k, scalarV_enc]
      by_cases h1 : cmpS v.s w.s = 0
      · rw [thn_eq h1] at hal
        by_cases h2 : cmpN v.names w.names = 0
        · rw [thn_eq h2] at hal
          simp [hlt, h1, h2, hal]
        · rw [thn_ne h2] at hal
          simp [hlt, h1, h2, hal]
      · rw [thn_ne h1] at hal
        simp [hlt, h1, hal]
theorem pc68 (v w : V) (hv : v.ok) (hw : w.ok) : PureCall Tryz.prog [0] 68 [v.enc, w.enc] (dRet (.int .i64 (cmpV v w))) := pc68n (v.sz + 1) v w hv hw (by omega)
open Classical in
noncomputable def e68 : Ent := ⟨68, fun | [d_v, d_w] => decide (isV d_v ∧ isV d_w) | _ => false, fun | [d_v, d_w] => .int .i64 (cmpV (toV d_v) (toV d_w)) | _ => .inil⟩
open Classical in
theorem ok68 : EntOk Tryz.prog [0] e68 := fun ds h => by
  unfold e68 at h ⊢
  simp only at h ⊢
  split at h
  · rw [decide_eq_true_iff] at h
    obtain ⟨⟨v0, rfl, k0⟩, ⟨v1, rfl, k1⟩⟩ := h
    simp only [toV_enc, toVs_enc, toSs_enc]
    exact pc68 _ _ k0 k1
  · cases h
end Go.Proofs.Sx
