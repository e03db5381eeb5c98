/- The law holds of all values and environments of at most so many values and letters. -/
import Derived.Test.YtmjkaekhjmlnbaaGreatDoorSx17
import Derived.Test.YtmjkaekhjmlnbaaGreatDoorSxA
import Derived.Test.YtmjkaekhjmlnbaaGreatDoorSxBase
import Derived.Test.YtmjkaekhjmlnbaaGreatDoorAmPtr
set_option linter.unusedVariables false
set_option linter.unusedSimpArgs false
set_option maxRecDepth 100000
namespace Go.Proofs.Sx
open Go Go.Proofs Go.Proofs.Am 
variable {gs : List Nat}

theorem okBs_own {o : Option (List B)} (h : okBs o) : okBs (ownEs o) := by
  unfold ownEs
  split
  · exact ⟨by simp, by simp⟩
  · refine ⟨by simpa using h.1, fun x hx => ?_⟩
    obtain ⟨b, hb, rfl⟩ := List.mem_map.1 hx
    exact ⟨(h.2 b hb).1, own_ok (h.2 b hb).2⟩
theorem ownEs_get (o : Option (List B)) : (ownEs o).getD [] = (o.getD []).map ownB := by
  unfold ownEs
  split
  · rename_i h; rw [h]; rfl
  · rfl
theorem idxB_own : ∀ (l : List B) (s : ByteArray), idxB (l.map ownB) s = idxB l s
  | [], s => rfl
  | x :: l, s => by simp only [List.map_cons, idxB, idxB_own l s, ownB]
theorem chk_own : ∀ (l pre : List B), chk (pre.map ownB) (l.map ownB) = chk pre l
  | [], pre => rfl
  | b :: r, pre => by
    have h := chk_own r (pre ++ [b])
    rw [List.map_append, List.map_cons, List.map_nil] at h
    simp only [List.map_cons, chk, List.length_map, idxB_own]
    rw [h]
    simp only [ownB, valE_own]
theorem envE_own (o : Option (List B)) : envE ((ownEs o).getD []) = envE (o.getD []) := by
  rw [ownEs_get]
  unfold envE
  rw [List.length_map]
  have := chk_own (o.getD []) []
  rw [List.map_nil] at this
  rw [this]
theorem pc3 (v : V) (o : Option (List B)) (hv : v.ok) (ho : okBs o) : PureCall Tryz.prog [0] 3 [v.enc, .agg [encBs o]] (dRet (.bool true)) := by
  refine pure_of_tree mixed fn3 (Nat.le_of_ble_eq_true rfl) (Nat.lt_of_succ_le (Nat.le_of_ble_eq_true rfl)) (sfOk (.cons ok4 (.cons ok5 (.cons ok6 (.cons ok8 (.cons ok7 (.cons ok9 (.cons ok11 (.cons ok10 (.cons ok12 .nil)))))))))) TbOk (lv := lv0) fun I F hI hF => ?_
  refine boxed fun C hC => ?_
  generalize hgen0 : v.enc = gen0
  generalize hgen1 : encBs o = gen1
  cbv
  subst hgen0
  subst hgen1
  subst hC
  refine ⟨?_⟩
  simp only [hI, hF, std]
  simp only [ib_add, ib_sub, ib_mul, ib_eql, ib_neq, ib_lss, ib_leq, ib_gtr, ib_geq, sb_eql, sb_neq, sb_lss, sb_gtr, eqI_eq, ltI_eq, leI_eq, eqB_eq, isIK_int, isIK_ite, isStrD_ite, asInt_ite, sat_req, sat_ite, sat_ret, sat_back, aimF_q, aimR_q, into_q, into_bk, binV_add, binV_sub, binV_mul, binV_eql, binV_neq, binV_lss, binV_leq, binV_gtr, binV_geq, binV_seql, binV_sneq, bbinV_eql, bbinV_neq, unV_not, unV_neg, convV_int, asBool_ite, isBoolD_ite, isBUD_ite, grdD_ite, grdD_bool, grdD_tup, isBUD_tup, isBUD_bool, isBoolD_tup, isBoolD_bool, asBool_tup, asBool_bool, isIntD_int, isStrD_str, asInt_int, asStr_str, lstD_sim, lstD_snil, isSlD_sim, isSlD_snil, isSnil_sim, isSnil_snil, Option.isSome_some, Option.getD_some, true_and, and_true, ↓reduceIte, Nat.reduceEqDiff, reduceCtorEq, pick_or, pick_and, pick_or', pick_and', Bool.not_not, ite_bool, dlV_cell, cells_agg, cells_str, cells_int, cells_bool, cells_sim, cells_snil, List.getD_cons_zero, List.getD_cons_succ, beq_tt, beq_ft, ite_same, imp_true, lookOk, lookRes, sfOf, sgOf, hOk, hRes, hOut, aimP_q, one_int, one_bool, one_str, one_sim, one_snil, one_fn, Int.toNat_natCast, Nat.zero_add, Int.toNat_zero, natCast_fold, Int.ofNat_eq_natCast, isB_bool, beq_self_eq_true, dIsAgg_agg, bel_d, bel7_d, bel_aggd, List.all_cons, List.all_nil, Bool.and_self, Bool.and_true, Bool.true_and, dlV_enc, enc_cells, lst_encO, isSl_encO, one_encO, lst_encS, isSl_encS, one_encS, isAgg_enc, toV_enc, isV_enc, toVs_enc, isVs_enc, toSs_enc, isSs_enc, dlV_encB, dlV_encBv, encB_cells, lst_encBs, isSl_encBs, one_encBs, isAgg_encB, toB_enc, isB0_enc, toBs_enc, isBs_enc, agg_enc, e4, e5, e6, e8, e7, e9, e11, e10, e12]
  simp [dlV_enc, enc_cells, lst_encO, isSl_encO, one_encO, lst_encS, isSl_encS, one_encS, isAgg_enc, toV_enc, isV_enc, toVs_enc, isVs_enc, toSs_enc, isSs_enc, dlV_encB, dlV_encBv, encB_cells, lst_encBs, isSl_encBs, one_encBs, isAgg_encB, toB_enc, isB0_enc, toBs_enc, isBs_enc, agg_enc, hv, ho, okBs_own ho, own_ok hv, envE_own, valE_own, encP]
  intro h1 h2
  simp [tupD, isIK]
#print axioms pc3
end Go.Proofs.Sx
