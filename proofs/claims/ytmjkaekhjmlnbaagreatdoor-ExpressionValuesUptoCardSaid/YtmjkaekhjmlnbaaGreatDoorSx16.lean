/- Environments checked, by the program and by the reference. -/
import Derived.Test.YtmjkaekhjmlnbaaGreatDoorSx15
import Derived.Test.YtmjkaekhjmlnbaaGreatDoorSxBase
import Derived.Test.YtmjkaekhjmlnbaaGreatDoorAmPtr
set_option linter.unusedVariables false
set_option linter.unusedSimpArgs false
set_option maxRecDepth 100000
namespace Go.Proofs.Sx
open Go Go.Proofs Go.Proofs.Am 
variable {gs : List Nat}

/-- The first error of bindings behind others. -/
noncomputable def chk (pre : List B) : List B → Int × Int
  | [] => (0, 0)
  | b :: r => if nameOk b.nm = false then ((pre.length : Int), 7) else if 0 ≤ idxB pre b.nm then ((pre.length : Int), 13) else if valE b.v ≠ 0 then ((pre.length : Int), valE b.v) else chk (pre ++ [b]) r
noncomputable def envE (l : List B) : Int × Int := if 40 < l.length then (0, 2) else chk [] l
theorem chk_step (l : List B) (i : Nat) (h : i < l.length) : chk (l.take i) (l.drop i) =
    if nameOk (l.getD i default).nm = false then ((i : Int), 7) else if 0 ≤ idxB (l.take i) (l.getD i default).nm then ((i : Int), 13) else if valE (l.getD i default).v ≠ 0 then ((i : Int), valE (l.getD i default).v) else chk (l.take (i + 1)) (l.drop (i + 1)) := by
  rw [List.drop_eq_getElem_cons h, chk]
  have e : l[i] = l.getD i default := by simp [List.getD, h]
  have ht : l.take i ++ [l[i]] = l.take (i + 1) := by rw [List.take_add_one]; simp [h]
  have hl : (l.take i).length = i := by simp; omega
  rw [ht, e, hl]
theorem idxB_ge : ∀ (l : List B) (s : ByteArray), -1 ≤ idxB l s
  | [], s => by simp [idxB]
  | x :: l, s => by have := idxB_ge l s; simp only [idxB]; split <;> (try split) <;> omega
theorem slD_encBs (o : Option (List B)) (i : Nat) : slD (encBs o) none (some (.int .i64 (i : Int))) = encBs (o.map (·.take i)) := by
  cases o with
  | none => rfl
  | some l =>
    simp only [slD, encBs, isSnil_sim, if_false, Option.map, lstD_sim]
    show DV.sim _ = _
    simp [loN, hiN]
    rfl
theorem okBs_take {o : Option (List B)} (h : okBs o) (i : Nat) : okBs (o.map (·.take i)) := by
  cases o with
  | none => exact h
  | some l =>
    refine ⟨Nat.le_trans ?_ h.1, fun x hx => h.2 x ?_⟩
    · simp; omega
    · simp only [Option.map, Option.getD_some] at hx ⊢; exact List.mem_of_mem_take hx
theorem getD_takeB (o : Option (List B)) (i : Nat) : (o.map (·.take i)).getD [] = (o.getD []).take i := by
  cases o <;> simp
def encP (p : Int × Int) : DV := .tup [.int .i64 p.1, .int .i64 p.2]
def lv9 : Nat → List Nat × List Nat
  | 4 => ([0, 4], [])
  | _ => ([], [])
theorem pc9 (o : Option (List B)) (ho : okBs o) : PureCall Tryz.prog [0] 9 [encBs o] (dRet (encP (envE (o.getD [])))) := by
  have hl := okBs_len ho
  generalize hr : envE (o.getD []) = er
  refine pure_of_tree mixed fn9 (Nat.le_of_ble_eq_true rfl) (Nat.lt_of_succ_le (Nat.le_of_ble_eq_true rfl)) (sfOk (.cons ok25 (.cons ok26 (.cons ok12 .nil)))) TbOk (lv := lv9) fun I F hI hF => ?_
  refine boxed fun C hC => ?_
  generalize hgen0 : encBs o = gen0
  generalize hgen1 : DV.int .i64 er.1 = gen1
  generalize hgen2 : DV.int .i64 er.2 = gen2
  cbv
  subst hgen0
  subst hgen1
  subst hgen2
  subst hC
  refine ⟨?_⟩
  simp only [hI, hF, std]
  unfold envE at hr
  simp only [ib_add, ib_sub, ib_mul, ib_eql, ib_neq, ib_lss, ib_leq, ib_gtr, ib_geq, sb_eql, sb_neq, sb_lss, sb_gtr, eqI_eq, ltI_eq, leI_eq, eqB_eq, isIK_int, isIK_ite, isStrD_ite, asInt_ite, sat_req, sat_ite, sat_ret, sat_back, aimF_q, aimR_q, into_q, into_bk, binV_add, binV_sub, binV_mul, binV_eql, binV_neq, binV_lss, binV_leq, binV_gtr, binV_geq, binV_seql, binV_sneq, bbinV_eql, bbinV_neq, unV_not, unV_neg, convV_int, asBool_ite, isBoolD_ite, isBUD_ite, grdD_ite, grdD_bool, grdD_tup, isBUD_tup, isBUD_bool, isBoolD_tup, isBoolD_bool, asBool_tup, asBool_bool, isIntD_int, isStrD_str, asInt_int, asStr_str, lstD_sim, lstD_snil, isSlD_sim, isSlD_snil, isSnil_sim, isSnil_snil, Option.isSome_some, Option.getD_some, true_and, and_true, ↓reduceIte, Nat.reduceEqDiff, reduceCtorEq, pick_or, pick_and, pick_or', pick_and', Bool.not_not, ite_bool, dlV_cell, cells_agg, cells_str, cells_int, cells_bool, cells_sim, cells_snil, List.getD_cons_zero, List.getD_cons_succ, beq_tt, beq_ft, ite_same, imp_true, lookOk, lookRes, sfOf, sgOf, hOk, hRes, hOut, aimP_q, one_int, one_bool, one_str, one_sim, one_snil, one_fn, Int.toNat_natCast, Nat.zero_add, Int.toNat_zero, natCast_fold, Int.ofNat_eq_natCast, isB_bool, beq_self_eq_true, dIsAgg_agg, bel_d, bel7_d, bel_aggd, List.all_cons, List.all_nil, Bool.and_self, Bool.and_true, Bool.true_and, dlV_enc, enc_cells, lst_encO, isSl_encO, one_encO, lst_encS, isSl_encS, one_encS, isAgg_enc, toV_enc, isV_enc, toVs_enc, isVs_enc, toSs_enc, isSs_enc, dlV_encB, dlV_encBv, encB_cells, lst_encBs, isSl_encBs, one_encBs, isAgg_encB, toB_enc, isB0_enc, toBs_enc, isBs_enc, agg_enc]
  simp
  refine ⟨fun h => ?_, fun h => ?_⟩
  · rw [if_pos (by omega)] at hr; subst hr; rfl
  rw [if_neg (by omega)] at hr
  refine loop_rule (kend := fun I => kEndF I Tb [.tmp 2, .tmp 3]) hI hF (sfOk (.cons ok25 (.cons ok26 (.cons ok12 .nil)))) TbOk (by exact fun Bk e s h => endF TbOk Bk e s h) (lv := lv9) 0 (fun i : {i : Nat // i ≤ (o.getD []).length ∧ chk ((o.getD []).take i) ((o.getD []).drop i) = er} => [.d (encBs o), .d (.int .i64 (i.1 : Int))]) (fun i : {i : Nat // i ≤ (o.getD []).length ∧ chk ((o.getD []).take i) ((o.getD []).drop i) = er} => []) (fun i : {i : Nat // i ≤ (o.getD []).length ∧ chk ((o.getD []).take i) ((o.getD []).drop i) = er} => (o.getD []).length - i.1) [] (⟨0, by omega, by simpa using hr⟩ : {i : Nat // i ≤ (o.getD []).length ∧ chk ((o.getD []).take i) ((o.getD []).drop i) = er}) (by rfl) (by rfl) ?_ ?_ fun i => ?_
  · rfl
  · rfl
  obtain ⟨i, hi1, hi2⟩ := i
  refine boxed fun C hC => ?_
  generalize hgen0 : encBs o = gen0
  generalize hgen1 : DV.int .i64 (i : Int) = gen1
  generalize hgen2 : DV.int .i64 er.1 = gen2
  generalize hgen3 : DV.int .i64 er.2 = gen3
  cbv
  subst hgen0
  subst hgen1
  subst hgen2
  subst hgen3
  subst hC
  refine ⟨?_⟩
  simp only [hI, hF, std]
  have w3 := wrap_succ (n := i) (by omega)
  by_cases hlt : i < (o.getD []).length
  · have g1 := get_encB _ _ hlt
    have k1 := okBs_get ho hlt
    rw [chk_step _ _ hlt] at hi2
    have hge := idxB_ge ((o.getD []).take i) ((o.getD []).getD i default).nm
    simp only [ib_add, ib_sub, ib_mul, ib_eql, ib_neq, ib_lss, ib_leq, ib_gtr, ib_geq, sb_eql, sb_neq, sb_lss, sb_gtr, eqI_eq, ltI_eq, leI_eq, eqB_eq, isIK_int, isIK_ite, isStrD_ite, asInt_ite, sat_req, sat_ite, sat_ret, sat_back, aimF_q, aimR_q, into_q, into_bk, binV_add, binV_sub, binV_mul, binV_eql, binV_neq, binV_lss, binV_leq, binV_gtr, binV_geq, binV_seql, binV_sneq, bbinV_eql, bbinV_neq, unV_not, unV_neg, convV_int, asBool_ite, isBoolD_ite, isBUD_ite, grdD_ite, grdD_bool, grdD_tup, isBUD_tup, isBUD_bool, isBoolD_tup, isBoolD_bool, asBool_tup, asBool_bool, isIntD_int, isStrD_str, asInt_int, asStr_str, lstD_sim, lstD_snil, isSlD_sim, isSlD_snil, isSnil_sim, isSnil_snil, Option.isSome_some, Option.getD_some, true_and, and_true, ↓reduceIte, Nat.reduceEqDiff, reduceCtorEq, pick_or, pick_and, pick_or', pick_and', Bool.not_not, ite_bool, dlV_cell, cells_agg, cells_str, cells_int, cells_bool, cells_sim, cells_snil, List.getD_cons_zero, List.getD_cons_succ, beq_tt, beq_ft, ite_same, imp_true, lookOk, lookRes, sfOf, sgOf, hOk, hRes, hOut, aimP_q, one_int, one_bool, one_str, one_sim, one_snil, one_fn, Int.toNat_natCast, Nat.zero_add, Int.toNat_zero, natCast_fold, Int.ofNat_eq_natCast, isB_bool, beq_self_eq_true, dIsAgg_agg, bel_d, bel7_d, bel_aggd, List.all_cons, List.all_nil, Bool.and_self, Bool.and_true, Bool.true_and, dlV_enc, enc_cells, lst_encO, isSl_encO, one_encO, lst_encS, isSl_encS, one_encS, isAgg_enc, toV_enc, isV_enc, toVs_enc, isVs_enc, toSs_enc, isSs_enc, dlV_encB, dlV_encBv, encB_cells, lst_encBs, isSl_encBs, one_encBs, isAgg_encB, toB_enc, isB0_enc, toBs_enc, isBs_enc, agg_enc, g1, e25, e26, e12, slD_encBs, intO_none, intO_int, loN_none, hiN_int]
    simp [hlt, w3, - List.getD_eq_getElem?_getD, dlV_encB, dlV_encBv, encB_cells, lst_encBs, isSl_encBs, one_encBs, isAgg_encB, toB_enc, isB0_enc, toBs_enc, isBs_enc, agg_enc, dlV_enc, enc_cells, lst_encO, isSl_encO, one_encO, lst_encS, isSl_encS, one_encS, isAgg_enc, toV_enc, isV_enc, toVs_enc, isVs_enc, toSs_enc, isSs_enc, k1.1, k1.2, okBs_take ho, getD_takeB]
    by_cases c1 : nameOk ((o.getD []).getD i default).nm = false
    · rw [if_pos c1] at hi2
      subst hi2
      exact ⟨fun _ => rfl, fun h => by rw [c1] at h; cases h⟩
    rw [if_neg c1] at hi2
    refine ⟨fun h => absurd h c1, fun _ => ⟨hi1, ?_⟩⟩
    by_cases c2 : 0 ≤ idxB ((o.getD []).take i) ((o.getD []).getD i default).nm
    · rw [if_pos c2] at hi2
      subst hi2
      exact ⟨fun _ => rfl, fun h => by omega⟩
    rw [if_neg c2] at hi2
    refine ⟨fun h => absurd (by omega) h, fun _ => ?_⟩
    by_cases c3 : valE ((o.getD []).getD i default).v = 0
    · rw [if_neg (by simpa using c3)] at hi2
      exact ⟨fun h => absurd c3 h, fun _ => ⟨i + 1, by omega, ⟨by omega, hi2⟩, by simp⟩⟩
    · rw [if_pos c3] at hi2
      subst hi2
      exact ⟨fun _ => rfl, fun h => absurd h c3⟩
  · simp only [ib_add, ib_sub, ib_mul, ib_eql, ib_neq, ib_lss, ib_leq, ib_gtr, ib_geq, sb_eql, sb_neq, sb_lss, sb_gtr, eqI_eq, ltI_eq, leI_eq, eqB_eq, isIK_int, isIK_ite, isStrD_ite, asInt_ite, sat_req, sat_ite, sat_ret, sat_back, aimF_q, aimR_q, into_q, into_bk, binV_add, binV_sub, binV_mul, binV_eql, binV_neq, binV_lss, binV_leq, binV_gtr, binV_geq, binV_seql, binV_sneq, bbinV_eql, bbinV_neq, unV_not, unV_neg, convV_int, asBool_ite, isBoolD_ite, isBUD_ite, grdD_ite, grdD_bool, grdD_tup, isBUD_tup, isBUD_bool, isBoolD_tup, isBoolD_bool, asBool_tup, asBool_bool, isIntD_int, isStrD_str, asInt_int, asStr_str, lstD_sim, lstD_snil, isSlD_sim, isSlD_snil, isSnil_sim, isSnil_snil, Option.isSome_some, Option.getD_some, true_and, and_true, ↓reduceIte, Nat.reduceEqDiff, reduceCtorEq, pick_or, pick_and, pick_or', pick_and', Bool.not_not, ite_bool, dlV_cell, cells_agg, cells_str, cells_int, cells_bool, cells_sim, cells_snil, List.getD_cons_zero, List.getD_cons_succ, beq_tt, beq_ft, ite_same, imp_true, lookOk, lookRes, sfOf, sgOf, hOk, hRes, hOut, aimP_q, one_int, one_bool, one_str, one_sim, one_snil, one_fn, Int.toNat_natCast, Nat.zero_add, Int.toNat_zero, natCast_fold, Int.ofNat_eq_natCast, isB_bool, beq_self_eq_true, dIsAgg_agg, bel_d, bel7_d, bel_aggd, List.all_cons, List.all_nil, Bool.and_self, Bool.and_true, Bool.true_and, dlV_enc, enc_cells, lst_encO, isSl_encO, one_encO, lst_encS, isSl_encS, one_encS, isAgg_enc, toV_enc, isV_enc, toVs_enc, isVs_enc, toSs_enc, isSs_enc, dlV_encB, dlV_encBv, encB_cells, lst_encBs, isSl_encBs, one_encBs, isAgg_encB, toB_enc, isB0_enc, toBs_enc, isBs_enc, agg_enc, e25, e26, e12]
    simp [hlt, - List.getD_eq_getElem?_getD]
    have hd : (o.getD []).drop i = [] := List.drop_eq_nil_of_le (by omega)
    rw [hd, chk] at hi2
    subst hi2; rfl
open Classical in
noncomputable def e9 : Ent := ⟨9, fun | [d_o] => decide (isBs d_o) | _ => false, fun | [d_o] => encP (envE ((toBs d_o).getD [])) | _ => .inil⟩
open Classical in
theorem ok9 : EntOk Tryz.prog [0] e9 := fun ds h => by
  unfold e9 at h ⊢
  simp only at h ⊢
  split at h
  · rw [decide_eq_true_iff] at h
    obtain ⟨v0, rfl, k0⟩ := h
    simp only [toV_enc, toVs_enc, toSs_enc, toB_enc, toBs_enc]
    exact pc9 _ k0
  · cases h
def lv7 : Nat → List Nat × List Nat
  | 4 => ([0, 10, 11, 12], [])
  | _ => ([], [])
theorem pc7 (o : Option (List B)) (ho : okBs o) : PureCall Tryz.prog [0] 7 [encBs o] (dRet (encP (envE (o.getD [])))) := by
  have hl := okBs_len ho
  generalize hr : envE (o.getD []) = er
  refine pure_of_tree mixed fn7 (Nat.le_of_ble_eq_true rfl) (Nat.lt_of_succ_le (Nat.le_of_ble_eq_true rfl)) (sfOk (.cons ok21 (.cons ok22 (.cons ok10 .nil)))) TbOk (lv := lv7) fun I F hI hF => ?_
  refine boxed fun C hC => ?_
  generalize hgen0 : encBs o = gen0
  generalize hgen1 : DV.int .i64 er.1 = gen1
  generalize hgen2 : DV.int .i64 er.2 = gen2
  cbv
  subst hgen0
  subst hgen1
  subst hgen2
  subst hC
  refine ⟨?_⟩
  simp only [hI, hF, std]
  unfold envE at hr
  simp only [ib_add, ib_sub, ib_mul, ib_eql, ib_neq, ib_lss, ib_leq, ib_gtr, ib_geq, sb_eql, sb_neq, sb_lss, sb_gtr, eqI_eq, ltI_eq, leI_eq, eqB_eq, isIK_int, isIK_ite, isStrD_ite, asInt_ite, sat_req, sat_ite, sat_ret, sat_back, aimF_q, aimR_q, into_q, into_bk, binV_add, binV_sub, binV_mul, binV_eql, binV_neq, binV_lss, binV_leq, binV_gtr, binV_geq, binV_seql, binV_sneq, bbinV_eql, bbinV_neq, unV_not, unV_neg, convV_int, asBool_ite, isBoolD_ite, isBUD_ite, grdD_ite, grdD_bool, grdD_tup, isBUD_tup, isBUD_bool, isBoolD_tup, isBoolD_bool, asBool_tup, asBool_bool, isIntD_int, isStrD_str, asInt_int, asStr_str, lstD_sim, lstD_snil, isSlD_sim, isSlD_snil, isSnil_sim, isSnil_snil, Option.isSome_some, Option.getD_some, true_and, and_true, ↓reduceIte, Nat.reduceEqDiff, reduceCtorEq, pick_or, pick_and, pick_or', pick_and', Bool.not_not, ite_bool, dlV_cell, cells_agg, cells_str, cells_int, cells_bool, cells_sim, cells_snil, List.getD_cons_zero, List.getD_cons_succ, beq_tt, beq_ft, ite_same, imp_true, lookOk, lookRes, sfOf, sgOf, hOk, hRes, hOut, aimP_q, one_int, one_bool, one_str, one_sim, one_snil, one_fn, Int.toNat_natCast, Nat.zero_add, Int.toNat_zero, natCast_fold, Int.ofNat_eq_natCast, isB_bool, beq_self_eq_true, dIsAgg_agg, bel_d, bel7_d, bel_aggd, List.all_cons, List.all_nil, Bool.and_self, Bool.and_true, Bool.true_and, dlV_enc, enc_cells, lst_encO, isSl_encO, one_encO, lst_encS, isSl_encS, one_encS, isAgg_enc, toV_enc, isV_enc, toVs_enc, isVs_enc, toSs_enc, isSs_enc, dlV_encB, dlV_encBv, encB_cells, lst_encBs, isSl_encBs, one_encBs, isAgg_encB, toB_enc, isB0_enc, toBs_enc, isBs_enc, agg_enc]
  simp
  refine ⟨fun h => ?_, fun h => ?_⟩
  · rw [if_pos (by omega)] at hr; subst hr; rfl
  rw [if_neg (by omega)] at hr
  refine loop_rule (kend := fun I => kEndF I Tb [.tmp 2, .tmp 3]) hI hF (sfOk (.cons ok21 (.cons ok22 (.cons ok10 .nil)))) TbOk (by exact fun Bk e s h => endF TbOk Bk e s h) (lv := lv7) 0 (fun i : {i : Nat // i ≤ (o.getD []).length ∧ chk ((o.getD []).take i) ((o.getD []).drop i) = er} => [.d (encBs o), .d (encBs o), .d (.int .i64 ((o.getD []).length : Int)), .d (.int .i64 (i.1 : Int))]) (fun i : {i : Nat // i ≤ (o.getD []).length ∧ chk ((o.getD []).take i) ((o.getD []).drop i) = er} => []) (fun i : {i : Nat // i ≤ (o.getD []).length ∧ chk ((o.getD []).take i) ((o.getD []).drop i) = er} => (o.getD []).length - i.1) [] (⟨0, by omega, by simpa using hr⟩ : {i : Nat // i ≤ (o.getD []).length ∧ chk ((o.getD []).take i) ((o.getD []).drop i) = er}) (by rfl) (by rfl) ?_ ?_ fun i => ?_
  · rfl
  · rfl
  obtain ⟨i, hi1, hi2⟩ := i
  refine boxed fun C hC => ?_
  generalize hgen0 : encBs o = gen0
  generalize hgen1 : DV.int .i64 ((o.getD []).length : Int) = gen1
  generalize hgen2 : DV.int .i64 (i : Int) = gen2
  generalize hgen3 : DV.int .i64 er.1 = gen3
  generalize hgen4 : DV.int .i64 er.2 = gen4
  cbv
  subst hgen0
  subst hgen1
  subst hgen2
  subst hgen3
  subst hgen4
  subst hC
  refine ⟨?_⟩
  simp only [hI, hF, std]
  have w3 := wrap_succ (n := i) (by omega)
  by_cases hlt : i < (o.getD []).length
  · have g1 := get_encB _ _ hlt
    have k1 := okBs_get ho hlt
    rw [chk_step _ _ hlt] at hi2
    have hge := idxB_ge ((o.getD []).take i) ((o.getD []).getD i default).nm
    simp only [ib_add, ib_sub, ib_mul, ib_eql, ib_neq, ib_lss, ib_leq, ib_gtr, ib_geq, sb_eql, sb_neq, sb_lss, sb_gtr, eqI_eq, ltI_eq, leI_eq, eqB_eq, isIK_int, isIK_ite, isStrD_ite, asInt_ite, sat_req, sat_ite, sat_ret, sat_back, aimF_q, aimR_q, into_q, into_bk, binV_add, binV_sub, binV_mul, binV_eql, binV_neq, binV_lss, binV_leq, binV_gtr, binV_geq, binV_seql, binV_sneq, bbinV_eql, bbinV_neq, unV_not, unV_neg, convV_int, asBool_ite, isBoolD_ite, isBUD_ite, grdD_ite, grdD_bool, grdD_tup, isBUD_tup, isBUD_bool, isBoolD_tup, isBoolD_bool, asBool_tup, asBool_bool, isIntD_int, isStrD_str, asInt_int, asStr_str, lstD_sim, lstD_snil, isSlD_sim, isSlD_snil, isSnil_sim, isSnil_snil, Option.isSome_some, Option.getD_some, true_and, and_true, ↓reduceIte, Nat.reduceEqDiff, reduceCtorEq, pick_or, pick_and, pick_or', pick_and', Bool.not_not, ite_bool, dlV_cell, cells_agg, cells_str, cells_int, cells_bool, cells_sim, cells_snil, List.getD_cons_zero, List.getD_cons_succ, beq_tt, beq_ft, ite_same, imp_true, lookOk, lookRes, sfOf, sgOf, hOk, hRes, hOut, aimP_q, one_int, one_bool, one_str, one_sim, one_snil, one_fn, Int.toNat_natCast, Nat.zero_add, Int.toNat_zero, natCast_fold, Int.ofNat_eq_natCast, isB_bool, beq_self_eq_true, dIsAgg_agg, bel_d, bel7_d, bel_aggd, List.all_cons, List.all_nil, Bool.and_self, Bool.and_true, Bool.true_and, dlV_enc, enc_cells, lst_encO, isSl_encO, one_encO, lst_encS, isSl_encS, one_encS, isAgg_enc, toV_enc, isV_enc, toVs_enc, isVs_enc, toSs_enc, isSs_enc, dlV_encB, dlV_encBv, encB_cells, lst_encBs, isSl_encBs, one_encBs, isAgg_encB, toB_enc, isB0_enc, toBs_enc, isBs_enc, agg_enc, g1, e21, e22, e10, slD_encBs, intO_none, intO_int, loN_none, hiN_int]
    simp [hlt, w3, - List.getD_eq_getElem?_getD, dlV_encB, dlV_encBv, encB_cells, lst_encBs, isSl_encBs, one_encBs, isAgg_encB, toB_enc, isB0_enc, toBs_enc, isBs_enc, agg_enc, dlV_enc, enc_cells, lst_encO, isSl_encO, one_encO, lst_encS, isSl_encS, one_encS, isAgg_enc, toV_enc, isV_enc, toVs_enc, isVs_enc, toSs_enc, isSs_enc, k1, k1.1, k1.2, okBs_take ho, getD_takeB]
    by_cases c1 : nameOk ((o.getD []).getD i default).nm = false
    · rw [if_pos c1] at hi2
      subst hi2
      exact ⟨fun _ => rfl, fun h => by rw [c1] at h; cases h⟩
    rw [if_neg c1] at hi2
    refine ⟨fun h => absurd h c1, fun _ => ⟨hi1, ?_⟩⟩
    by_cases c2 : 0 ≤ idxB ((o.getD []).take i) ((o.getD []).getD i default).nm
    · rw [if_pos c2] at hi2
      subst hi2
      exact ⟨fun _ => rfl, fun h => absurd h (by omega)⟩
    rw [if_neg c2] at hi2
    refine ⟨fun h => absurd h c2, fun _ => ?_⟩
    by_cases c3 : valE ((o.getD []).getD i default).v = 0
    · rw [if_neg (by simpa using c3)] at hi2
      exact ⟨fun h => absurd c3 h, fun _ => ⟨i + 1, by omega, ⟨by omega, hi2⟩, by simp⟩⟩
    · rw [if_pos c3] at hi2
      subst hi2
      exact ⟨fun _ => rfl, fun h => absurd h c3⟩
  · simp only [ib_add, ib_sub, ib_mul, ib_eql, ib_neq, ib_lss, ib_leq, ib_gtr, ib_geq, sb_eql, sb_neq, sb_lss, sb_gtr, eqI_eq, ltI_eq, leI_eq, eqB_eq, isIK_int, isIK_ite, isStrD_ite, asInt_ite, sat_req, sat_ite, sat_ret, sat_back, aimF_q, aimR_q, into_q, into_bk, binV_add, binV_sub, binV_mul, binV_eql, binV_neq, binV_lss, binV_leq, binV_gtr, binV_geq, binV_seql, binV_sneq, bbinV_eql, bbinV_neq, unV_not, unV_neg, convV_int, asBool_ite, isBoolD_ite, isBUD_ite, grdD_ite, grdD_bool, grdD_tup, isBUD_tup, isBUD_bool, isBoolD_tup, isBoolD_bool, asBool_tup, asBool_bool, isIntD_int, isStrD_str, asInt_int, asStr_str, lstD_sim, lstD_snil, isSlD_sim, isSlD_snil, isSnil_sim, isSnil_snil, Option.isSome_some, Option.getD_some, true_and, and_true, ↓reduceIte, Nat.reduceEqDiff, reduceCtorEq, pick_or, pick_and, pick_or', pick_and', Bool.not_not, ite_bool, dlV_cell, cells_agg, cells_str, cells_int, cells_bool, cells_sim, cells_snil, List.getD_cons_zero, List.getD_cons_succ, beq_tt, beq_ft, ite_same, imp_true, lookOk, lookRes, sfOf, sgOf, hOk, hRes, hOut, aimP_q, one_int, one_bool, one_str, one_sim, one_snil, one_fn, Int.toNat_natCast, Nat.zero_add, Int.toNat_zero, natCast_fold, Int.ofNat_eq_natCast, isB_bool, beq_self_eq_true, dIsAgg_agg, bel_d, bel7_d, bel_aggd, List.all_cons, List.all_nil, Bool.and_self, Bool.and_true, Bool.true_and, dlV_enc, enc_cells, lst_encO, isSl_encO, one_encO, lst_encS, isSl_encS, one_encS, isAgg_enc, toV_enc, isV_enc, toVs_enc, isVs_enc, toSs_enc, isSs_enc, dlV_encB, dlV_encBv, encB_cells, lst_encBs, isSl_encBs, one_encBs, isAgg_encB, toB_enc, isB0_enc, toBs_enc, isBs_enc, agg_enc, e21, e22, e10]
    simp [hlt, - List.getD_eq_getElem?_getD]
    have hd : (o.getD []).drop i = [] := List.drop_eq_nil_of_le (by omega)
    rw [hd, chk] at hi2
    subst hi2; rfl
open Classical in
noncomputable def e7 : Ent := ⟨7, fun | [d_o] => decide (isBs d_o) | _ => false, fun | [d_o] => encP (envE ((toBs d_o).getD [])) | _ => .inil⟩
open Classical in
theorem ok7 : EntOk Tryz.prog [0] e7 := fun ds h => by
  unfold e7 at h ⊢
  simp only at h ⊢
  split at h
  · rw [decide_eq_true_iff] at h
    obtain ⟨v0, rfl, k0⟩ := h
    simp only [toV_enc, toVs_enc, toSs_enc, toB_enc, toBs_enc]
    exact pc7 _ k0
  · cases h
end Go.Proofs.Sx
