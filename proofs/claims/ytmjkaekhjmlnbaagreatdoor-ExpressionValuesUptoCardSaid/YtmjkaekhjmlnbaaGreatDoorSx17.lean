/- Light values and environments. -/
import Derived.Test.YtmjkaekhjmlnbaaGreatDoorSx16
import Derived.Test.YtmjkaekhjmlnbaaGreatDoorSxBase
import Derived.Test.YtmjkaekhjmlnbaaGreatDoorAmPtr
set_option linter.unusedVariables false
set_option linter.unusedSimpArgs false
set_option maxRecDepth 100000
namespace Go.Proofs.Sx
open Go Go.Proofs Go.Proofs.Am 
variable {gs : List Nat}

def txN : List ByteArray → Bool
  | [] => true
  | s :: r => decide (s.size ≤ 400) && txN r
mutual
def txV : V → Bool
  | .mk _ _ _ s nm it => decide (s.size ≤ 400) && decide ((nm.getD []).length ≤ 60) && txN (nm.getD []) && txO it
def txO : Option (List V) → Bool
  | none => true
  | some l => txL l
def txL : List V → Bool
  | [] => true
  | v :: r => txV v && txL r
end
theorem txO_eq (o : Option (List V)) : txO o = txL (o.getD []) := by cases o <;> rw [txO] <;> simp [txL]
theorem txV_eq (v : V) : txV v = (decide (v.s.size ≤ 400) && decide (v.names.length ≤ 60) && txN v.names && txL v.items) := by cases v; rw [txV, txO_eq]; rfl
theorem txN_step (l : List ByteArray) (i : Nat) (h : i < l.length) : txN (l.drop i) = (decide ((l.getD i ⟨#[]⟩).size ≤ 400) && txN (l.drop (i + 1))) := by
  rw [List.drop_eq_getElem_cons h, txN]
  simp [List.getD, h]
theorem txL_step (l : List V) (i : Nat) (h : i < l.length) : txL (l.drop i) = (txV (l.getD i default) && txL (l.drop (i + 1))) := by
  rw [List.drop_eq_getElem_cons h, txL]
  simp [List.getD, h]
def lv20 : Nat → List Nat × List Nat
  | 4 => ([1, 3], [0])
  | 9 => ([1, 4], [0])
  | _ => ([], [])
theorem pc20n : ∀ (n : Nat) (v : V), v.ok → v.sz < n → PureCall Tryz.prog [0] 20 [v.enc] (dRet (.bool (txV v)))
  | 0, v, _, h => by omega
  | n + 1, v, hv, hn => by
    have ok20' := okVn (r := fun v => .bool (txV v)) (pc20n n)
    generalize hr : txV v = tr
    refine pure_of_tree mixed fn20 (Nat.le_of_ble_eq_true rfl) (Nat.lt_of_succ_le (Nat.le_of_ble_eq_true rfl)) (sfOk (.cons ok20' .nil)) TbOk (lv := lv20) fun I F hI hF => ?_
    refine boxed fun C hC => ?_
    generalize hgen0 : v.enc = gen0
    generalize hgen1 : DV.bool tr = gen1
    cbv
    subst hgen0
    subst hgen1
    subst hC
    refine ⟨?_⟩
    simp only [hI, hF, std]
    have e1 : v.nm.getD [] = v.names := rfl
    have e3 : v.it.getD [] = v.items := rfl
    have nl := V.ok_nl hv
    have il := V.ok_il hv
    have hE := txV_eq v
    rw [hr] at hE
    simp only [ib_add, ib_sub, ib_mul, ib_eql, ib_neq, ib_lss, ib_leq, ib_gtr, ib_geq, sb_eql, sb_neq, sb_lss, sb_gtr, eqI_eq, ltI_eq, leI_eq, eqB_eq, isIK_int, isIK_ite, isStrD_ite, asInt_ite, sat_req, sat_ite, sat_ret, sat_back, aimF_q, aimR_q, into_q, into_bk, binV_add, binV_sub, binV_mul, binV_eql, binV_neq, binV_lss, binV_leq, binV_gtr, binV_geq, binV_seql, binV_sneq, bbinV_eql, bbinV_neq, unV_not, unV_neg, convV_int, asBool_ite, isBoolD_ite, isBUD_ite, grdD_ite, grdD_bool, grdD_tup, isBUD_tup, isBUD_bool, isBoolD_tup, isBoolD_bool, asBool_tup, asBool_bool, isIntD_int, isStrD_str, asInt_int, asStr_str, lstD_sim, lstD_snil, isSlD_sim, isSlD_snil, isSnil_sim, isSnil_snil, Option.isSome_some, Option.getD_some, true_and, and_true, ↓reduceIte, Nat.reduceEqDiff, reduceCtorEq, pick_or, pick_and, pick_or', pick_and', Bool.not_not, ite_bool, dlV_cell, cells_agg, cells_str, cells_int, cells_bool, cells_sim, cells_snil, List.getD_cons_zero, List.getD_cons_succ, beq_tt, beq_ft, ite_same, imp_true, lookOk, lookRes, sfOf, sgOf, hOk, hRes, hOut, aimP_q, one_int, one_bool, one_str, one_sim, one_snil, one_fn, Int.toNat_natCast, Nat.zero_add, Int.toNat_zero, natCast_fold, Int.ofNat_eq_natCast, isB_bool, beq_self_eq_true, dIsAgg_agg, bel_d, bel7_d, bel_aggd, List.all_cons, List.all_nil, Bool.and_self, Bool.and_true, Bool.true_and, dlV_enc, enc_cells, lst_encO, isSl_encO, one_encO, lst_encS, isSl_encS, one_encS, isAgg_enc, toV_enc, isV_enc, toVs_enc, isVs_enc, toSs_enc, isSs_enc, eVn, e1, e3]
    simp [dlV_enc, enc_cells, lst_encO, isSl_encO, one_encO, lst_encS, isSl_encS, one_encS, isAgg_enc, toV_enc, isV_enc, toVs_enc, isVs_enc, toSs_enc, isSs_enc]
    refine ⟨fun h => ?_, fun h1 h2 => ?_⟩
    · rw [hE]
      rcases h with h | h
      · have : ¬ v.s.size ≤ 400 := by omega
        simp [this]
      · have : ¬ v.names.length ≤ 60 := by omega
        simp [this]
    have h1' : v.s.size ≤ 400 := by omega
    have h2' : v.names.length ≤ 60 := by omega
    simp only [h1', h2', decide_true, Bool.true_and] at hE
    refine loop_rule (kend := fun I => kEndF I Tb [.tmp 2]) hI hF (sfOk (.cons ok20' .nil)) TbOk (by exact fun Bk e s h => endF TbOk Bk e s h) (lv := lv20) 0 (fun i : {i : Nat // i ≤ v.names.length ∧ tr = (txN (v.names.drop i) && txL v.items)} => [.loc 0 6 0 0, .d (.int .i64 (i.1 : Int))]) (fun i : {i : Nat // i ≤ v.names.length ∧ tr = (txN (v.names.drop i) && txL v.items)} => [(0, some ⟨[.d v.enc], 6, 25, true, true⟩)]) (fun i : {i : Nat // i ≤ v.names.length ∧ tr = (txN (v.names.drop i) && txL v.items)} => v.names.length - i.1) [0] (⟨0, by omega, by simpa using hE⟩ : {i : Nat // i ≤ v.names.length ∧ tr = (txN (v.names.drop i) && txL v.items)}) (by rfl) (by rfl) ?_ ?_ fun i => ?_
    · rfl
    · rfl
    obtain ⟨i, hi1, hi2⟩ := i
    refine boxed fun C hC => ?_
    generalize hgen0 : v.enc = gen0
    generalize hgen1 : DV.int .i64 (i : Int) = gen1
    generalize hgen2 : DV.bool tr = gen2
    cbv
    subst hgen0
    subst hgen1
    subst hgen2
    subst hC
    refine ⟨?_⟩
    simp only [hI, hF, std]
    have w3 := wrap_succ (n := i) (by omega)
    by_cases hlt : i < v.names.length
    · have g1 := get_str _ _ hlt
      rw [txN_step _ _ hlt] at hi2
      simp only [ib_add, ib_sub, ib_mul, ib_eql, ib_neq, ib_lss, ib_leq, ib_gtr, ib_geq, sb_eql, sb_neq, sb_lss, sb_gtr, eqI_eq, ltI_eq, leI_eq, eqB_eq, isIK_int, isIK_ite, isStrD_ite, asInt_ite, sat_req, sat_ite, sat_ret, sat_back, aimF_q, aimR_q, into_q, into_bk, binV_add, binV_sub, binV_mul, binV_eql, binV_neq, binV_lss, binV_leq, binV_gtr, binV_geq, binV_seql, binV_sneq, bbinV_eql, bbinV_neq, unV_not, unV_neg, convV_int, asBool_ite, isBoolD_ite, isBUD_ite, grdD_ite, grdD_bool, grdD_tup, isBUD_tup, isBUD_bool, isBoolD_tup, isBoolD_bool, asBool_tup, asBool_bool, isIntD_int, isStrD_str, asInt_int, asStr_str, lstD_sim, lstD_snil, isSlD_sim, isSlD_snil, isSnil_sim, isSnil_snil, Option.isSome_some, Option.getD_some, true_and, and_true, ↓reduceIte, Nat.reduceEqDiff, reduceCtorEq, pick_or, pick_and, pick_or', pick_and', Bool.not_not, ite_bool, dlV_cell, cells_agg, cells_str, cells_int, cells_bool, cells_sim, cells_snil, List.getD_cons_zero, List.getD_cons_succ, beq_tt, beq_ft, ite_same, imp_true, lookOk, lookRes, sfOf, sgOf, hOk, hRes, hOut, aimP_q, one_int, one_bool, one_str, one_sim, one_snil, one_fn, Int.toNat_natCast, Nat.zero_add, Int.toNat_zero, natCast_fold, Int.ofNat_eq_natCast, isB_bool, beq_self_eq_true, dIsAgg_agg, bel_d, bel7_d, bel_aggd, List.all_cons, List.all_nil, Bool.and_self, Bool.and_true, Bool.true_and, dlV_enc, enc_cells, lst_encO, isSl_encO, one_encO, lst_encS, isSl_encS, one_encS, isAgg_enc, toV_enc, isV_enc, toVs_enc, isVs_enc, toSs_enc, isSs_enc, eVn, e1, e3, g1]
      simp [hlt, w3, - List.getD_eq_getElem?_getD]
      refine ⟨fun h => ?_, fun h => ⟨i + 1, by omega, ⟨by omega, ?_⟩, by simp⟩⟩
      · have : ¬ (v.names.getD i ⟨#[]⟩).size ≤ 400 := by omega
        rw [hi2]; simp [this, - List.getD_eq_getElem?_getD]
      · have : (v.names.getD i ⟨#[]⟩).size ≤ 400 := by omega
        rw [hi2]; simp [this, - List.getD_eq_getElem?_getD]
    have hd : v.names.drop i = [] := List.drop_eq_nil_of_le (by omega)
    rw [hd, txN, Bool.true_and] at hi2
    simp only [ib_add, ib_sub, ib_mul, ib_eql, ib_neq, ib_lss, ib_leq, ib_gtr, ib_geq, sb_eql, sb_neq, sb_lss, sb_gtr, eqI_eq, ltI_eq, leI_eq, eqB_eq, isIK_int, isIK_ite, isStrD_ite, asInt_ite, sat_req, sat_ite, sat_ret, sat_back, aimF_q, aimR_q, into_q, into_bk, binV_add, binV_sub, binV_mul, binV_eql, binV_neq, binV_lss, binV_leq, binV_gtr, binV_geq, binV_seql, binV_sneq, bbinV_eql, bbinV_neq, unV_not, unV_neg, convV_int, asBool_ite, isBoolD_ite, isBUD_ite, grdD_ite, grdD_bool, grdD_tup, isBUD_tup, isBUD_bool, isBoolD_tup, isBoolD_bool, asBool_tup, asBool_bool, isIntD_int, isStrD_str, asInt_int, asStr_str, lstD_sim, lstD_snil, isSlD_sim, isSlD_snil, isSnil_sim, isSnil_snil, Option.isSome_some, Option.getD_some, true_and, and_true, ↓reduceIte, Nat.reduceEqDiff, reduceCtorEq, pick_or, pick_and, pick_or', pick_and', Bool.not_not, ite_bool, dlV_cell, cells_agg, cells_str, cells_int, cells_bool, cells_sim, cells_snil, List.getD_cons_zero, List.getD_cons_succ, beq_tt, beq_ft, ite_same, imp_true, lookOk, lookRes, sfOf, sgOf, hOk, hRes, hOut, aimP_q, one_int, one_bool, one_str, one_sim, one_snil, one_fn, Int.toNat_natCast, Nat.zero_add, Int.toNat_zero, natCast_fold, Int.ofNat_eq_natCast, isB_bool, beq_self_eq_true, dIsAgg_agg, bel_d, bel7_d, bel_aggd, List.all_cons, List.all_nil, Bool.and_self, Bool.and_true, Bool.true_and, dlV_enc, enc_cells, lst_encO, isSl_encO, one_encO, lst_encS, isSl_encS, one_encS, isAgg_enc, toV_enc, isV_enc, toVs_enc, isVs_enc, toSs_enc, isSs_enc, eVn, e1, e3]
    have hn : ¬ (i : Int) < v.names.length := by omega
    simp [hlt, hn, - List.getD_eq_getElem?_getD]
    refine loop_rule (kend := fun I => kEndF I Tb [.tmp 2]) hI hF (sfOk (.cons ok20' .nil)) TbOk (by exact fun Bk e s h => endF TbOk Bk e s h) (lv := lv20) 1 (fun i : {i : Nat // i ≤ v.items.length ∧ tr = txL (v.items.drop i)} => [.loc 0 6 0 0, .d (.int .i64 (i.1 : Int))]) (fun i : {i : Nat // i ≤ v.items.length ∧ tr = txL (v.items.drop i)} => [(0, some ⟨[.d v.enc], 6, 25, true, true⟩)]) (fun i : {i : Nat // i ≤ v.items.length ∧ tr = txL (v.items.drop i)} => v.items.length - i.1) [0] (⟨0, by omega, by simpa using hi2⟩ : {i : Nat // i ≤ v.items.length ∧ tr = txL (v.items.drop i)}) (by rfl) (by rfl) ?_ ?_ fun i => ?_
    · rfl
    · rfl
    clear hlt w3 hn hd
    obtain ⟨m, hm1, hm2⟩ := i
    refine boxed fun C hC => ?_
    generalize hgen0 : v.enc = gen0
    generalize hgen1 : DV.int .i64 (m : Int) = gen1
    generalize hgen2 : DV.bool tr = gen2
    cbv
    subst hgen0
    subst hgen1
    subst hgen2
    subst hC
    refine ⟨?_⟩
    simp only [hI, hF, std]
    have w3 := wrap_succ (n := m) (by omega)
    by_cases hlt : m < v.items.length
    · have g1 := get_enc _ _ hlt
      have k1 := V.ok_get hv hlt
      have k2 := V.sz_get hlt
      have k3 : (v.items.getD m default).sz < n := by omega
      rw [txL_step _ _ hlt] at hm2
      simp only [ib_add, ib_sub, ib_mul, ib_eql, ib_neq, ib_lss, ib_leq, ib_gtr, ib_geq, sb_eql, sb_neq, sb_lss, sb_gtr, eqI_eq, ltI_eq, leI_eq, eqB_eq, isIK_int, isIK_ite, isStrD_ite, asInt_ite, sat_req, sat_ite, sat_ret, sat_back, aimF_q, aimR_q, into_q, into_bk, binV_add, binV_sub, binV_mul, binV_eql, binV_neq, binV_lss, binV_leq, binV_gtr, binV_geq, binV_seql, binV_sneq, bbinV_eql, bbinV_neq, unV_not, unV_neg, convV_int, asBool_ite, isBoolD_ite, isBUD_ite, grdD_ite, grdD_bool, grdD_tup, isBUD_tup, isBUD_bool, isBoolD_tup, isBoolD_bool, asBool_tup, asBool_bool, isIntD_int, isStrD_str, asInt_int, asStr_str, lstD_sim, lstD_snil, isSlD_sim, isSlD_snil, isSnil_sim, isSnil_snil, Option.isSome_some, Option.getD_some, true_and, and_true, ↓reduceIte, Nat.reduceEqDiff, reduceCtorEq, pick_or, pick_and, pick_or', pick_and', Bool.not_not, ite_bool, dlV_cell, cells_agg, cells_str, cells_int, cells_bool, cells_sim, cells_snil, List.getD_cons_zero, List.getD_cons_succ, beq_tt, beq_ft, ite_same, imp_true, lookOk, lookRes, sfOf, sgOf, hOk, hRes, hOut, aimP_q, one_int, one_bool, one_str, one_sim, one_snil, one_fn, Int.toNat_natCast, Nat.zero_add, Int.toNat_zero, natCast_fold, Int.ofNat_eq_natCast, isB_bool, beq_self_eq_true, dIsAgg_agg, bel_d, bel7_d, bel_aggd, List.all_cons, List.all_nil, Bool.and_self, Bool.and_true, Bool.true_and, dlV_enc, enc_cells, lst_encO, isSl_encO, one_encO, lst_encS, isSl_encS, one_encS, isAgg_enc, toV_enc, isV_enc, toVs_enc, isVs_enc, toSs_enc, isSs_enc, eVn, e1, e3, g1]
      simp [hlt, w3, - List.getD_eq_getElem?_getD, k1, k3, dlV_enc, enc_cells, lst_encO, isSl_encO, one_encO, lst_encS, isSl_encS, one_encS, isAgg_enc, toV_enc, isV_enc, toVs_enc, isVs_enc, toSs_enc, isSs_enc]
      refine ⟨fun h => ?_, fun h => ⟨m + 1, by omega, ⟨by omega, ?_⟩, by simp⟩⟩
      · rw [hm2, h]; rfl
      · rw [hm2, h]; rfl
    · have hd : v.items.drop m = [] := List.drop_eq_nil_of_le (by omega)
      rw [hd, txL] at hm2
      simp only [ib_add, ib_sub, ib_mul, ib_eql, ib_neq, ib_lss, ib_leq, ib_gtr, ib_geq, sb_eql, sb_neq, sb_lss, sb_gtr, eqI_eq, ltI_eq, leI_eq, eqB_eq, isIK_int, isIK_ite, isStrD_ite, asInt_ite, sat_req, sat_ite, sat_ret, sat_back, aimF_q, aimR_q, into_q, into_bk, binV_add, binV_sub, binV_mul, binV_eql, binV_neq, binV_lss, binV_leq, binV_gtr, binV_geq, binV_seql, binV_sneq, bbinV_eql, bbinV_neq, unV_not, unV_neg, convV_int, asBool_ite, isBoolD_ite, isBUD_ite, grdD_ite, grdD_bool, grdD_tup, isBUD_tup, isBUD_bool, isBoolD_tup, isBoolD_bool, asBool_tup, asBool_bool, isIntD_int, isStrD_str, asInt_int, asStr_str, lstD_sim, lstD_snil, isSlD_sim, isSlD_snil, isSnil_sim, isSnil_snil, Option.isSome_some, Option.getD_some, true_and, and_true, ↓reduceIte, Nat.reduceEqDiff, reduceCtorEq, pick_or, pick_and, pick_or', pick_and', Bool.not_not, ite_bool, dlV_cell, cells_agg, cells_str, cells_int, cells_bool, cells_sim, cells_snil, List.getD_cons_zero, List.getD_cons_succ, beq_tt, beq_ft, ite_same, imp_true, lookOk, lookRes, sfOf, sgOf, hOk, hRes, hOut, aimP_q, one_int, one_bool, one_str, one_sim, one_snil, one_fn, Int.toNat_natCast, Nat.zero_add, Int.toNat_zero, natCast_fold, Int.ofNat_eq_natCast, isB_bool, beq_self_eq_true, dIsAgg_agg, bel_d, bel7_d, bel_aggd, List.all_cons, List.all_nil, Bool.and_self, Bool.and_true, Bool.true_and, dlV_enc, enc_cells, lst_encO, isSl_encO, one_encO, lst_encS, isSl_encS, one_encS, isAgg_enc, toV_enc, isV_enc, toVs_enc, isVs_enc, toSs_enc, isSs_enc, eVn, e1, e3]
      simp [hlt, - List.getD_eq_getElem?_getD, hm2]
theorem pc20 (v : V) (hv : v.ok) : PureCall Tryz.prog [0] 20 [v.enc] (dRet (.bool (txV v))) := pc20n (v.sz + 1) v hv (by omega)
open Classical in
noncomputable def e20 : Ent := ⟨20, fun | [d_v] => decide (isV d_v) | _ => false, fun | [d_v] => .bool (txV (toV d_v)) | _ => .inil⟩
open Classical in
theorem ok20 : EntOk Tryz.prog [0] e20 := fun ds h => by
  unfold e20 at h ⊢
  simp only at h ⊢
  split at h
  · rw [decide_eq_true_iff] at h
    obtain ⟨v0, rfl, k0⟩ := h
    simp only [toV_enc, toVs_enc, toSs_enc]
    exact pc20 _ k0
  · cases h
noncomputable def lightV (v : V) : Bool := lightS [v] 400 20 && txV v
theorem sim1 (v : V) : DV.sim [v.enc] = encO (some [v]) := by rw [encO, encL, encL]
theorem pc5 (v : V) (hv : v.ok) : PureCall Tryz.prog [0] 5 [v.enc] (dRet (.bool (lightV v))) := by
  refine pure_of_tree mixed fn5 (Nat.le_of_ble_eq_true rfl) (Nat.lt_of_succ_le (Nat.le_of_ble_eq_true rfl)) (sfOk (.cons ok19 (.cons ok20 .nil))) TbOk (lv := lv0) fun I F hI hF => ?_
  refine boxed fun C hC => ?_
  generalize hgen0 : v.enc = gen0
  cbv
  subst hgen0
  subst hC
  refine ⟨?_⟩
  simp only [hI, hF, std]
  have ho : okO (some [v]) := by rw [okO, okL, okL]; exact ⟨by simp, hv, trivial⟩
  simp only [ib_add, ib_sub, ib_mul, ib_eql, ib_neq, ib_lss, ib_leq, ib_gtr, ib_geq, sb_eql, sb_neq, sb_lss, sb_gtr, eqI_eq, ltI_eq, leI_eq, eqB_eq, isIK_int, isIK_ite, isStrD_ite, asInt_ite, sat_req, sat_ite, sat_ret, sat_back, aimF_q, aimR_q, into_q, into_bk, binV_add, binV_sub, binV_mul, binV_eql, binV_neq, binV_lss, binV_leq, binV_gtr, binV_geq, binV_seql, binV_sneq, bbinV_eql, bbinV_neq, unV_not, unV_neg, convV_int, asBool_ite, isBoolD_ite, isBUD_ite, grdD_ite, grdD_bool, grdD_tup, isBUD_tup, isBUD_bool, isBoolD_tup, isBoolD_bool, asBool_tup, asBool_bool, isIntD_int, isStrD_str, asInt_int, asStr_str, lstD_sim, lstD_snil, isSlD_sim, isSlD_snil, isSnil_sim, isSnil_snil, Option.isSome_some, Option.getD_some, true_and, and_true, ↓reduceIte, Nat.reduceEqDiff, reduceCtorEq, pick_or, pick_and, pick_or', pick_and', Bool.not_not, ite_bool, dlV_cell, cells_agg, cells_str, cells_int, cells_bool, cells_sim, cells_snil, List.getD_cons_zero, List.getD_cons_succ, beq_tt, beq_ft, ite_same, imp_true, lookOk, lookRes, sfOf, sgOf, hOk, hRes, hOut, aimP_q, one_int, one_bool, one_str, one_sim, one_snil, one_fn, Int.toNat_natCast, Nat.zero_add, Int.toNat_zero, natCast_fold, Int.ofNat_eq_natCast, isB_bool, beq_self_eq_true, dIsAgg_agg, bel_d, bel7_d, bel_aggd, List.all_cons, List.all_nil, Bool.and_self, Bool.and_true, Bool.true_and, dlV_enc, enc_cells, lst_encO, isSl_encO, one_encO, lst_encS, isSl_encS, one_encS, isAgg_enc, toV_enc, isV_enc, toVs_enc, isVs_enc, toSs_enc, isSs_enc, e19, e20, sim1]
  simp [hv, ho, dlV_enc, enc_cells, lst_encO, isSl_encO, one_encO, lst_encS, isSl_encS, one_encS, isAgg_enc, toV_enc, isV_enc, toVs_enc, isVs_enc, toSs_enc, isSs_enc, lightV]
open Classical in
noncomputable def e5 : Ent := ⟨5, fun | [d_v] => decide (isV d_v) | _ => false, fun | [d_v] => .bool (lightV (toV d_v)) | _ => .inil⟩
open Classical in
theorem ok5 : EntOk Tryz.prog [0] e5 := fun ds h => by
  unfold e5 at h ⊢
  simp only at h ⊢
  split at h
  · rw [decide_eq_true_iff] at h
    obtain ⟨v0, rfl, k0⟩ := h
    simp only [toV_enc, toVs_enc, toSs_enc]
    exact pc5 _ k0
  · cases h
def encSet (o : Option (List B)) : DV := .agg [encBs o]
def FewP (l : List B) : Prop := ∀ i, i < l.length → i ≤ 45 → (l.getD i default).nm.size ≤ 400 ∧ lightV (l.getD i default).v = true
open Classical in
noncomputable def fewS (l : List B) : Bool := decide (FewP l) && decide (l.length ≤ 45)
theorem fewS_f {l : List B} (h : ¬ FewP l) : fewS l = false := by simp [fewS, h]
theorem fewS_t {l : List B} (h : FewP l) : fewS l = decide (l.length ≤ 45) := by simp [fewS, h]
def lv6 : Nat → List Nat × List Nat
  | 2 => ([1, 3], [0])
  | _ => ([], [])
theorem pc6 (o : Option (List B)) (ho : okBs o) : PureCall Tryz.prog [0] 6 [.agg [encBs o]] (dRet (.bool (fewS (o.getD [])))) := by
  have hl := okBs_len ho
  generalize hr : fewS (o.getD []) = fr
  refine pure_of_tree mixed fn6 (Nat.le_of_ble_eq_true rfl) (Nat.lt_of_succ_le (Nat.le_of_ble_eq_true rfl)) (sfOk (.cons ok5 .nil)) TbOk (lv := lv6) fun I F hI hF => ?_
  refine boxed fun C hC => ?_
  generalize hgen0 : encBs o = gen0
  generalize hgen1 : DV.bool fr = gen1
  cbv
  subst hgen0
  subst hgen1
  subst hC
  refine ⟨?_⟩
  simp only [hI, hF, std]
  simp only [ib_add, ib_sub, ib_mul, ib_eql, ib_neq, ib_lss, ib_leq, ib_gtr, ib_geq, sb_eql, sb_neq, sb_lss, sb_gtr, eqI_eq, ltI_eq, leI_eq, eqB_eq, isIK_int, isIK_ite, isStrD_ite, asInt_ite, sat_req, sat_ite, sat_ret, sat_back, aimF_q, aimR_q, into_q, into_bk, binV_add, binV_sub, binV_mul, binV_eql, binV_neq, binV_lss, binV_leq, binV_gtr, binV_geq, binV_seql, binV_sneq, bbinV_eql, bbinV_neq, unV_not, unV_neg, convV_int, asBool_ite, isBoolD_ite, isBUD_ite, grdD_ite, grdD_bool, grdD_tup, isBUD_tup, isBUD_bool, isBoolD_tup, isBoolD_bool, asBool_tup, asBool_bool, isIntD_int, isStrD_str, asInt_int, asStr_str, lstD_sim, lstD_snil, isSlD_sim, isSlD_snil, isSnil_sim, isSnil_snil, Option.isSome_some, Option.getD_some, true_and, and_true, ↓reduceIte, Nat.reduceEqDiff, reduceCtorEq, pick_or, pick_and, pick_or', pick_and', Bool.not_not, ite_bool, dlV_cell, cells_agg, cells_str, cells_int, cells_bool, cells_sim, cells_snil, List.getD_cons_zero, List.getD_cons_succ, beq_tt, beq_ft, ite_same, imp_true, lookOk, lookRes, sfOf, sgOf, hOk, hRes, hOut, aimP_q, one_int, one_bool, one_str, one_sim, one_snil, one_fn, Int.toNat_natCast, Nat.zero_add, Int.toNat_zero, natCast_fold, Int.ofNat_eq_natCast, isB_bool, beq_self_eq_true, dIsAgg_agg, bel_d, bel7_d, bel_aggd, List.all_cons, List.all_nil, Bool.and_self, Bool.and_true, Bool.true_and, dlV_enc, enc_cells, lst_encO, isSl_encO, one_encO, lst_encS, isSl_encS, one_encS, isAgg_enc, toV_enc, isV_enc, toVs_enc, isVs_enc, toSs_enc, isSs_enc, dlV_encB, dlV_encBv, encB_cells, lst_encBs, isSl_encBs, one_encBs, isAgg_encB, toB_enc, isB0_enc, toBs_enc, isBs_enc, agg_enc]
  simp
  refine loop_rule (kend := fun I => kEndF I Tb [.tmp 2]) hI hF (sfOk (.cons ok5 .nil)) TbOk (by exact fun Bk e s h => endF TbOk Bk e s h) (lv := lv6) 0 (fun i : {i : Nat // i ≤ (o.getD []).length ∧ i ≤ 46 ∧ ∀ j, j < i → ((o.getD []).getD j default).nm.size ≤ 400 ∧ lightV ((o.getD []).getD j default).v = true} => [.loc 0 1 0 0, .d (.int .i64 (i.1 : Int))]) (fun i : {i : Nat // i ≤ (o.getD []).length ∧ i ≤ 46 ∧ ∀ j, j < i → ((o.getD []).getD j default).nm.size ≤ 400 ∧ lightV ((o.getD []).getD j default).v = true} => [(0, some ⟨[.d (.agg [encBs o])], 1, 28, true, true⟩)]) (fun i : {i : Nat // i ≤ (o.getD []).length ∧ i ≤ 46 ∧ ∀ j, j < i → ((o.getD []).getD j default).nm.size ≤ 400 ∧ lightV ((o.getD []).getD j default).v = true} => (o.getD []).length - i.1) [0] (⟨0, by omega, by omega, fun j h => by omega⟩ : {i : Nat // i ≤ (o.getD []).length ∧ i ≤ 46 ∧ ∀ j, j < i → ((o.getD []).getD j default).nm.size ≤ 400 ∧ lightV ((o.getD []).getD j default).v = true}) (by rfl) (by rfl) ?_ ?_ fun i => ?_
  · rfl
  · rfl
  obtain ⟨i, hi1, hi3, hi2⟩ := i
  refine boxed fun C hC => ?_
  generalize hgen0 : encBs o = gen0
  generalize hgen1 : DV.int .i64 (i : Int) = gen1
  generalize hgen2 : DV.bool fr = gen2
  cbv
  subst hgen0
  subst hgen1
  subst hgen2
  subst hC
  refine ⟨?_⟩
  simp only [hI, hF, std]
  have w3 := wrap_succ (n := i) (by omega)
  by_cases hlt : i < (o.getD []).length ∧ i ≤ 45
  · have g1 := get_encB _ _ hlt.1
    have k1 := okBs_get ho hlt.1
    have e2 : ((i : Int) < (o.getD []).length) = True := by simp [hlt.1]
    have e3 : ((i : Int) ≤ 45) = True := by have := hlt.2; simp; omega
    simp only [ib_add, ib_sub, ib_mul, ib_eql, ib_neq, ib_lss, ib_leq, ib_gtr, ib_geq, sb_eql, sb_neq, sb_lss, sb_gtr, eqI_eq, ltI_eq, leI_eq, eqB_eq, isIK_int, isIK_ite, isStrD_ite, asInt_ite, sat_req, sat_ite, sat_ret, sat_back, aimF_q, aimR_q, into_q, into_bk, binV_add, binV_sub, binV_mul, binV_eql, binV_neq, binV_lss, binV_leq, binV_gtr, binV_geq, binV_seql, binV_sneq, bbinV_eql, bbinV_neq, unV_not, unV_neg, convV_int, asBool_ite, isBoolD_ite, isBUD_ite, grdD_ite, grdD_bool, grdD_tup, isBUD_tup, isBUD_bool, isBoolD_tup, isBoolD_bool, asBool_tup, asBool_bool, isIntD_int, isStrD_str, asInt_int, asStr_str, lstD_sim, lstD_snil, isSlD_sim, isSlD_snil, isSnil_sim, isSnil_snil, Option.isSome_some, Option.getD_some, true_and, and_true, ↓reduceIte, Nat.reduceEqDiff, reduceCtorEq, pick_or, pick_and, pick_or', pick_and', Bool.not_not, ite_bool, dlV_cell, cells_agg, cells_str, cells_int, cells_bool, cells_sim, cells_snil, List.getD_cons_zero, List.getD_cons_succ, beq_tt, beq_ft, ite_same, imp_true, lookOk, lookRes, sfOf, sgOf, hOk, hRes, hOut, aimP_q, one_int, one_bool, one_str, one_sim, one_snil, one_fn, Int.toNat_natCast, Nat.zero_add, Int.toNat_zero, natCast_fold, Int.ofNat_eq_natCast, isB_bool, beq_self_eq_true, dIsAgg_agg, bel_d, bel7_d, bel_aggd, List.all_cons, List.all_nil, Bool.and_self, Bool.and_true, Bool.true_and, dlV_enc, enc_cells, lst_encO, isSl_encO, one_encO, lst_encS, isSl_encS, one_encS, isAgg_enc, toV_enc, isV_enc, toVs_enc, isVs_enc, toSs_enc, isSs_enc, dlV_encB, dlV_encBv, encB_cells, lst_encBs, isSl_encBs, one_encBs, isAgg_encB, toB_enc, isB0_enc, toBs_enc, isBs_enc, agg_enc, e5, g1, e2, e3]
    simp [hlt.1, hlt.2, w3, - List.getD_eq_getElem?_getD, k1, k1.2, dlV_enc, enc_cells, lst_encO, isSl_encO, one_encO, lst_encS, isSl_encS, one_encS, isAgg_enc, toV_enc, isV_enc, toVs_enc, isVs_enc, toSs_enc, isSs_enc, dlV_encB, dlV_encBv, encB_cells, lst_encBs, isSl_encBs, one_encBs, isAgg_encB, toB_enc, isB0_enc, toBs_enc, isBs_enc, agg_enc]
    refine ⟨fun h => ?_, fun h1 h2 => ⟨i + 1, by omega, ⟨by omega, by omega, fun j hj => ?_⟩, by simp⟩⟩
    · rw [← hr]
      refine fewS_f fun hf => ?_
      obtain ⟨q1, q2⟩ := hf i hlt.1 hlt.2
      rcases h with h | h
      · omega
      · rw [q2] at h; cases h
    · by_cases hji : j = i
      · subst hji; exact ⟨by omega, h2⟩
      · exact hi2 j (by omega)
  · simp only [ib_add, ib_sub, ib_mul, ib_eql, ib_neq, ib_lss, ib_leq, ib_gtr, ib_geq, sb_eql, sb_neq, sb_lss, sb_gtr, eqI_eq, ltI_eq, leI_eq, eqB_eq, isIK_int, isIK_ite, isStrD_ite, asInt_ite, sat_req, sat_ite, sat_ret, sat_back, aimF_q, aimR_q, into_q, into_bk, binV_add, binV_sub, binV_mul, binV_eql, binV_neq, binV_lss, binV_leq, binV_gtr, binV_geq, binV_seql, binV_sneq, bbinV_eql, bbinV_neq, unV_not, unV_neg, convV_int, asBool_ite, isBoolD_ite, isBUD_ite, grdD_ite, grdD_bool, grdD_tup, isBUD_tup, isBUD_bool, isBoolD_tup, isBoolD_bool, asBool_tup, asBool_bool, isIntD_int, isStrD_str, asInt_int, asStr_str, lstD_sim, lstD_snil, isSlD_sim, isSlD_snil, isSnil_sim, isSnil_snil, Option.isSome_some, Option.getD_some, true_and, and_true, ↓reduceIte, Nat.reduceEqDiff, reduceCtorEq, pick_or, pick_and, pick_or', pick_and', Bool.not_not, ite_bool, dlV_cell, cells_agg, cells_str, cells_int, cells_bool, cells_sim, cells_snil, List.getD_cons_zero, List.getD_cons_succ, beq_tt, beq_ft, ite_same, imp_true, lookOk, lookRes, sfOf, sgOf, hOk, hRes, hOut, aimP_q, one_int, one_bool, one_str, one_sim, one_snil, one_fn, Int.toNat_natCast, Nat.zero_add, Int.toNat_zero, natCast_fold, Int.ofNat_eq_natCast, isB_bool, beq_self_eq_true, dIsAgg_agg, bel_d, bel7_d, bel_aggd, List.all_cons, List.all_nil, Bool.and_self, Bool.and_true, Bool.true_and, dlV_enc, enc_cells, lst_encO, isSl_encO, one_encO, lst_encS, isSl_encS, one_encS, isAgg_enc, toV_enc, isV_enc, toVs_enc, isVs_enc, toSs_enc, isSs_enc, dlV_encB, dlV_encBv, encB_cells, lst_encBs, isSl_encBs, one_encBs, isAgg_encB, toB_enc, isB0_enc, toBs_enc, isBs_enc, agg_enc, e5]
    simp [- List.getD_eq_getElem?_getD]
    refine ⟨fun a b => absurd ⟨a, by omega⟩ hlt, fun h => ?_⟩
    rw [← hr, fewS_t (fun j h1 h2 => hi2 j (by
      by_cases hc : i < (o.getD []).length
      · have := h hc; omega
      · omega))]
    exact decide_eq_decide.2 (by omega)
def isSet (d : DV) : Prop := ∃ o : Option (List B), d = encBs o ∧ okBs o
open Classical in
noncomputable def e6 : Ent := ⟨6, fun | [.agg [d]] => decide (isBs d) | _ => false, fun | [.agg [d]] => .bool (fewS ((toBs d).getD [])) | _ => .inil⟩
open Classical in
theorem ok6 : EntOk Tryz.prog [0] e6 := fun ds h => by
  unfold e6 at h ⊢
  simp only at h ⊢
  split at h
  · rw [decide_eq_true_iff] at h
    obtain ⟨v, rfl, k⟩ := h
    simp only [toBs_enc]
    exact pc6 v k
  · cases h
end Go.Proofs.Sx
