/- Small functions of this seat: tests of bytes, names. -/
import Derived.Test.YtmjkaekhjmlnbaaGreatDoorSxBase
import Derived.Test.YtmjkaekhjmlnbaaGreatDoorAmPtr
set_option linter.unusedVariables false
set_option linter.unusedSimpArgs false
set_option maxRecDepth 100000
namespace Go.Proofs.Sx
open Go Go.Proofs Go.Proofs.Am 
variable {gs : List Nat}

def lv0 : Nat → List Nat × List Nat := fun _ => ([], [])
theorem wrap_pred {n : Nat} (h : 1 ≤ n) (h2 : n ≤ 1152921504606846976) : IntKind.i64.wrap ((n : Int) - 1) = ((n - 1 : Nat) : Int) := by rw [wrap64 (by omega) (by omega)]; omega
theorem wrap_succ {n : Nat} (h2 : n ≤ 1152921504606846976) : IntKind.i64.wrap ((n : Int) + 1) = ((n + 1 : Nat) : Int) := by rw [wrap64 (by omega) (by omega)]; omega

theorem pc41 (a b c : Int) : PureCall Tryz.prog gs 41 [.int .i64 a, .int .i64 b, .int .i64 c] (dRet (.bool (decide (b ≤ a) && decide (a ≤ c)))) := by
  refine pure_of_tree mixed fn41 (Nat.le_of_ble_eq_true rfl) (Nat.lt_of_succ_le (Nat.le_of_ble_eq_true rfl)) (sfOk .nil) TbOk (lv := lv0) fun I F hI hF => ?_
  refine boxed fun C hC => ?_
  cbv
  subst hC
  refine ⟨?_⟩
  simp only [hI, hF, std]
  simp only [ib_add, ib_sub, ib_mul, ib_eql, ib_neq, ib_lss, ib_leq, ib_gtr, ib_geq, sb_eql, sb_neq, sb_lss, sb_gtr, eqI_eq, ltI_eq, leI_eq, eqB_eq, isIK_int, isIK_ite, isStrD_ite, asInt_ite, sat_req, sat_ite, sat_ret, sat_back, aimF_q, aimR_q, into_q, into_bk, binV_add, binV_sub, binV_mul, binV_eql, binV_neq, binV_lss, binV_leq, binV_gtr, binV_geq, binV_seql, binV_sneq, bbinV_eql, bbinV_neq, unV_not, unV_neg, convV_int, asBool_ite, isBoolD_ite, isBUD_ite, grdD_ite, grdD_bool, grdD_tup, isBUD_tup, isBUD_bool, isBoolD_tup, isBoolD_bool, asBool_tup, asBool_bool, isIntD_int, isStrD_str, asInt_int, asStr_str, lstD_sim, lstD_snil, isSlD_sim, isSlD_snil, isSnil_sim, isSnil_snil, Option.isSome_some, Option.getD_some, true_and, and_true, ↓reduceIte, Nat.reduceEqDiff, reduceCtorEq, pick_or, pick_and, pick_or', pick_and', Bool.not_not, ite_bool, dlV_cell, cells_agg, cells_str, cells_int, cells_bool, cells_sim, cells_snil, List.getD_cons_zero, List.getD_cons_succ, beq_tt, beq_ft, ite_same, imp_true, lookOk, lookRes, sfOf, sgOf, hOk, hRes, hOut, aimP_q, one_int, one_bool, one_str, one_sim, one_snil, one_fn, Int.toNat_natCast, Nat.zero_add, Int.toNat_zero, natCast_fold, Int.ofNat_eq_natCast, isB_bool, beq_self_eq_true, dIsAgg_agg, bel_d, bel7_d, bel_aggd, List.all_cons, List.all_nil, Bool.and_self, Bool.and_true, Bool.true_and]
  by_cases h : b ≤ a <;> simp [h]
noncomputable def e41 : Ent := ⟨41, fun | [.int .i64 _, .int .i64 _, .int .i64 _] => true | _ => false, fun | [.int .i64 a, .int .i64 b, .int .i64 c] => .bool (decide (b ≤ a) && decide (a ≤ c)) | _ => .inil⟩
open Classical in
theorem ok41 : EntOk Tryz.prog gs e41 := fun ds h => by
  unfold e41 at h ⊢
  simp only at h ⊢
  split at h
  · exact pc41 _ _ _
  · cases h
theorem pc42 (c : Int) : PureCall Tryz.prog gs 42 [.int .u8 c] (dRet (.bool (decide (97 ≤ c) && decide (c ≤ 122)))) := by
  refine pure_of_tree mixed fn42 (Nat.le_of_ble_eq_true rfl) (Nat.lt_of_succ_le (Nat.le_of_ble_eq_true rfl)) (sfOk .nil) TbOk (lv := lv0) fun I F hI hF => ?_
  refine boxed fun C hC => ?_
  cbv
  subst hC
  refine ⟨?_⟩
  simp only [hI, hF, std]
  simp only [ib_add, ib_sub, ib_mul, ib_eql, ib_neq, ib_lss, ib_leq, ib_gtr, ib_geq, sb_eql, sb_neq, sb_lss, sb_gtr, eqI_eq, ltI_eq, leI_eq, eqB_eq, isIK_int, isIK_ite, isStrD_ite, asInt_ite, sat_req, sat_ite, sat_ret, sat_back, aimF_q, aimR_q, into_q, into_bk, binV_add, binV_sub, binV_mul, binV_eql, binV_neq, binV_lss, binV_leq, binV_gtr, binV_geq, binV_seql, binV_sneq, bbinV_eql, bbinV_neq, unV_not, unV_neg, convV_int, asBool_ite, isBoolD_ite, isBUD_ite, grdD_ite, grdD_bool, grdD_tup, isBUD_tup, isBUD_bool, isBoolD_tup, isBoolD_bool, asBool_tup, asBool_bool, isIntD_int, isStrD_str, asInt_int, asStr_str, lstD_sim, lstD_snil, isSlD_sim, isSlD_snil, isSnil_sim, isSnil_snil, Option.isSome_some, Option.getD_some, true_and, and_true, ↓reduceIte, Nat.reduceEqDiff, reduceCtorEq, pick_or, pick_and, pick_or', pick_and', Bool.not_not, ite_bool, dlV_cell, cells_agg, cells_str, cells_int, cells_bool, cells_sim, cells_snil, List.getD_cons_zero, List.getD_cons_succ, beq_tt, beq_ft, ite_same, imp_true, lookOk, lookRes, sfOf, sgOf, hOk, hRes, hOut, aimP_q, one_int, one_bool, one_str, one_sim, one_snil, one_fn, Int.toNat_natCast, Nat.zero_add, Int.toNat_zero, natCast_fold, Int.ofNat_eq_natCast, isB_bool, beq_self_eq_true, dIsAgg_agg, bel_d, bel7_d, bel_aggd, List.all_cons, List.all_nil, Bool.and_self, Bool.and_true, Bool.true_and]
  by_cases h : 97 ≤ c <;> simp [h]
noncomputable def e42 : Ent := ⟨42, fun | [.int .u8 _] => true | _ => false, fun | [.int .u8 c] => .bool (decide (97 ≤ c) && decide (c ≤ 122)) | _ => .inil⟩
open Classical in
theorem ok42 : EntOk Tryz.prog gs e42 := fun ds h => by
  unfold e42 at h ⊢
  simp only at h ⊢
  split at h
  · exact pc42 _
  · cases h
theorem pc43 (c : Int) : PureCall Tryz.prog gs 43 [.int .u8 c] (dRet (.bool (decide (65 ≤ c) && decide (c ≤ 90)))) := by
  refine pure_of_tree mixed fn43 (Nat.le_of_ble_eq_true rfl) (Nat.lt_of_succ_le (Nat.le_of_ble_eq_true rfl)) (sfOk .nil) TbOk (lv := lv0) fun I F hI hF => ?_
  refine boxed fun C hC => ?_
  cbv
  subst hC
  refine ⟨?_⟩
  simp only [hI, hF, std]
  simp only [ib_add, ib_sub, ib_mul, ib_eql, ib_neq, ib_lss, ib_leq, ib_gtr, ib_geq, sb_eql, sb_neq, sb_lss, sb_gtr, eqI_eq, ltI_eq, leI_eq, eqB_eq, isIK_int, isIK_ite, isStrD_ite, asInt_ite, sat_req, sat_ite, sat_ret, sat_back, aimF_q, aimR_q, into_q, into_bk, binV_add, binV_sub, binV_mul, binV_eql, binV_neq, binV_lss, binV_leq, binV_gtr, binV_geq, binV_seql, binV_sneq, bbinV_eql, bbinV_neq, unV_not, unV_neg, convV_int, asBool_ite, isBoolD_ite, isBUD_ite, grdD_ite, grdD_bool, grdD_tup, isBUD_tup, isBUD_bool, isBoolD_tup, isBoolD_bool, asBool_tup, asBool_bool, isIntD_int, isStrD_str, asInt_int, asStr_str, lstD_sim, lstD_snil, isSlD_sim, isSlD_snil, isSnil_sim, isSnil_snil, Option.isSome_some, Option.getD_some, true_and, and_true, ↓reduceIte, Nat.reduceEqDiff, reduceCtorEq, pick_or, pick_and, pick_or', pick_and', Bool.not_not, ite_bool, dlV_cell, cells_agg, cells_str, cells_int, cells_bool, cells_sim, cells_snil, List.getD_cons_zero, List.getD_cons_succ, beq_tt, beq_ft, ite_same, imp_true, lookOk, lookRes, sfOf, sgOf, hOk, hRes, hOut, aimP_q, one_int, one_bool, one_str, one_sim, one_snil, one_fn, Int.toNat_natCast, Nat.zero_add, Int.toNat_zero, natCast_fold, Int.ofNat_eq_natCast, isB_bool, beq_self_eq_true, dIsAgg_agg, bel_d, bel7_d, bel_aggd, List.all_cons, List.all_nil, Bool.and_self, Bool.and_true, Bool.true_and]
  by_cases h : 65 ≤ c <;> simp [h]
noncomputable def e43 : Ent := ⟨43, fun | [.int .u8 _] => true | _ => false, fun | [.int .u8 c] => .bool (decide (65 ≤ c) && decide (c ≤ 90)) | _ => .inil⟩
open Classical in
theorem ok43 : EntOk Tryz.prog gs e43 := fun ds h => by
  unfold e43 at h ⊢
  simp only at h ⊢
  split at h
  · exact pc43 _
  · cases h
theorem pc44 (c : Int) : PureCall Tryz.prog gs 44 [.int .u8 c] (dRet (.bool (decide (48 ≤ c) && decide (c ≤ 57)))) := by
  refine pure_of_tree mixed fn44 (Nat.le_of_ble_eq_true rfl) (Nat.lt_of_succ_le (Nat.le_of_ble_eq_true rfl)) (sfOk .nil) TbOk (lv := lv0) fun I F hI hF => ?_
  refine boxed fun C hC => ?_
  cbv
  subst hC
  refine ⟨?_⟩
  simp only [hI, hF, std]
  simp only [ib_add, ib_sub, ib_mul, ib_eql, ib_neq, ib_lss, ib_leq, ib_gtr, ib_geq, sb_eql, sb_neq, sb_lss, sb_gtr, eqI_eq, ltI_eq, leI_eq, eqB_eq, isIK_int, isIK_ite, isStrD_ite, asInt_ite, sat_req, sat_ite, sat_ret, sat_back, aimF_q, aimR_q, into_q, into_bk, binV_add, binV_sub, binV_mul, binV_eql, binV_neq, binV_lss, binV_leq, binV_gtr, binV_geq, binV_seql, binV_sneq, bbinV_eql, bbinV_neq, unV_not, unV_neg, convV_int, asBool_ite, isBoolD_ite, isBUD_ite, grdD_ite, grdD_bool, grdD_tup, isBUD_tup, isBUD_bool, isBoolD_tup, isBoolD_bool, asBool_tup, asBool_bool, isIntD_int, isStrD_str, asInt_int, asStr_str, lstD_sim, lstD_snil, isSlD_sim, isSlD_snil, isSnil_sim, isSnil_snil, Option.isSome_some, Option.getD_some, true_and, and_true, ↓reduceIte, Nat.reduceEqDiff, reduceCtorEq, pick_or, pick_and, pick_or', pick_and', Bool.not_not, ite_bool, dlV_cell, cells_agg, cells_str, cells_int, cells_bool, cells_sim, cells_snil, List.getD_cons_zero, List.getD_cons_succ, beq_tt, beq_ft, ite_same, imp_true, lookOk, lookRes, sfOf, sgOf, hOk, hRes, hOut, aimP_q, one_int, one_bool, one_str, one_sim, one_snil, one_fn, Int.toNat_natCast, Nat.zero_add, Int.toNat_zero, natCast_fold, Int.ofNat_eq_natCast, isB_bool, beq_self_eq_true, dIsAgg_agg, bel_d, bel7_d, bel_aggd, List.all_cons, List.all_nil, Bool.and_self, Bool.and_true, Bool.true_and]
  by_cases h : 48 ≤ c <;> simp [h]
noncomputable def e44 : Ent := ⟨44, fun | [.int .u8 _] => true | _ => false, fun | [.int .u8 c] => .bool (decide (48 ≤ c) && decide (c ≤ 57)) | _ => .inil⟩
open Classical in
theorem ok44 : EntOk Tryz.prog gs e44 := fun ds h => by
  unfold e44 at h ⊢
  simp only at h ⊢
  split at h
  · exact pc44 _
  · cases h
theorem pc88 (k : Int) : PureCall Tryz.prog gs 88 [.int .i64 k] (dRet (.bool ((decide (1 ≤ k) && decide (k ≤ 6)) || (decide (9 ≤ k) && decide (k ≤ 12)) || decide (k = 14)))) := by
  refine pure_of_tree mixed fn88 (Nat.le_of_ble_eq_true rfl) (Nat.lt_of_succ_le (Nat.le_of_ble_eq_true rfl)) (sfOk (.cons ok41 .nil)) TbOk (lv := lv0) fun I F hI hF => ?_
  refine boxed fun C hC => ?_
  cbv
  subst hC
  refine ⟨?_⟩
  simp only [hI, hF, std]
  simp only [ib_add, ib_sub, ib_mul, ib_eql, ib_neq, ib_lss, ib_leq, ib_gtr, ib_geq, sb_eql, sb_neq, sb_lss, sb_gtr, eqI_eq, ltI_eq, leI_eq, eqB_eq, isIK_int, isIK_ite, isStrD_ite, asInt_ite, sat_req, sat_ite, sat_ret, sat_back, aimF_q, aimR_q, into_q, into_bk, binV_add, binV_sub, binV_mul, binV_eql, binV_neq, binV_lss, binV_leq, binV_gtr, binV_geq, binV_seql, binV_sneq, bbinV_eql, bbinV_neq, unV_not, unV_neg, convV_int, asBool_ite, isBoolD_ite, isBUD_ite, grdD_ite, grdD_bool, grdD_tup, isBUD_tup, isBUD_bool, isBoolD_tup, isBoolD_bool, asBool_tup, asBool_bool, isIntD_int, isStrD_str, asInt_int, asStr_str, lstD_sim, lstD_snil, isSlD_sim, isSlD_snil, isSnil_sim, isSnil_snil, Option.isSome_some, Option.getD_some, true_and, and_true, ↓reduceIte, Nat.reduceEqDiff, reduceCtorEq, pick_or, pick_and, pick_or', pick_and', Bool.not_not, ite_bool, dlV_cell, cells_agg, cells_str, cells_int, cells_bool, cells_sim, cells_snil, List.getD_cons_zero, List.getD_cons_succ, beq_tt, beq_ft, ite_same, imp_true, lookOk, lookRes, sfOf, sgOf, hOk, hRes, hOut, aimP_q, one_int, one_bool, one_str, one_sim, one_snil, one_fn, Int.toNat_natCast, Nat.zero_add, Int.toNat_zero, natCast_fold, Int.ofNat_eq_natCast, isB_bool, beq_self_eq_true, dIsAgg_agg, bel_d, bel7_d, bel_aggd, List.all_cons, List.all_nil, Bool.and_self, Bool.and_true, Bool.true_and, e41]
  simp
noncomputable def e88 : Ent := ⟨88, fun | [.int .i64 _] => true | _ => false, fun | [.int .i64 k] => .bool ((decide (1 ≤ k) && decide (k ≤ 6)) || (decide (9 ≤ k) && decide (k ≤ 12)) || decide (k = 14)) | _ => .inil⟩
open Classical in
theorem ok88 : EntOk Tryz.prog gs e88 := fun ds h => by
  unfold e88 at h ⊢
  simp only at h ⊢
  split at h
  · exact pc88 _
  · cases h

theorem pc57 (b : Bool) : PureCall Tryz.prog gs 57 [.bool b] (dRet (.int .i64 (if b then 1 else 0))) := by
  refine pure_of_tree mixed fn57 (Nat.le_of_ble_eq_true rfl) (Nat.lt_of_succ_le (Nat.le_of_ble_eq_true rfl)) (sfOk .nil) TbOk (lv := lv0) fun I F hI hF => ?_
  refine boxed fun C hC => ?_
  cbv
  subst hC
  refine ⟨?_⟩
  simp only [hI, hF, std]
  simp only [ib_add, ib_sub, ib_mul, ib_eql, ib_neq, ib_lss, ib_leq, ib_gtr, ib_geq, sb_eql, sb_neq, sb_lss, sb_gtr, eqI_eq, ltI_eq, leI_eq, eqB_eq, isIK_int, isIK_ite, isStrD_ite, asInt_ite, sat_req, sat_ite, sat_ret, sat_back, aimF_q, aimR_q, into_q, into_bk, binV_add, binV_sub, binV_mul, binV_eql, binV_neq, binV_lss, binV_leq, binV_gtr, binV_geq, binV_seql, binV_sneq, bbinV_eql, bbinV_neq, unV_not, unV_neg, convV_int, asBool_ite, isBoolD_ite, isBUD_ite, grdD_ite, grdD_bool, grdD_tup, isBUD_tup, isBUD_bool, isBoolD_tup, isBoolD_bool, asBool_tup, asBool_bool, isIntD_int, isStrD_str, asInt_int, asStr_str, lstD_sim, lstD_snil, isSlD_sim, isSlD_snil, isSnil_sim, isSnil_snil, Option.isSome_some, Option.getD_some, true_and, and_true, ↓reduceIte, Nat.reduceEqDiff, reduceCtorEq, pick_or, pick_and, pick_or', pick_and', Bool.not_not, ite_bool, dlV_cell, cells_agg, cells_str, cells_int, cells_bool, cells_sim, cells_snil, List.getD_cons_zero, List.getD_cons_succ, beq_tt, beq_ft, ite_same, imp_true, lookOk, lookRes, sfOf, sgOf, hOk, hRes, hOut, aimP_q, one_int, one_bool, one_str, one_sim, one_snil, one_fn, Int.toNat_natCast, Nat.zero_add, Int.toNat_zero, natCast_fold, Int.ofNat_eq_natCast, isB_bool, beq_self_eq_true, dIsAgg_agg, bel_d, bel7_d, bel_aggd, List.all_cons, List.all_nil, Bool.and_self, Bool.and_true, Bool.true_and]
  cases b <;> simp
noncomputable def e57 : Ent := ⟨57, fun | [.bool _] => true | _ => false, fun | [.bool b] => .int .i64 (if b then 1 else 0) | _ => .inil⟩
open Classical in
theorem ok57 : EntOk Tryz.prog gs e57 := fun ds h => by
  unfold e57 at h ⊢
  simp only at h ⊢
  split at h
  · exact pc57 _
  · cases h

/-- A name's byte behind another. -/
def NameB (s : ByteArray) (i : Nat) : Prop :=
  (48 ≤ byt s i ∧ byt s i ≤ 57) ∨ (97 ≤ byt s i ∧ byt s i ≤ 122) ∨ (65 ≤ byt s i ∧ byt s i ≤ 90) ∨ byt s i = 95 ∨ (byt s i = 45 ∧ byt s (i - 1) ≠ 45)
structure NameP (s : ByteArray) : Prop where
  pos : 1 ≤ s.size
  most : s.size ≤ 32
  first : (97 ≤ byt s 0 ∧ byt s 0 ≤ 122) ∨ (65 ≤ byt s 0 ∧ byt s 0 ≤ 90)
  last : byt s (s.size - 1) ≠ 45
  all : ∀ i, 1 ≤ i → i < s.size → NameB s i
open Classical in
noncomputable def nameOk (s : ByteArray) : Bool := decide (NameP s)
theorem nameOk_false (s : ByteArray) : (false = nameOk s) = ¬ NameP s := by simp [nameOk, eq_comm]
theorem nameOk_true (s : ByteArray) : (true = nameOk s) = NameP s := by simp [nameOk, eq_comm]
def lv25 : Nat → List Nat × List Nat
  | 4 => ([0, 3], [])
  | _ => ([], [])
theorem pc25 (s : ByteArray) : PureCall Tryz.prog gs 25 [.str s] (dRet (.bool (nameOk s))) := by
  refine pure_of_tree mixed fn25 (Nat.le_of_ble_eq_true rfl) (Nat.lt_of_succ_le (Nat.le_of_ble_eq_true rfl)) (sfOk (.cons ok41 (.cons ok42 (.cons ok43 (.cons ok44 .nil))))) TbOk (lv := lv25) fun I F hI hF => ?_
  refine boxed fun C hC => ?_
  cbv
  subst hC
  refine ⟨?_⟩
  simp only [hI, hF, std]
  simp only [ib_add, ib_sub, ib_mul, ib_eql, ib_neq, ib_lss, ib_leq, ib_gtr, ib_geq, sb_eql, sb_neq, sb_lss, sb_gtr, eqI_eq, ltI_eq, leI_eq, eqB_eq, isIK_int, isIK_ite, isStrD_ite, asInt_ite, sat_req, sat_ite, sat_ret, sat_back, aimF_q, aimR_q, into_q, into_bk, binV_add, binV_sub, binV_mul, binV_eql, binV_neq, binV_lss, binV_leq, binV_gtr, binV_geq, binV_seql, binV_sneq, bbinV_eql, bbinV_neq, unV_not, unV_neg, convV_int, asBool_ite, isBoolD_ite, isBUD_ite, grdD_ite, grdD_bool, grdD_tup, isBUD_tup, isBUD_bool, isBoolD_tup, isBoolD_bool, asBool_tup, asBool_bool, isIntD_int, isStrD_str, asInt_int, asStr_str, lstD_sim, lstD_snil, isSlD_sim, isSlD_snil, isSnil_sim, isSnil_snil, Option.isSome_some, Option.getD_some, true_and, and_true, ↓reduceIte, Nat.reduceEqDiff, reduceCtorEq, pick_or, pick_and, pick_or', pick_and', Bool.not_not, ite_bool, dlV_cell, cells_agg, cells_str, cells_int, cells_bool, cells_sim, cells_snil, List.getD_cons_zero, List.getD_cons_succ, beq_tt, beq_ft, ite_same, imp_true, lookOk, lookRes, sfOf, sgOf, hOk, hRes, hOut, aimP_q, one_int, one_bool, one_str, one_sim, one_snil, one_fn, Int.toNat_natCast, Nat.zero_add, Int.toNat_zero, natCast_fold, Int.ofNat_eq_natCast, isB_bool, beq_self_eq_true, dIsAgg_agg, bel_d, bel7_d, bel_aggd, List.all_cons, List.all_nil, Bool.and_self, Bool.and_true, Bool.true_and, e41, e42, e43, e44]
  by_cases h1 : 1 ≤ s.size ∧ s.size ≤ 32
  · have w := wrap_pred h1.1 (by omega)
    simp [nameOk_false, w]
    repeat' (first | apply And.intro | intro _)
    all_goals first | omega | skip
    · rename_i h; obtain ⟨_, _, _, _, _⟩ := h; omega
    · skip
      refine loop_rule (kend := fun I => kEndF I Tb [.tmp 2]) hI hF (sfOk (.cons ok41 (.cons ok42 (.cons ok43 (.cons ok44 .nil))))) TbOk (by exact fun Bk e s h => endF TbOk Bk e s h) (lv := lv25) 0 (fun i : {i : Nat // 1 ≤ i ∧ i ≤ s.size ∧ ∀ j, 1 ≤ j → j < i → NameB s j} => [.d (.str s), .d (.int .i64 (i.1 : Int))]) (fun i : {i : Nat // 1 ≤ i ∧ i ≤ s.size ∧ ∀ j, 1 ≤ j → j < i → NameB s j} => []) (fun i : {i : Nat // 1 ≤ i ∧ i ≤ s.size ∧ ∀ j, 1 ≤ j → j < i → NameB s j} => s.size - i.1) [] (⟨1, by omega, by omega, fun j _ _ => by omega⟩ : {i : Nat // 1 ≤ i ∧ i ≤ s.size ∧ ∀ j, 1 ≤ j → j < i → NameB s j}) (by rfl) (by rfl) ?_ ?_ fun i => ?_
      · rfl
      · rfl
      obtain ⟨i, hi1, hi2, hi3⟩ := i
      refine boxed fun C hC => ?_
      cbv
      subst hC
      refine ⟨?_⟩
      simp only [hI, hF, std]
      have w2 := wrap_pred hi1 (by omega)
      have w3 := wrap_succ (n := i) (by omega)
      simp only [ib_add, ib_sub, ib_mul, ib_eql, ib_neq, ib_lss, ib_leq, ib_gtr, ib_geq, sb_eql, sb_neq, sb_lss, sb_gtr, eqI_eq, ltI_eq, leI_eq, eqB_eq, isIK_int, isIK_ite, isStrD_ite, asInt_ite, sat_req, sat_ite, sat_ret, sat_back, aimF_q, aimR_q, into_q, into_bk, binV_add, binV_sub, binV_mul, binV_eql, binV_neq, binV_lss, binV_leq, binV_gtr, binV_geq, binV_seql, binV_sneq, bbinV_eql, bbinV_neq, unV_not, unV_neg, convV_int, asBool_ite, isBoolD_ite, isBUD_ite, grdD_ite, grdD_bool, grdD_tup, isBUD_tup, isBUD_bool, isBoolD_tup, isBoolD_bool, asBool_tup, asBool_bool, isIntD_int, isStrD_str, asInt_int, asStr_str, lstD_sim, lstD_snil, isSlD_sim, isSlD_snil, isSnil_sim, isSnil_snil, Option.isSome_some, Option.getD_some, true_and, and_true, ↓reduceIte, Nat.reduceEqDiff, reduceCtorEq, pick_or, pick_and, pick_or', pick_and', Bool.not_not, ite_bool, dlV_cell, cells_agg, cells_str, cells_int, cells_bool, cells_sim, cells_snil, List.getD_cons_zero, List.getD_cons_succ, beq_tt, beq_ft, ite_same, imp_true, lookOk, lookRes, sfOf, sgOf, hOk, hRes, hOut, aimP_q, one_int, one_bool, one_str, one_sim, one_snil, one_fn, Int.toNat_natCast, Nat.zero_add, Int.toNat_zero, natCast_fold, Int.ofNat_eq_natCast, isB_bool, beq_self_eq_true, dIsAgg_agg, bel_d, bel7_d, bel_aggd, List.all_cons, List.all_nil, Bool.and_self, Bool.and_true, Bool.true_and, e41, e42, e43, e44]
      simp [nameOk_false, nameOk_true, w2, w3]
      repeat' (first | apply And.intro | intro _)
      all_goals first | omega | skip
      · rename_i h; obtain ⟨_, _, _, _, h⟩ := h
        have := h i hi1 (by omega)
        unfold NameB at this; omega
      · refine ⟨i + 1, by omega, ⟨by omega, by omega, fun j h1 h2 => ?_⟩, rfl⟩
        by_cases hj : j = i
        · subst hj; unfold NameB; omega
        · exact hi3 j h1 (by omega)
      · exact ⟨h1.1, h1.2, by omega, by omega, fun j h1 h2 => hi3 j h1 (by omega)⟩
  · have h2 : ¬ NameP s := fun h => h1 ⟨h.1, h.2⟩
    have : (1 : Int) ≤ s.size → ¬ (s.size : Int) ≤ 32 := fun a b => h1 (by omega)
    simp [nameOk_false, h2]
    omega
noncomputable def e25 : Ent := ⟨25, fun | [.str _] => true | _ => false, fun | [.str s] => .bool (nameOk s) | _ => .inil⟩
open Classical in
theorem ok25 : EntOk Tryz.prog gs e25 := fun ds h => by
  unfold e25 at h ⊢
  simp only at h ⊢
  split at h
  · exact pc25 _
  · cases h

theorem pc60 (s t : ByteArray) (hs : s.size ≤ 1152921504606846976) : PureCall Tryz.prog gs 60 [.str s, .str t] (dRet (.bool (decide (t.size ≤ s.size) && decide (s.extract (s.size - t.size) s.size = t)))) := by
  refine pure_of_tree mixed fn60 (Nat.le_of_ble_eq_true rfl) (Nat.lt_of_succ_le (Nat.le_of_ble_eq_true rfl)) (sfOk .nil) TbOk (lv := lv0) fun I F hI hF => ?_
  refine boxed fun C hC => ?_
  cbv
  subst hC
  refine ⟨?_⟩
  simp only [hI, hF, std]
  simp only [ib_add, ib_sub, ib_mul, ib_eql, ib_neq, ib_lss, ib_leq, ib_gtr, ib_geq, sb_eql, sb_neq, sb_lss, sb_gtr, eqI_eq, ltI_eq, leI_eq, eqB_eq, isIK_int, isIK_ite, isStrD_ite, asInt_ite, sat_req, sat_ite, sat_ret, sat_back, aimF_q, aimR_q, into_q, into_bk, binV_add, binV_sub, binV_mul, binV_eql, binV_neq, binV_lss, binV_leq, binV_gtr, binV_geq, binV_seql, binV_sneq, bbinV_eql, bbinV_neq, unV_not, unV_neg, convV_int, asBool_ite, isBoolD_ite, isBUD_ite, grdD_ite, grdD_bool, grdD_tup, isBUD_tup, isBUD_bool, isBoolD_tup, isBoolD_bool, asBool_tup, asBool_bool, isIntD_int, isStrD_str, asInt_int, asStr_str, lstD_sim, lstD_snil, isSlD_sim, isSlD_snil, isSnil_sim, isSnil_snil, Option.isSome_some, Option.getD_some, true_and, and_true, ↓reduceIte, Nat.reduceEqDiff, reduceCtorEq, pick_or, pick_and, pick_or', pick_and', Bool.not_not, ite_bool, dlV_cell, cells_agg, cells_str, cells_int, cells_bool, cells_sim, cells_snil, List.getD_cons_zero, List.getD_cons_succ, beq_tt, beq_ft, ite_same, imp_true, lookOk, lookRes, sfOf, sgOf, hOk, hRes, hOut, aimP_q, one_int, one_bool, one_str, one_sim, one_snil, one_fn, Int.toNat_natCast, Nat.zero_add, Int.toNat_zero, natCast_fold, Int.ofNat_eq_natCast, isB_bool, beq_self_eq_true, dIsAgg_agg, bel_d, bel7_d, bel_aggd, List.all_cons, List.all_nil, Bool.and_self, Bool.and_true, Bool.true_and]
  by_cases h : t.size ≤ s.size
  · have w : IntKind.i64.wrap ((s.size : Int) - t.size) = ((s.size - t.size : Nat) : Int) := by rw [wrap64 (by omega) (by omega)]; omega
    simp [h, w, subD, loN, hiN, intO, asInt_int, asStr_str, isIntD_int, isStrD_str]
  · simp [h]
open Classical in
noncomputable def e60 : Ent := ⟨60, fun | [.str s, .str t] => decide (s.size ≤ 1152921504606846976) | _ => false, fun | [.str s, .str t] => .bool (decide (t.size ≤ s.size) && decide (s.extract (s.size - t.size) s.size = t)) | _ => .inil⟩
open Classical in
theorem ok60 : EntOk Tryz.prog gs e60 := fun ds h => by
  unfold e60 at h ⊢
  simp only at h ⊢
  split at h
  · exact pc60 _ _ (of_decide_eq_true h)
  · cases h
theorem pc38 (s t : ByteArray) (hs : s.size ≤ 1152921504606846976) : PureCall Tryz.prog gs 38 [.str s, .str t] (dRet (.bool (decide (t.size ≤ s.size) && decide (s.extract (s.size - t.size) s.size = t)))) := by
  refine pure_of_tree mixed fn38 (Nat.le_of_ble_eq_true rfl) (Nat.lt_of_succ_le (Nat.le_of_ble_eq_true rfl)) (sfOk (.cons ok60 .nil)) TbOk (lv := lv0) fun I F hI hF => ?_
  refine boxed fun C hC => ?_
  cbv
  subst hC
  refine ⟨?_⟩
  simp only [hI, hF, std]
  simp only [ib_add, ib_sub, ib_mul, ib_eql, ib_neq, ib_lss, ib_leq, ib_gtr, ib_geq, sb_eql, sb_neq, sb_lss, sb_gtr, eqI_eq, ltI_eq, leI_eq, eqB_eq, isIK_int, isIK_ite, isStrD_ite, asInt_ite, sat_req, sat_ite, sat_ret, sat_back, aimF_q, aimR_q, into_q, into_bk, binV_add, binV_sub, binV_mul, binV_eql, binV_neq, binV_lss, binV_leq, binV_gtr, binV_geq, binV_seql, binV_sneq, bbinV_eql, bbinV_neq, unV_not, unV_neg, convV_int, asBool_ite, isBoolD_ite, isBUD_ite, grdD_ite, grdD_bool, grdD_tup, isBUD_tup, isBUD_bool, isBoolD_tup, isBoolD_bool, asBool_tup, asBool_bool, isIntD_int, isStrD_str, asInt_int, asStr_str, lstD_sim, lstD_snil, isSlD_sim, isSlD_snil, isSnil_sim, isSnil_snil, Option.isSome_some, Option.getD_some, true_and, and_true, ↓reduceIte, Nat.reduceEqDiff, reduceCtorEq, pick_or, pick_and, pick_or', pick_and', Bool.not_not, ite_bool, dlV_cell, cells_agg, cells_str, cells_int, cells_bool, cells_sim, cells_snil, List.getD_cons_zero, List.getD_cons_succ, beq_tt, beq_ft, ite_same, imp_true, lookOk, lookRes, sfOf, sgOf, hOk, hRes, hOut, aimP_q, one_int, one_bool, one_str, one_sim, one_snil, one_fn, Int.toNat_natCast, Nat.zero_add, Int.toNat_zero, natCast_fold, Int.ofNat_eq_natCast, isB_bool, beq_self_eq_true, dIsAgg_agg, bel_d, bel7_d, bel_aggd, List.all_cons, List.all_nil, Bool.and_self, Bool.and_true, Bool.true_and, e60]
  simp [hs]
open Classical in
noncomputable def e38 : Ent := ⟨38, fun | [.str s, .str t] => decide (s.size ≤ 1152921504606846976) | _ => false, fun | [.str s, .str t] => .bool (decide (t.size ≤ s.size) && decide (s.extract (s.size - t.size) s.size = t)) | _ => .inil⟩
open Classical in
theorem ok38 : EntOk Tryz.prog gs e38 := fun ds h => by
  unfold e38 at h ⊢
  simp only at h ⊢
  split at h
  · exact pc38 _ _ (of_decide_eq_true h)
  · cases h
end Go.Proofs.Sx
