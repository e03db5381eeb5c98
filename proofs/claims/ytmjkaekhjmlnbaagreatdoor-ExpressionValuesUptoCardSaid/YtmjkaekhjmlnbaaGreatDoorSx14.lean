/- Copies, walked. -/
import Derived.Test.YtmjkaekhjmlnbaaGreatDoorSx13
import Derived.Test.YtmjkaekhjmlnbaaGreatDoorSxBase
import Derived.Test.YtmjkaekhjmlnbaaGreatDoorAmPtr
set_option linter.unusedVariables false
set_option linter.unusedSimpArgs false
set_option maxRecDepth 100000
namespace Go.Proofs.Sx
open Go Go.Proofs Go.Proofs.Am 
variable {gs : List Nat}

/-- What is gathered at the head of a loop: nothing yet, or a row. -/
def accA (es : Nat) : Bool → Nat → AV
  | false, _ => .d .snil
  | true, n => .slc 0 es 0 n
def accB (es ty : Nat) (els : List AV) : Bool → Option LB
  | false => none
  | true => some ⟨els, es, ty, true, true⟩
theorem mapM_d (lh : Nat → Option LB) (n : Nat) (l : List DV) : (l.map AV.d).mapM (frz lh n) = some l := frz_map_d lh n l
/-- What is gathered, as data. -/
theorem frz_acc {lh : LM} {es ty n : Nat} {l : List DV} (hb : lh.get 0 = some ⟨l.map .d, es, ty, true, true⟩) (hn : l.length = n) (h : n ≤ 1048576) : frz lh.get 8 (.slc 0 es 0 n) = some (.sim l) := by
  have hl : 0 + n ≤ (l.map AV.d).length ∧ n ≤ big := ⟨by simp; omega, by unfold big; omega⟩
  simp only [frz, hb, if_pos hl, List.drop_zero]
  rw [List.take_of_length_le (by simp; omega), mapM_d]; rfl
theorem add_fold (a b : Nat) : (Nat.add.match_1 (motive := fun _ _ => Nat) a b (fun a => a) (fun a b => (Nat.add a b).succ)) = a + b := by cases b <;> rfl
theorem len_fold {α : Type} (l : List α) : (match l with | [] => 0 | _ :: r => r.length + 1) = l.length := by cases l <;> rfl
theorem frz_row {lh : LM} {b es ty n : Nat} {l : List DV} (hb : lh.get b = some ⟨l.map .d, es, ty, true, true⟩) (hn : l.length = n) (h : n ≤ 1048576) : frz lh.get 8 (.slc b es 0 n) = some (.sim l) := by
  have hl : 0 + n ≤ (l.map AV.d).length ∧ n ≤ big := ⟨by simp; omega, by unfold big; omega⟩
  simp only [frz, hb, if_pos hl, List.drop_zero]
  rw [List.take_of_length_le (by simp; omega), mapM_d]; rfl
theorem pc29 (o : Option (List ByteArray)) (ho : okS0 o) : PureCall Tryz.prog [0] 29 [encS o] (dRet (encS (some (o.getD [])))) := by
  refine pure_of_treeR mixed fn29 (Nat.le_of_ble_eq_true rfl) (Nat.lt_of_succ_le (Nat.le_of_ble_eq_true rfl)) (sfOk .nil) TbOk (lv := lv0) fun I F hI hF => ?_
  refine boxed fun C hC => ?_
  generalize hgen0 : encS o = gen0
  cbv
  subst hgen0
  subst hC
  refine ⟨?_⟩
  simp only [hI, hF, std]
  simp only [ib_add, ib_sub, ib_mul, ib_eql, ib_neq, ib_lss, ib_leq, ib_gtr, ib_geq, sb_eql, sb_neq, sb_lss, sb_gtr, eqI_eq, ltI_eq, leI_eq, eqB_eq, isIK_int, isIK_ite, isStrD_ite, asInt_ite, sat_req, sat_ite, sat_ret, sat_back, aimF_q, aimR_q, into_q, into_bk, binV_add, binV_sub, binV_mul, binV_eql, binV_neq, binV_lss, binV_leq, binV_gtr, binV_geq, binV_seql, binV_sneq, bbinV_eql, bbinV_neq, unV_not, unV_neg, convV_int, asBool_ite, isBoolD_ite, isBUD_ite, grdD_ite, grdD_bool, grdD_tup, isBUD_tup, isBUD_bool, isBoolD_tup, isBoolD_bool, asBool_tup, asBool_bool, isIntD_int, isStrD_str, asInt_int, asStr_str, lstD_sim, lstD_snil, isSlD_sim, isSlD_snil, isSnil_sim, isSnil_snil, Option.isSome_some, Option.getD_some, true_and, and_true, ↓reduceIte, Nat.reduceEqDiff, reduceCtorEq, pick_or, pick_and, pick_or', pick_and', Bool.not_not, ite_bool, dlV_cell, cells_agg, cells_str, cells_int, cells_bool, cells_sim, cells_snil, List.getD_cons_zero, List.getD_cons_succ, beq_tt, beq_ft, ite_same, imp_true, lookOk, lookRes, sfOf, sgOf, hOk, hRes, hOut, aimP_q, one_int, one_bool, one_str, one_sim, one_snil, one_fn, Int.toNat_natCast, Nat.zero_add, Int.toNat_zero, natCast_fold, Int.ofNat_eq_natCast, isB_bool, beq_self_eq_true, dIsAgg_agg, bel_d, bel7_d, bel_aggd, List.all_cons, List.all_nil, Bool.and_self, Bool.and_true, Bool.true_and, dlV_enc, enc_cells, lst_encO, isSl_encO, one_encO, lst_encS, isSl_encS, one_encS, isAgg_enc, toV_enc, isV_enc, toVs_enc, isVs_enc, toSs_enc, isSs_enc, add_fold, tupA, List.take_nil, List.nil_append, List.length_map]
  have hl := ho.1
  refine ⟨fun h => ?_, fun h => ?_⟩
  · cases o with
    | none => rfl
    | some l => cases h
  · cases o with
    | none => cases h
    | some l =>
      refine ⟨by simp [encS, cells_str], by simp; simp at hl; omega, ?_⟩
      exact frz_row (l := l.map .str) rfl (by simp) (by simpa using hl)
open Classical in
noncomputable def e29 : Ent := ⟨29, fun | [d_o] => decide (isSs d_o) | _ => false, fun | [d_o] => encS (some ((toSs d_o).getD [])) | _ => .inil⟩
open Classical in
theorem ok29 : EntOk Tryz.prog [0] e29 := fun ds h => by
  unfold e29 at h ⊢
  simp only at h ⊢
  split at h
  · rw [decide_eq_true_iff] at h
    obtain ⟨v0, rfl, k0⟩ := h
    simp only [toV_enc, toVs_enc, toSs_enc]
    exact pc29 _ k0
  · cases h
def lv30 : Nat → List Nat × List Nat
  | 3 => ([0, 3, 4], [10003])
  | _ => ([], [])
theorem frz_none {lh : LM} : frz lh.get 8 (.d .snil) = some .snil := rfl
/-- The copies gathered so far. -/
def ownA (l : List V) (i : Nat) : List DV := (l.take i).map fun v => (ownV v).enc
theorem ownA_len {l : List V} {i : Nat} (h : i ≤ l.length) : (ownA l i).length = i := by simp [ownA]; omega
theorem ownA_succ {l : List V} {i : Nat} (h : i < l.length) : ownA l (i + 1) = ownA l i ++ [(ownV (l.getD i default)).enc] := by
  unfold ownA
  rw [List.take_add_one, List.map_append]
  simp [List.getD, h]
theorem ownA_all {o : Option (List V)} {i : Nat} (h : (o.getD []).length ≤ i) (h2 : 0 < (o.getD []).length) : encO (ownO o) = .sim (ownA (o.getD []) i) := by
  rw [ownO_eq, if_neg (fun hc => by rw [hc] at h2; simp at h2)]
  unfold ownA
  rw [List.take_of_length_le h, encO, encL_map, List.map_map]; rfl
theorem pc30n (N : Nat) (h11 : ∀ v : V, v.ok → v.sz < N → PureCall Tryz.prog [0] 11 [v.enc] (dRet (ownV v).enc)) (o : Option (List V)) (ho : okO o) (hs : szO o < N) : PureCall Tryz.prog [0] 30 [encO o] (dRet (encO (ownO o))) := by
  have ok11' := okVn (r := fun v => (ownV v).enc) h11
  have hl := okO_len ho
  refine pure_of_treeR mixed fn30 (Nat.le_of_ble_eq_true rfl) (Nat.lt_of_succ_le (Nat.le_of_ble_eq_true rfl)) (sfOk (.cons ok11' .nil)) TbOk (lv := lv30) fun I F hI hF => ?_
  refine boxed fun C hC => ?_
  generalize hgen0 : encO o = gen0
  cbv
  subst hgen0
  subst hC
  refine ⟨?_⟩
  simp only [hI, hF, std]
  simp only [ib_add, ib_sub, ib_mul, ib_eql, ib_neq, ib_lss, ib_leq, ib_gtr, ib_geq, sb_eql, sb_neq, sb_lss, sb_gtr, eqI_eq, ltI_eq, leI_eq, eqB_eq, isIK_int, isIK_ite, isStrD_ite, asInt_ite, sat_req, sat_ite, sat_ret, sat_back, aimF_q, aimR_q, into_q, into_bk, binV_add, binV_sub, binV_mul, binV_eql, binV_neq, binV_lss, binV_leq, binV_gtr, binV_geq, binV_seql, binV_sneq, bbinV_eql, bbinV_neq, unV_not, unV_neg, convV_int, asBool_ite, isBoolD_ite, isBUD_ite, grdD_ite, grdD_bool, grdD_tup, isBUD_tup, isBUD_bool, isBoolD_tup, isBoolD_bool, asBool_tup, asBool_bool, isIntD_int, isStrD_str, asInt_int, asStr_str, lstD_sim, lstD_snil, isSlD_sim, isSlD_snil, isSnil_sim, isSnil_snil, Option.isSome_some, Option.getD_some, true_and, and_true, ↓reduceIte, Nat.reduceEqDiff, reduceCtorEq, pick_or, pick_and, pick_or', pick_and', Bool.not_not, ite_bool, dlV_cell, cells_agg, cells_str, cells_int, cells_bool, cells_sim, cells_snil, List.getD_cons_zero, List.getD_cons_succ, beq_tt, beq_ft, ite_same, imp_true, lookOk, lookRes, sfOf, sgOf, hOk, hRes, hOut, aimP_q, one_int, one_bool, one_str, one_sim, one_snil, one_fn, Int.toNat_natCast, Nat.zero_add, Int.toNat_zero, natCast_fold, Int.ofNat_eq_natCast, isB_bool, beq_self_eq_true, dIsAgg_agg, bel_d, bel7_d, bel_aggd, List.all_cons, List.all_nil, Bool.and_self, Bool.and_true, Bool.true_and, dlV_enc, enc_cells, lst_encO, isSl_encO, one_encO, lst_encS, isSl_encS, one_encS, isAgg_enc, toV_enc, isV_enc, toVs_enc, isVs_enc, toSs_enc, isSs_enc, eVn]
  refine loop_rule (kend := fun I => kEnd I Tb [.tmp 2]) hI hF (sfOk (.cons ok11' .nil)) TbOk (by exact fun Bk e s h => endR TbOk Bk e s h) (lv := lv30) 0 (fun i : {i : Bool × Nat // i.2 ≤ (o.getD []).length ∧ (i.1 = true ↔ 0 < i.2)} => [.d (encO o), accA 6 i.1.1 i.1.2, .d (.int .i64 (i.1.2 : Int))]) (fun i : {i : Bool × Nat // i.2 ≤ (o.getD []).length ∧ (i.1 = true ↔ 0 < i.2)} => [(0, accB 6 25 ((ownA (o.getD []) i.1.2).map .d) i.1.1)]) (fun i : {i : Bool × Nat // i.2 ≤ (o.getD []).length ∧ (i.1 = true ↔ 0 < i.2)} => (o.getD []).length - i.1.2) [10003] (⟨(false, 0), by simp, by simp⟩ : {i : Bool × Nat // i.2 ≤ (o.getD []).length ∧ (i.1 = true ↔ 0 < i.2)}) (by rfl) (by rfl) ?_ ?_ fun i => ?_
  · rfl
  · rfl
  obtain ⟨⟨b, i⟩, hi1, hi2⟩ := i
  have hi1 : i ≤ (o.getD []).length := hi1
  have hi2 : b = true ↔ 0 < i := hi2
  have w3 := wrap_succ (n := i) (by omega)
  have hlen := ownA_len hi1
  cases b with
  | false =>
    rw [show accA 6 false i = .d .snil from rfl, show accB 6 25 ((ownA (o.getD []) i).map AV.d) false = none from rfl]
    have h0 : i = 0 := by have := mt hi2.2; simp at this; omega
    refine boxed fun C hC => ?_
    generalize hgen0 : encO o = gen0
    generalize hgen1 : DV.int .i64 (i : Int) = gen1
    cbv
    subst hgen0
    subst hgen1
    subst hC
    refine ⟨?_⟩
    simp only [hI, hF, std]
    by_cases hlt : i < (o.getD []).length
    · have g1 := get_enc _ _ hlt
      have k1 := okO_get ho hlt
      have k3 : ((o.getD []).getD i default).sz < N := Nat.lt_of_le_of_lt (szO_get hlt) hs
      simp only [ib_add, ib_sub, ib_mul, ib_eql, ib_neq, ib_lss, ib_leq, ib_gtr, ib_geq, sb_eql, sb_neq, sb_lss, sb_gtr, eqI_eq, ltI_eq, leI_eq, eqB_eq, isIK_int, isIK_ite, isStrD_ite, asInt_ite, sat_req, sat_ite, sat_ret, sat_back, aimF_q, aimR_q, into_q, into_bk, binV_add, binV_sub, binV_mul, binV_eql, binV_neq, binV_lss, binV_leq, binV_gtr, binV_geq, binV_seql, binV_sneq, bbinV_eql, bbinV_neq, unV_not, unV_neg, convV_int, asBool_ite, isBoolD_ite, isBUD_ite, grdD_ite, grdD_bool, grdD_tup, isBUD_tup, isBUD_bool, isBoolD_tup, isBoolD_bool, asBool_tup, asBool_bool, isIntD_int, isStrD_str, asInt_int, asStr_str, lstD_sim, lstD_snil, isSlD_sim, isSlD_snil, isSnil_sim, isSnil_snil, Option.isSome_some, Option.getD_some, true_and, and_true, ↓reduceIte, Nat.reduceEqDiff, reduceCtorEq, pick_or, pick_and, pick_or', pick_and', Bool.not_not, ite_bool, dlV_cell, cells_agg, cells_str, cells_int, cells_bool, cells_sim, cells_snil, List.getD_cons_zero, List.getD_cons_succ, beq_tt, beq_ft, ite_same, imp_true, lookOk, lookRes, sfOf, sgOf, hOk, hRes, hOut, aimP_q, one_int, one_bool, one_str, one_sim, one_snil, one_fn, Int.toNat_natCast, Nat.zero_add, Int.toNat_zero, natCast_fold, Int.ofNat_eq_natCast, isB_bool, beq_self_eq_true, dIsAgg_agg, bel_d, bel7_d, bel_aggd, List.all_cons, List.all_nil, Bool.and_self, Bool.and_true, Bool.true_and, dlV_enc, enc_cells, lst_encO, isSl_encO, one_encO, lst_encS, isSl_encS, one_encS, isAgg_enc, toV_enc, isV_enc, toVs_enc, isVs_enc, toSs_enc, isSs_enc, eVn, g1, add_fold]
      simp [hlt, w3, - List.getD_eq_getElem?_getD, k1, k3, dlV_enc, enc_cells, lst_encO, isSl_encO, one_encO, lst_encS, isSl_encS, one_encS, isAgg_enc, toV_enc, isV_enc, toVs_enc, isVs_enc, toSs_enc, isSs_enc]
      subst h0
      refine .inr ⟨1, by omega, ⟨rfl, rfl⟩, ⟨hlt, by omega⟩, ?_⟩
      rw [show ownA (o.getD []) 1 = [(ownV ((o.getD []).getD 0 default)).enc] from by rw [ownA_succ hlt]; rfl]; rfl
    · simp only [ib_add, ib_sub, ib_mul, ib_eql, ib_neq, ib_lss, ib_leq, ib_gtr, ib_geq, sb_eql, sb_neq, sb_lss, sb_gtr, eqI_eq, ltI_eq, leI_eq, eqB_eq, isIK_int, isIK_ite, isStrD_ite, asInt_ite, sat_req, sat_ite, sat_ret, sat_back, aimF_q, aimR_q, into_q, into_bk, binV_add, binV_sub, binV_mul, binV_eql, binV_neq, binV_lss, binV_leq, binV_gtr, binV_geq, binV_seql, binV_sneq, bbinV_eql, bbinV_neq, unV_not, unV_neg, convV_int, asBool_ite, isBoolD_ite, isBUD_ite, grdD_ite, grdD_bool, grdD_tup, isBUD_tup, isBUD_bool, isBoolD_tup, isBoolD_bool, asBool_tup, asBool_bool, isIntD_int, isStrD_str, asInt_int, asStr_str, lstD_sim, lstD_snil, isSlD_sim, isSlD_snil, isSnil_sim, isSnil_snil, Option.isSome_some, Option.getD_some, true_and, and_true, ↓reduceIte, Nat.reduceEqDiff, reduceCtorEq, pick_or, pick_and, pick_or', pick_and', Bool.not_not, ite_bool, dlV_cell, cells_agg, cells_str, cells_int, cells_bool, cells_sim, cells_snil, List.getD_cons_zero, List.getD_cons_succ, beq_tt, beq_ft, ite_same, imp_true, lookOk, lookRes, sfOf, sgOf, hOk, hRes, hOut, aimP_q, one_int, one_bool, one_str, one_sim, one_snil, one_fn, Int.toNat_natCast, Nat.zero_add, Int.toNat_zero, natCast_fold, Int.ofNat_eq_natCast, isB_bool, beq_self_eq_true, dIsAgg_agg, bel_d, bel7_d, bel_aggd, List.all_cons, List.all_nil, Bool.and_self, Bool.and_true, Bool.true_and, dlV_enc, enc_cells, lst_encO, isSl_encO, one_encO, lst_encS, isSl_encS, one_encS, isAgg_enc, toV_enc, isV_enc, toVs_enc, isVs_enc, toSs_enc, isSs_enc, eVn, add_fold]
      simp [hlt]
      have he : o.getD [] = [] := List.length_eq_zero_iff.1 (by omega)
      rw [ownO_eq, if_pos he]; rfl
  | true =>
    rw [show accA 6 true i = .slc 0 6 0 i from rfl, show accB 6 25 ((ownA (o.getD []) i).map AV.d) true = some ⟨(ownA (o.getD []) i).map AV.d, 6, 25, true, true⟩ from rfl]
    refine boxed fun C hC => ?_
    generalize hgen0 : encO o = gen0
    generalize hgen1 : DV.int .i64 (i : Int) = gen1
    generalize hgen2 : (ownA (o.getD []) i).map AV.d = gen2
    cbv
    subst hgen0
    subst hgen1
    subst hgen2
    subst hC
    refine ⟨?_⟩
    simp only [hI, hF, std]
    by_cases hlt : i < (o.getD []).length
    · have g1 := get_enc _ _ hlt
      have k1 := okO_get ho hlt
      have k3 : ((o.getD []).getD i default).sz < N := Nat.lt_of_le_of_lt (szO_get hlt) hs
      simp only [ib_add, ib_sub, ib_mul, ib_eql, ib_neq, ib_lss, ib_leq, ib_gtr, ib_geq, sb_eql, sb_neq, sb_lss, sb_gtr, eqI_eq, ltI_eq, leI_eq, eqB_eq, isIK_int, isIK_ite, isStrD_ite, asInt_ite, sat_req, sat_ite, sat_ret, sat_back, aimF_q, aimR_q, into_q, into_bk, binV_add, binV_sub, binV_mul, binV_eql, binV_neq, binV_lss, binV_leq, binV_gtr, binV_geq, binV_seql, binV_sneq, bbinV_eql, bbinV_neq, unV_not, unV_neg, convV_int, asBool_ite, isBoolD_ite, isBUD_ite, grdD_ite, grdD_bool, grdD_tup, isBUD_tup, isBUD_bool, isBoolD_tup, isBoolD_bool, asBool_tup, asBool_bool, isIntD_int, isStrD_str, asInt_int, asStr_str, lstD_sim, lstD_snil, isSlD_sim, isSlD_snil, isSnil_sim, isSnil_snil, Option.isSome_some, Option.getD_some, true_and, and_true, ↓reduceIte, Nat.reduceEqDiff, reduceCtorEq, pick_or, pick_and, pick_or', pick_and', Bool.not_not, ite_bool, dlV_cell, cells_agg, cells_str, cells_int, cells_bool, cells_sim, cells_snil, List.getD_cons_zero, List.getD_cons_succ, beq_tt, beq_ft, ite_same, imp_true, lookOk, lookRes, sfOf, sgOf, hOk, hRes, hOut, aimP_q, one_int, one_bool, one_str, one_sim, one_snil, one_fn, Int.toNat_natCast, Nat.zero_add, Int.toNat_zero, natCast_fold, Int.ofNat_eq_natCast, isB_bool, beq_self_eq_true, dIsAgg_agg, bel_d, bel7_d, bel_aggd, List.all_cons, List.all_nil, Bool.and_self, Bool.and_true, Bool.true_and, dlV_enc, enc_cells, lst_encO, isSl_encO, one_encO, lst_encS, isSl_encS, one_encS, isAgg_enc, toV_enc, isV_enc, toVs_enc, isVs_enc, toSs_enc, isSs_enc, eVn, g1, add_fold]
      simp [hlt, w3, - List.getD_eq_getElem?_getD, k1, k3, dlV_enc, enc_cells, lst_encO, isSl_encO, one_encO, lst_encS, isSl_encS, one_encS, isAgg_enc, toV_enc, isV_enc, toVs_enc, isVs_enc, toSs_enc, isSs_enc]
      refine ⟨⟨by rw [← List.length.eq_def]; simp [hlen], by omega⟩, ⟨fun x hx => ?_, rfl⟩, .inr ⟨i + 1, by omega, ⟨rfl, rfl⟩, ⟨hlt, by omega⟩, ?_⟩⟩
      · obtain ⟨d, _, rfl⟩ := List.mem_map.1 (List.mem_of_mem_take hx); rfl
      · rw [List.take_of_length_le (by simp [hlen]), ownA_succ hlt, List.map_append]; rfl
    · simp only [ib_add, ib_sub, ib_mul, ib_eql, ib_neq, ib_lss, ib_leq, ib_gtr, ib_geq, sb_eql, sb_neq, sb_lss, sb_gtr, eqI_eq, ltI_eq, leI_eq, eqB_eq, isIK_int, isIK_ite, isStrD_ite, asInt_ite, sat_req, sat_ite, sat_ret, sat_back, aimF_q, aimR_q, into_q, into_bk, binV_add, binV_sub, binV_mul, binV_eql, binV_neq, binV_lss, binV_leq, binV_gtr, binV_geq, binV_seql, binV_sneq, bbinV_eql, bbinV_neq, unV_not, unV_neg, convV_int, asBool_ite, isBoolD_ite, isBUD_ite, grdD_ite, grdD_bool, grdD_tup, isBUD_tup, isBUD_bool, isBoolD_tup, isBoolD_bool, asBool_tup, asBool_bool, isIntD_int, isStrD_str, asInt_int, asStr_str, lstD_sim, lstD_snil, isSlD_sim, isSlD_snil, isSnil_sim, isSnil_snil, Option.isSome_some, Option.getD_some, true_and, and_true, ↓reduceIte, Nat.reduceEqDiff, reduceCtorEq, pick_or, pick_and, pick_or', pick_and', Bool.not_not, ite_bool, dlV_cell, cells_agg, cells_str, cells_int, cells_bool, cells_sim, cells_snil, List.getD_cons_zero, List.getD_cons_succ, beq_tt, beq_ft, ite_same, imp_true, lookOk, lookRes, sfOf, sgOf, hOk, hRes, hOut, aimP_q, one_int, one_bool, one_str, one_sim, one_snil, one_fn, Int.toNat_natCast, Nat.zero_add, Int.toNat_zero, natCast_fold, Int.ofNat_eq_natCast, isB_bool, beq_self_eq_true, dIsAgg_agg, bel_d, bel7_d, bel_aggd, List.all_cons, List.all_nil, Bool.and_self, Bool.and_true, Bool.true_and, dlV_enc, enc_cells, lst_encO, isSl_encO, one_encO, lst_encS, isSl_encS, one_encS, isAgg_enc, toV_enc, isV_enc, toVs_enc, isVs_enc, toSs_enc, isSs_enc, eVn, add_fold]
      simp [hlt]
      rw [ownA_all (i := i) (by omega) (by have := hi2.1 rfl; omega)]
      exact frz_row rfl hlen (by omega)
theorem pc11n : ∀ (N : Nat) (v : V), v.ok → v.sz < N → PureCall Tryz.prog [0] 11 [v.enc] (dRet (ownV v).enc)
  | 0, v, _, h => by omega
  | N + 1, v, hv, hn => by
    have hsz : szO v.it < N := by
      obtain ⟨k, m, e, s, nm, it⟩ := v
      simp only [V.sz] at hn
      simp only [V.it]; omega
    have ok30' : EntOk Tryz.prog [0] ⟨30, fun ds => match ds with | [a] => scalarV a v.it | _ => false, fun _ => encO (ownO v.it)⟩ := fun ds h => by
      simp only at h
      split at h
      · simp only [scalarV, decide_eq_true_iff] at h
        rw [h]; exact pc30n N (pc11n N) v.it (V.ok_it hv) hsz
      · cases h
    refine pure_of_tree mixed fn11 (Nat.le_of_ble_eq_true rfl) (Nat.lt_of_succ_le (Nat.le_of_ble_eq_true rfl)) (sfOk (.cons ok29 (.cons ok30' .nil))) TbOk (lv := lv0) fun I F hI hF => ?_
    refine boxed fun C hC => ?_
    generalize hgen0 : v.enc = gen0
    cbv
    subst hgen0
    subst hC
    refine ⟨?_⟩
    simp only [hI, hF, std]
    simp only [ib_add, ib_sub, ib_mul, ib_eql, ib_neq, ib_lss, ib_leq, ib_gtr, ib_geq, sb_eql, sb_neq, sb_lss, sb_gtr, eqI_eq, ltI_eq, leI_eq, eqB_eq, isIK_int, isIK_ite, isStrD_ite, asInt_ite, sat_req, sat_ite, sat_ret, sat_back, aimF_q, aimR_q, into_q, into_bk, binV_add, binV_sub, binV_mul, binV_eql, binV_neq, binV_lss, binV_leq, binV_gtr, binV_geq, binV_seql, binV_sneq, bbinV_eql, bbinV_neq, unV_not, unV_neg, convV_int, asBool_ite, isBoolD_ite, isBUD_ite, grdD_ite, grdD_bool, grdD_tup, isBUD_tup, isBUD_bool, isBoolD_tup, isBoolD_bool, asBool_tup, asBool_bool, isIntD_int, isStrD_str, asInt_int, asStr_str, lstD_sim, lstD_snil, isSlD_sim, isSlD_snil, isSnil_sim, isSnil_snil, Option.isSome_some, Option.getD_some, true_and, and_true, ↓reduceIte, Nat.reduceEqDiff, reduceCtorEq, pick_or, pick_and, pick_or', pick_and', Bool.not_not, ite_bool, dlV_cell, cells_agg, cells_str, cells_int, cells_bool, cells_sim, cells_snil, List.getD_cons_zero, List.getD_cons_succ, beq_tt, beq_ft, ite_same, imp_true, lookOk, lookRes, sfOf, sgOf, hOk, hRes, hOut, aimP_q, one_int, one_bool, one_str, one_sim, one_snil, one_fn, Int.toNat_natCast, Nat.zero_add, Int.toNat_zero, natCast_fold, Int.ofNat_eq_natCast, isB_bool, beq_self_eq_true, dIsAgg_agg, bel_d, bel7_d, bel_aggd, List.all_cons, List.all_nil, Bool.and_self, Bool.and_true, Bool.true_and, dlV_enc, enc_cells, lst_encO, isSl_encO, one_encO, lst_encS, isSl_encS, one_encS, isAgg_enc, toV_enc, isV_enc, toVs_enc, isVs_enc, toSs_enc, isSs_enc, e29, scalarV_enc]
    simp [dlV_enc, enc_cells, lst_encO, isSl_encO, one_encO, lst_encS, isSl_encS, one_encS, isAgg_enc, toV_enc, isV_enc, toVs_enc, isVs_enc, toSs_enc, isSs_enc, V.ok_nm hv, scalarV_enc]
    rw [enc_eq (ownV v), own_k, own_n, own_e, own_s, own_eq]; rfl
theorem pc11 (v : V) (hv : v.ok) : PureCall Tryz.prog [0] 11 [v.enc] (dRet (ownV v).enc) := pc11n (v.sz + 1) v hv (by omega)
open Classical in
noncomputable def e11 : Ent := ⟨11, fun | [d_v] => decide (isV d_v) | _ => false, fun | [d_v] => (ownV (toV d_v)).enc | _ => .inil⟩
open Classical in
theorem ok11 : EntOk Tryz.prog [0] e11 := fun ds h => by
  unfold e11 at h ⊢
  simp only at h ⊢
  split at h
  · rw [decide_eq_true_iff] at h
    obtain ⟨v0, rfl, k0⟩ := h
    simp only [toV_enc, toVs_enc, toSs_enc]
    exact pc11 _ k0
  · cases h
end Go.Proofs.Sx
