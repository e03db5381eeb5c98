/- Small values, by the reference. -/
import Derived.Test.YtmjkaekhjmlnbaaGreatDoorSx10
import Derived.Test.YtmjkaekhjmlnbaaGreatDoorSxBase
import Derived.Test.YtmjkaekhjmlnbaaGreatDoorAmPtr
set_option linter.unusedVariables false
set_option linter.unusedSimpArgs false
set_option maxRecDepth 100000
namespace Go.Proofs.Sx
open Go Go.Proofs Go.Proofs.Am 
variable {gs : List Nat}

def Zst : Type := Int × Bool
def encZ (s : Zst) : DV := .agg [.int .i64 s.1, .bool s.2]
def meetS (s : Zst) (d : Int) : Zst := (s.1 - 1, s.2 || decide (s.1 - 1 < 0) || decide (d < 1))
noncomputable def h59 : HEnt := {
  f := 59
  es := 2
  ty := 70
  ok x ds := match x, ds with
    | .agg [.int .i64 n, .bool b], [.int .i64 d] => decide (-1048576 ≤ n ∧ n ≤ 1048576)
    | _, _ => false
  res x ds := match x, ds with
    | .agg [.int .i64 n, .bool b], [.int .i64 d] => .bool (!(meetS (n, b) d).2)
    | _, _ => .inil
  out x ds := match x, ds with
    | .agg [.int .i64 n, .bool b], [.int .i64 d] => encZ (meetS (n, b) d)
    | _, _ => .inil }
theorem pc59 (n : Int) (b : Bool) (d : Int) (hn : -1048576 ≤ n ∧ n ≤ 1048576) : PtrCall Tryz.prog [0] 59 2 70 (.agg [.int .i64 n, .bool b]) [.int .i64 d] (encZ (meetS (n, b) d)) (.bool (!(meetS (n, b) d).2)) := by
  refine ptr_of_tree (H := shP [] (sgOf [])) mixed fn59 (Nat.le_of_ble_eq_true rfl) (Nat.lt_of_succ_le (Nat.le_of_ble_eq_true rfl)) (sfOkH .nil .nil) TbOk (lv := lv0) fun I F hI hF => ?_
  generalize hG : sgOf [] = G
  refine boxed fun C hC => ?_
  generalize hgen0 : DV.int .i64 n = gen0
  generalize hgen1 : DV.bool b = gen1
  generalize hgen2 : DV.int .i64 d = gen2
  generalize hgen3 : encZ (meetS (n, b) d) = gen3
  cbv
  subst hgen0
  subst hgen1
  subst hgen2
  subst hgen3
  subst hC
  subst hG
  refine ⟨?_⟩
  simp only [hI, hF, std]
  have w : IntKind.i64.wrap (n - 1) = n - 1 := wrap64 (by omega) (by omega)
  simp only [ib_add, ib_sub, ib_mul, ib_eql, ib_neq, ib_lss, ib_leq, ib_gtr, ib_geq, sb_eql, sb_neq, sb_lss, sb_gtr, eqI_eq, ltI_eq, leI_eq, eqB_eq, isIK_int, isIK_ite, isStrD_ite, asInt_ite, sat_req, sat_ite, sat_ret, sat_back, aimF_q, aimR_q, into_q, into_bk, binV_add, binV_sub, binV_mul, binV_eql, binV_neq, binV_lss, binV_leq, binV_gtr, binV_geq, binV_seql, binV_sneq, bbinV_eql, bbinV_neq, unV_not, unV_neg, convV_int, asBool_ite, isBoolD_ite, isBUD_ite, grdD_ite, grdD_bool, grdD_tup, isBUD_tup, isBUD_bool, isBoolD_tup, isBoolD_bool, asBool_tup, asBool_bool, isIntD_int, isStrD_str, asInt_int, asStr_str, lstD_sim, lstD_snil, isSlD_sim, isSlD_snil, isSnil_sim, isSnil_snil, Option.isSome_some, Option.getD_some, true_and, and_true, ↓reduceIte, Nat.reduceEqDiff, reduceCtorEq, pick_or, pick_and, pick_or', pick_and', Bool.not_not, ite_bool, dlV_cell, cells_agg, cells_str, cells_int, cells_bool, cells_sim, cells_snil, List.getD_cons_zero, List.getD_cons_succ, beq_tt, beq_ft, ite_same, imp_true, lookOk, lookRes, sfOf, sgOf, hOk, hRes, hOut, aimP_q, one_int, one_bool, one_str, one_sim, one_snil, one_fn, Int.toNat_natCast, Nat.zero_add, Int.toNat_zero, natCast_fold, Int.ofNat_eq_natCast, isB_bool, beq_self_eq_true, dIsAgg_agg, bel_d, bel7_d, bel_aggd, List.all_cons, List.all_nil, Bool.and_self, Bool.and_true, Bool.true_and, dlV_enc, enc_cells, lst_encO, isSl_encO, one_encO, lst_encS, isSl_encS, one_encS, isAgg_enc, toV_enc, isV_enc, toVs_enc, isVs_enc, toSs_enc, isSs_enc, w]
  simp [meetS, encZ, cond_eq_ite]
theorem okh59 : HEntOk Tryz.prog [0] h59 := fun x ds h => by
  unfold h59 at h ⊢
  simp only at h ⊢
  split at h
  · rw [decide_eq_true_iff] at h
    exact pc59 _ _ _ h
  · cases h

mutual
def sizV : V → Int → Zst → Zst
  | .mk _ _ _ _ _ it, d, s => if (meetS s d).2 = true then meetS s d else sizO it (d - 1) (meetS s d)
def sizO : Option (List V) → Int → Zst → Zst
  | none, _, s => s
  | some l, d, s => sizL l d s
def sizL : List V → Int → Zst → Zst
  | [], _, s => s
  | v :: r, d, s => if s.2 = true then s else sizL r d (sizV v d s)
end
theorem sizO_eq (o : Option (List V)) (d : Int) (s : Zst) : sizO o d s = sizL (o.getD []) d s := by cases o <;> rw [sizO] <;> simp [sizL]
theorem sizV_eq (v : V) (d : Int) (s : Zst) : sizV v d s = if (meetS s d).2 = true then meetS s d else sizL v.items (d - 1) (meetS s d) := by
  cases v; rw [sizV, sizO_eq]; rfl
theorem sizL_step (l : List V) (i : Nat) (d : Int) (s : Zst) (h : i < l.length) : sizL (l.drop i) d s = if s.2 = true then s else sizL (l.drop (i + 1)) d (sizV (l.getD i default) d s) := by
  rw [List.drop_eq_getElem_cons h, sizL]
  simp [List.getD, h]
theorem sizL_over (l : List V) (d : Int) (s : Zst) (h : s.2 = true) : sizL l d s = s := by
  cases l <;> simp [sizL, h]
/-- A measure that is met by what is within bounds. -/
structure ZOk (m : Int) (s : Zst) : Prop where
  lo : -1 ≤ s.1
  hi : s.1 ≤ m
  pos : s.2 = false → 0 ≤ s.1
theorem meetS_ok {m : Int} {s : Zst} {d : Int} (h : ZOk m s) (h2 : s.2 = false) : ZOk m (meetS s d) := by
  have h3 := h.pos h2
  have h4 := h.hi
  refine ⟨by simp only [meetS]; omega, by simp only [meetS]; omega, fun h5 => ?_⟩
  simp [meetS] at h5 ⊢
  omega
mutual
theorem sizV_ok : ∀ (v : V) (m d : Int) (s : Zst), ZOk m s → s.2 = false → ZOk m (sizV v d s)
  | .mk _ _ _ _ _ it, m, d, s, h, h2 => by
    rw [sizV]
    split
    · exact meetS_ok h h2
    · exact sizO_ok it m (d - 1) _ (meetS_ok h h2)
theorem sizO_ok : ∀ (o : Option (List V)) (m d : Int) (s : Zst), ZOk m s → ZOk m (sizO o d s)
  | none, m, d, s, h => by rw [sizO]; exact h
  | some l, m, d, s, h => by rw [sizO]; exact sizL_ok l m d s h
theorem sizL_ok : ∀ (l : List V) (m d : Int) (s : Zst), ZOk m s → ZOk m (sizL l d s)
  | [], m, d, s, h => by rw [sizL]; exact h
  | v :: r, m, d, s, h => by
    rw [sizL]
    split
    · exact h
    · rename_i h2; exact sizL_ok r m d _ (sizV_ok v m d s h (by simpa using h2))
end

open Classical in
noncomputable def h37n (N : Nat) : HEnt := {
  f := 37
  es := 2
  ty := 70
  ok x ds := match x, ds with
    | .agg [.int .i64 n, .bool b], [v, .int .i64 d] => decide (isV v ∧ (toV v).sz < N ∧ ZOk 1048576 (n, b) ∧ b = false ∧ 0 ≤ d ∧ d ≤ 1048576)
    | _, _ => false
  res x ds := .tup []
  out x ds := match x, ds with
    | .agg [.int .i64 n, .bool b], [v, .int .i64 d] => encZ (sizV (toV v) d (n, b))
    | _, _ => .inil }
open Classical in
theorem okh37n {N : Nat} (h : ∀ (v : V) (n : Int) (b : Bool) (d : Int), v.ok → v.sz < N → ZOk 1048576 (n, b) → b = false → 0 ≤ d → d ≤ 1048576 → PtrCall Tryz.prog [0] 37 2 70 (encZ (n, b)) [v.enc, .int .i64 d] (encZ (sizV v d (n, b))) (.tup [])) : HEntOk Tryz.prog [0] (h37n N) := fun x ds hk => by
  unfold h37n at hk ⊢
  simp only at hk ⊢
  split at hk
  · rw [decide_eq_true_iff] at hk
    obtain ⟨⟨v, rfl, h1⟩, h2, h3, h4, h5, h6⟩ := hk
    simp only [toV_enc] at h2 ⊢
    exact h v _ _ _ h1 h2 h3 h4 h5 h6
  · cases hk
def lv37 : Nat → List Nat × List Nat
  | 3 => ([0, 2, 4, 6], [0, 1])
  | _ => ([], [])
theorem pc37n : ∀ (N : Nat) (v : V) (n : Int) (b : Bool) (d : Int), v.ok → v.sz < N → ZOk 1048576 (n, b) → b = false → 0 ≤ d → d ≤ 1048576 → PtrCall Tryz.prog [0] 37 2 70 (encZ (n, b)) [v.enc, .int .i64 d] (encZ (sizV v d (n, b))) (.tup [])
  | 0, v, _, _, _, _, h, _, _, _, _ => by omega
  | N + 1, v, n, b, d, hv, hn, hz, hb, hd, hd2 => by
    have okh37' := okh37n (pc37n N)
    refine ptr_of_tree (H := shP [(59, 2, 70), (37, 2, 70)] (sgOf [h59, (h37n _)])) mixed fn37 (Nat.le_of_ble_eq_true rfl) (Nat.lt_of_succ_le (Nat.le_of_ble_eq_true rfl)) (sfOkH .nil (.cons okh59 (.cons okh37' .nil))) TbOk (lv := lv37) fun I F hI hF => ?_
    generalize hG : sgOf [h59, (h37n _)] = G
    refine boxed fun C hC => ?_
    generalize hgen0 : encZ (n, b) = gen0
    generalize hgen1 : v.enc = gen1
    generalize hgen2 : DV.int .i64 d = gen2
    generalize hgen3 : encZ (sizV v d (n, b)) = gen3
    cbv
    subst hgen0
    subst hgen1
    subst hgen2
    subst hgen3
    subst hC
    subst hG
    refine ⟨?_⟩
    simp only [hI, hF, std]
    simp only [ib_add, ib_sub, ib_mul, ib_eql, ib_neq, ib_lss, ib_leq, ib_gtr, ib_geq, sb_eql, sb_neq, sb_lss, sb_gtr, eqI_eq, ltI_eq, leI_eq, eqB_eq, isIK_int, isIK_ite, isStrD_ite, asInt_ite, sat_req, sat_ite, sat_ret, sat_back, aimF_q, aimR_q, into_q, into_bk, binV_add, binV_sub, binV_mul, binV_eql, binV_neq, binV_lss, binV_leq, binV_gtr, binV_geq, binV_seql, binV_sneq, bbinV_eql, bbinV_neq, unV_not, unV_neg, convV_int, asBool_ite, isBoolD_ite, isBUD_ite, grdD_ite, grdD_bool, grdD_tup, isBUD_tup, isBUD_bool, isBoolD_tup, isBoolD_bool, asBool_tup, asBool_bool, isIntD_int, isStrD_str, asInt_int, asStr_str, lstD_sim, lstD_snil, isSlD_sim, isSlD_snil, isSnil_sim, isSnil_snil, Option.isSome_some, Option.getD_some, true_and, and_true, ↓reduceIte, Nat.reduceEqDiff, reduceCtorEq, pick_or, pick_and, pick_or', pick_and', Bool.not_not, ite_bool, dlV_cell, cells_agg, cells_str, cells_int, cells_bool, cells_sim, cells_snil, List.getD_cons_zero, List.getD_cons_succ, beq_tt, beq_ft, ite_same, imp_true, lookOk, lookRes, sfOf, sgOf, hOk, hRes, hOut, aimP_q, one_int, one_bool, one_str, one_sim, one_snil, one_fn, Int.toNat_natCast, Nat.zero_add, Int.toNat_zero, natCast_fold, Int.ofNat_eq_natCast, isB_bool, beq_self_eq_true, dIsAgg_agg, bel_d, bel7_d, bel_aggd, List.all_cons, List.all_nil, Bool.and_self, Bool.and_true, Bool.true_and, dlV_enc, enc_cells, lst_encO, isSl_encO, one_encO, lst_encS, isSl_encS, one_encS, isAgg_enc, toV_enc, isV_enc, toVs_enc, isVs_enc, toSs_enc, isSs_enc, h59, h37n, encZ]
    have hb2 : -1048576 ≤ n ∧ n ≤ 1048576 := by have := hz.lo; have := hz.hi; simp only at *; omega
    have hE := sizV_eq v d (n, b)
    have hm := meetS_ok (d := d) hz hb
    have e3 : v.it.getD [] = v.items := rfl
    have il := V.ok_il hv
    simp [hb2]
    refine ⟨fun h => ?_, fun h => ?_⟩
    · rw [hE, if_pos h]; exact ⟨rfl, rfl⟩
    rw [if_neg (by rw [h]; simp)] at hE
    have hd3 : 1 ≤ d := by simp [meetS] at h; omega
    have wd : IntKind.i64.wrap (d - 1) = d - 1 := wrap64 (by omega) (by omega)
    refine loop_rule (kend := fun I => kEndP I Tb 2 70 []) (H := shP [(59, 2, 70), (37, 2, 70)] (sgOf [h59, (h37n _)])) hI hF (sfOkH .nil (.cons okh59 (.cons okh37' .nil))) TbOk (by exact fun Bk e s h => endP TbOk Bk e s h) (lv := lv37) 0 (fun i : {i : Nat × Zst // i.1 ≤ v.items.length ∧ sizL v.items (d - 1) (meetS (n, b) d) = sizL (v.items.drop i.1) (d - 1) i.2 ∧ ZOk 1048576 i.2} => [.loc 0 2 0 0, .d (.int .i64 d), .loc 1 6 0 0, .d (.int .i64 (i.1.1 : Int))]) (fun i : {i : Nat × Zst // i.1 ≤ v.items.length ∧ sizL v.items (d - 1) (meetS (n, b) d) = sizL (v.items.drop i.1) (d - 1) i.2 ∧ ZOk 1048576 i.2} => [(0, some ⟨[.d (encZ i.1.2)], 2, 70, true, true⟩), (1, some ⟨[.d v.enc], 6, 25, true, true⟩)]) (fun i : {i : Nat × Zst // i.1 ≤ v.items.length ∧ sizL v.items (d - 1) (meetS (n, b) d) = sizL (v.items.drop i.1) (d - 1) i.2 ∧ ZOk 1048576 i.2} => v.items.length - i.1.1) [0, 1] (⟨(0, meetS (n, b) d), by omega, by simp, hm⟩ : {i : Nat × Zst // i.1 ≤ v.items.length ∧ sizL v.items (d - 1) (meetS (n, b) d) = sizL (v.items.drop i.1) (d - 1) i.2 ∧ ZOk 1048576 i.2}) (by rfl) (by rfl) ?_ ?_ fun i => ?_
    · rfl
    · rfl
    obtain ⟨⟨i, s⟩, hi1, hi2, hi3⟩ := i
    generalize hG : sgOf [h59, (h37n _)] = G
    refine boxed fun C hC => ?_
    generalize hgen0 : encZ s = gen0
    generalize hgen1 : v.enc = gen1
    generalize hgen2 : DV.int .i64 d = gen2
    generalize hgen3 : DV.int .i64 (i : Int) = gen3
    cbv
    subst hgen0
    subst hgen1
    subst hgen2
    subst hgen3
    subst hC
    subst hG
    refine ⟨?_⟩
    simp only [hI, hF, std]
    have w3 := wrap_succ (n := i) (by omega)
    by_cases hlt : i < v.items.length ∧ s.2 = false
    · have g1 := get_enc _ _ hlt.1
      have k1 := V.ok_get hv hlt.1
      have k2 := V.sz_get hlt.1
      have k3 : (v.items.getD i default).sz < N := by omega
      have hs := sizL_step v.items i (d - 1) s hlt.1
      rw [if_neg (by simp [hlt.2])] at hs
      simp only [ib_add, ib_sub, ib_mul, ib_eql, ib_neq, ib_lss, ib_leq, ib_gtr, ib_geq, sb_eql, sb_neq, sb_lss, sb_gtr, eqI_eq, ltI_eq, leI_eq, eqB_eq, isIK_int, isIK_ite, isStrD_ite, asInt_ite, sat_req, sat_ite, sat_ret, sat_back, aimF_q, aimR_q, into_q, into_bk, binV_add, binV_sub, binV_mul, binV_eql, binV_neq, binV_lss, binV_leq, binV_gtr, binV_geq, binV_seql, binV_sneq, bbinV_eql, bbinV_neq, unV_not, unV_neg, convV_int, asBool_ite, isBoolD_ite, isBUD_ite, grdD_ite, grdD_bool, grdD_tup, isBUD_tup, isBUD_bool, isBoolD_tup, isBoolD_bool, asBool_tup, asBool_bool, isIntD_int, isStrD_str, asInt_int, asStr_str, lstD_sim, lstD_snil, isSlD_sim, isSlD_snil, isSnil_sim, isSnil_snil, Option.isSome_some, Option.getD_some, true_and, and_true, ↓reduceIte, Nat.reduceEqDiff, reduceCtorEq, pick_or, pick_and, pick_or', pick_and', Bool.not_not, ite_bool, dlV_cell, cells_agg, cells_str, cells_int, cells_bool, cells_sim, cells_snil, List.getD_cons_zero, List.getD_cons_succ, beq_tt, beq_ft, ite_same, imp_true, lookOk, lookRes, sfOf, sgOf, hOk, hRes, hOut, aimP_q, one_int, one_bool, one_str, one_sim, one_snil, one_fn, Int.toNat_natCast, Nat.zero_add, Int.toNat_zero, natCast_fold, Int.ofNat_eq_natCast, isB_bool, beq_self_eq_true, dIsAgg_agg, bel_d, bel7_d, bel_aggd, List.all_cons, List.all_nil, Bool.and_self, Bool.and_true, Bool.true_and, dlV_enc, enc_cells, lst_encO, isSl_encO, one_encO, lst_encS, isSl_encS, one_encS, isAgg_enc, toV_enc, isV_enc, toVs_enc, isVs_enc, toSs_enc, isSs_enc, h59, h37n, encZ, e3, g1, wd]
      simp [hlt, w3, - List.getD_eq_getElem?_getD, k1, k3, dlV_enc, enc_cells, lst_encO, isSl_encO, one_encO, lst_encS, isSl_encS, one_encS, isAgg_enc, toV_enc, isV_enc, toVs_enc, isVs_enc, toSs_enc, isSs_enc, hi3]
      have hse : ((s.1, false) : Zst) = s := by rw [← hlt.2]; rfl
      have hse' : (s.fst, false) = s := hse
      rw [hse']
      exact ⟨⟨hi3, hd3, by omega⟩, i + 1, by omega, by simp, _, rfl, ⟨by omega, by rw [hi2, hs], sizV_ok _ _ _ _ hi3 hlt.2⟩, rfl⟩
    · simp only [ib_add, ib_sub, ib_mul, ib_eql, ib_neq, ib_lss, ib_leq, ib_gtr, ib_geq, sb_eql, sb_neq, sb_lss, sb_gtr, eqI_eq, ltI_eq, leI_eq, eqB_eq, isIK_int, isIK_ite, isStrD_ite, asInt_ite, sat_req, sat_ite, sat_ret, sat_back, aimF_q, aimR_q, into_q, into_bk, binV_add, binV_sub, binV_mul, binV_eql, binV_neq, binV_lss, binV_leq, binV_gtr, binV_geq, binV_seql, binV_sneq, bbinV_eql, bbinV_neq, unV_not, unV_neg, convV_int, asBool_ite, isBoolD_ite, isBUD_ite, grdD_ite, grdD_bool, grdD_tup, isBUD_tup, isBUD_bool, isBoolD_tup, isBoolD_bool, asBool_tup, asBool_bool, isIntD_int, isStrD_str, asInt_int, asStr_str, lstD_sim, lstD_snil, isSlD_sim, isSlD_snil, isSnil_sim, isSnil_snil, Option.isSome_some, Option.getD_some, true_and, and_true, ↓reduceIte, Nat.reduceEqDiff, reduceCtorEq, pick_or, pick_and, pick_or', pick_and', Bool.not_not, ite_bool, dlV_cell, cells_agg, cells_str, cells_int, cells_bool, cells_sim, cells_snil, List.getD_cons_zero, List.getD_cons_succ, beq_tt, beq_ft, ite_same, imp_true, lookOk, lookRes, sfOf, sgOf, hOk, hRes, hOut, aimP_q, one_int, one_bool, one_str, one_sim, one_snil, one_fn, Int.toNat_natCast, Nat.zero_add, Int.toNat_zero, natCast_fold, Int.ofNat_eq_natCast, isB_bool, beq_self_eq_true, dIsAgg_agg, bel_d, bel7_d, bel_aggd, List.all_cons, List.all_nil, Bool.and_self, Bool.and_true, Bool.true_and, dlV_enc, enc_cells, lst_encO, isSl_encO, one_encO, lst_encS, isSl_encS, one_encS, isAgg_enc, toV_enc, isV_enc, toVs_enc, isVs_enc, toSs_enc, isSs_enc, h59, h37n, encZ, e3]
      simp [hE, hi2]
      refine ⟨fun a b => absurd ⟨a, b⟩ hlt, fun h => ?_⟩
      have : sizL (v.items.drop i) (d - 1) s = s := by
        by_cases hi : i < v.items.length
        · exact sizL_over _ _ _ (h hi)
        · rw [List.drop_eq_nil_of_le (by omega), sizL]
      rw [this]; exact ⟨rfl, rfl⟩
theorem pc37 (v : V) (n : Int) (d : Int) (hv : v.ok) (h : 0 ≤ n ∧ n ≤ 1048576) (h2 : 0 ≤ d ∧ d ≤ 1048576) : PtrCall Tryz.prog [0] 37 2 70 (encZ (n, false)) [v.enc, .int .i64 d] (encZ (sizV v d (n, false))) (.tup []) :=
  pc37n (v.sz + 1) v n false d hv (by omega) ⟨by simp only; omega, h.2, fun _ => h.1⟩ rfl h2.1 h2.2
open Classical in
noncomputable def h37 : HEnt := {
  f := 37
  es := 2
  ty := 70
  ok x ds := match x, ds with
    | .agg [.int .i64 n, .bool b], [v, .int .i64 d] => decide (isV v ∧ ZOk 1048576 (n, b) ∧ b = false ∧ 0 ≤ d ∧ d ≤ 1048576)
    | _, _ => false
  res x ds := .tup []
  out x ds := match x, ds with
    | .agg [.int .i64 n, .bool b], [v, .int .i64 d] => encZ (sizV (toV v) d (n, b))
    | _, _ => .inil }
open Classical in
theorem okh37 : HEntOk Tryz.prog [0] h37 := fun x ds hk => by
  unfold h37 at hk ⊢
  simp only at hk ⊢
  split at hk
  · rw [decide_eq_true_iff] at hk
    obtain ⟨⟨v, rfl, h1⟩, h3, rfl, h5, h6⟩ := hk
    simp only [toV_enc]
    exact pc37 v _ _ h1 ⟨h3.pos rfl, h3.hi⟩ ⟨h5, h6⟩
  · cases hk
noncomputable def smallV (v : V) (n : Int) : Bool := !(sizV v 8 (n, false)).2
theorem pc48 (v : V) (n : Int) (hv : v.ok) (h : 0 ≤ n ∧ n ≤ 1048576) : PureCall Tryz.prog [0] 48 [v.enc, .int .i64 n] (dRet (.bool (smallV v n))) := by
  refine pure_of_tree (H := shP [(37, 2, 70)] (sgOf [h37])) mixed fn48 (Nat.le_of_ble_eq_true rfl) (Nat.lt_of_succ_le (Nat.le_of_ble_eq_true rfl)) (sfOkH .nil (.cons okh37 .nil)) TbOk (lv := lv0) fun I F hI hF => ?_
  generalize hG : sgOf [h37] = G
  refine boxed fun C hC => ?_
  generalize hgen0 : v.enc = gen0
  generalize hgen1 : DV.int .i64 n = gen1
  generalize hgen2 : smallV v n = gen2
  cbv
  subst hgen0
  subst hgen1
  subst hgen2
  subst hC
  subst hG
  refine ⟨?_⟩
  simp only [hI, hF, std]
  have hz : ZOk 1048576 (n, false) := ⟨by simp only; omega, h.2, fun _ => h.1⟩
  simp only [ib_add, ib_sub, ib_mul, ib_eql, ib_neq, ib_lss, ib_leq, ib_gtr, ib_geq, sb_eql, sb_neq, sb_lss, sb_gtr, eqI_eq, ltI_eq, leI_eq, eqB_eq, isIK_int, isIK_ite, isStrD_ite, asInt_ite, sat_req, sat_ite, sat_ret, sat_back, aimF_q, aimR_q, into_q, into_bk, binV_add, binV_sub, binV_mul, binV_eql, binV_neq, binV_lss, binV_leq, binV_gtr, binV_geq, binV_seql, binV_sneq, bbinV_eql, bbinV_neq, unV_not, unV_neg, convV_int, asBool_ite, isBoolD_ite, isBUD_ite, grdD_ite, grdD_bool, grdD_tup, isBUD_tup, isBUD_bool, isBoolD_tup, isBoolD_bool, asBool_tup, asBool_bool, isIntD_int, isStrD_str, asInt_int, asStr_str, lstD_sim, lstD_snil, isSlD_sim, isSlD_snil, isSnil_sim, isSnil_snil, Option.isSome_some, Option.getD_some, true_and, and_true, ↓reduceIte, Nat.reduceEqDiff, reduceCtorEq, pick_or, pick_and, pick_or', pick_and', Bool.not_not, ite_bool, dlV_cell, cells_agg, cells_str, cells_int, cells_bool, cells_sim, cells_snil, List.getD_cons_zero, List.getD_cons_succ, beq_tt, beq_ft, ite_same, imp_true, lookOk, lookRes, sfOf, sgOf, hOk, hRes, hOut, aimP_q, one_int, one_bool, one_str, one_sim, one_snil, one_fn, Int.toNat_natCast, Nat.zero_add, Int.toNat_zero, natCast_fold, Int.ofNat_eq_natCast, isB_bool, beq_self_eq_true, dIsAgg_agg, bel_d, bel7_d, bel_aggd, List.all_cons, List.all_nil, Bool.and_self, Bool.and_true, Bool.true_and, dlV_enc, enc_cells, lst_encO, isSl_encO, one_encO, lst_encS, isSl_encS, one_encS, isAgg_enc, toV_enc, isV_enc, toVs_enc, isVs_enc, toSs_enc, isSs_enc, h37, encZ]
  simp [hv, hz, dlV_enc, enc_cells, lst_encO, isSl_encO, one_encO, lst_encS, isSl_encS, one_encS, isAgg_enc, toV_enc, isV_enc, toVs_enc, isVs_enc, toSs_enc, isSs_enc, smallV]
open Classical in
noncomputable def e48 : Ent := ⟨48, fun | [d_v, .int .i64 n] => decide (isV d_v ∧ 0 ≤ n ∧ n ≤ 1048576) | _ => false, fun | [d_v, .int .i64 n] => .bool (smallV (toV d_v) n) | _ => .inil⟩
open Classical in
theorem ok48 : EntOk Tryz.prog [0] e48 := fun ds h => by
  unfold e48 at h ⊢
  simp only at h ⊢
  split at h
  · rw [decide_eq_true_iff] at h
    obtain ⟨⟨v0, rfl, k0⟩, kx⟩ := h
    simp only [toV_enc, toVs_enc, toSs_enc] at kx ⊢
    exact pc48 _ _ k0 kx
  · cases h
noncomputable def lightS (l : List V) (n d : Int) : Bool := !(sizL l d (n, false)).2
def lv19 : Nat → List Nat × List Nat
  | 3 => ([0, 2, 7, 8], [0])
  | _ => ([], [])
/-- A measure in a block, as it was made and as it is after a call. -/
def cz : Bool → Zst → AV
  | true, s => .agg [.d (.int .i64 s.1), .d (.bool s.2)]
  | false, s => .d (encZ s)
theorem pc19 (o : Option (List V)) (n d : Int) (ho : okO o) (hh : (0 ≤ n ∧ n ≤ 1048576) ∧ (0 ≤ d ∧ d ≤ 1048576)) : PureCall Tryz.prog [0] 19 [encO o, .int .i64 n, .int .i64 d] (dRet (.bool (lightS (o.getD []) n d))) := by
  have hl := okO_len ho
  obtain ⟨h, hd⟩ := hh
  refine pure_of_tree (H := shP [(37, 2, 70)] (sgOf [h37])) mixed fn19 (Nat.le_of_ble_eq_true rfl) (Nat.lt_of_succ_le (Nat.le_of_ble_eq_true rfl)) (sfOkH .nil (.cons okh37 .nil)) TbOk (lv := lv19) fun I F hI hF => ?_
  generalize hG : sgOf [h37] = G
  refine boxed fun C hC => ?_
  generalize hgen0 : encO o = gen0
  generalize hgen1 : DV.int .i64 n = gen1
  generalize hgen2 : DV.int .i64 d = gen2
  generalize hgen3 : lightS (o.getD []) n d = gen3
  cbv
  subst hgen0
  subst hgen1
  subst hgen2
  subst hgen3
  subst hC
  subst hG
  refine ⟨?_⟩
  simp only [hI, hF, std]
  have hz : ZOk 1048576 (n, false) := ⟨by simp only; omega, h.2, fun _ => h.1⟩
  simp only [ib_add, ib_sub, ib_mul, ib_eql, ib_neq, ib_lss, ib_leq, ib_gtr, ib_geq, sb_eql, sb_neq, sb_lss, sb_gtr, eqI_eq, ltI_eq, leI_eq, eqB_eq, isIK_int, isIK_ite, isStrD_ite, asInt_ite, sat_req, sat_ite, sat_ret, sat_back, aimF_q, aimR_q, into_q, into_bk, binV_add, binV_sub, binV_mul, binV_eql, binV_neq, binV_lss, binV_leq, binV_gtr, binV_geq, binV_seql, binV_sneq, bbinV_eql, bbinV_neq, unV_not, unV_neg, convV_int, asBool_ite, isBoolD_ite, isBUD_ite, grdD_ite, grdD_bool, grdD_tup, isBUD_tup, isBUD_bool, isBoolD_tup, isBoolD_bool, asBool_tup, asBool_bool, isIntD_int, isStrD_str, asInt_int, asStr_str, lstD_sim, lstD_snil, isSlD_sim, isSlD_snil, isSnil_sim, isSnil_snil, Option.isSome_some, Option.getD_some, true_and, and_true, ↓reduceIte, Nat.reduceEqDiff, reduceCtorEq, pick_or, pick_and, pick_or', pick_and', Bool.not_not, ite_bool, dlV_cell, cells_agg, cells_str, cells_int, cells_bool, cells_sim, cells_snil, List.getD_cons_zero, List.getD_cons_succ, beq_tt, beq_ft, ite_same, imp_true, lookOk, lookRes, sfOf, sgOf, hOk, hRes, hOut, aimP_q, one_int, one_bool, one_str, one_sim, one_snil, one_fn, Int.toNat_natCast, Nat.zero_add, Int.toNat_zero, natCast_fold, Int.ofNat_eq_natCast, isB_bool, beq_self_eq_true, dIsAgg_agg, bel_d, bel7_d, bel_aggd, List.all_cons, List.all_nil, Bool.and_self, Bool.and_true, Bool.true_and, dlV_enc, enc_cells, lst_encO, isSl_encO, one_encO, lst_encS, isSl_encS, one_encS, isAgg_enc, toV_enc, isV_enc, toVs_enc, isVs_enc, toSs_enc, isSs_enc, h37, encZ]
  try simp
  refine loop_rule (kend := fun I => kEndF I Tb [.tmp 6]) (H := shP [(37, 2, 70)] (sgOf [h37])) hI hF (sfOkH .nil (.cons okh37 .nil)) TbOk (by exact fun Bk e s h => endF TbOk Bk e s h) (lv := lv19) 0 (fun i : {i : Bool × Nat × Zst // i.2.1 ≤ (o.getD []).length ∧ sizL (o.getD []) d (n, false) = sizL ((o.getD []).drop i.2.1) d i.2.2 ∧ ZOk 1048576 i.2.2} => [.d (encO o), .d (.int .i64 d), .loc 0 2 0 0, .d (.int .i64 (i.1.2.1 : Int))]) (fun i : {i : Bool × Nat × Zst // i.2.1 ≤ (o.getD []).length ∧ sizL (o.getD []) d (n, false) = sizL ((o.getD []).drop i.2.1) d i.2.2 ∧ ZOk 1048576 i.2.2} => [(0, some ⟨[cz i.1.1 i.1.2.2], 2, 70, true, true⟩)]) (fun i : {i : Bool × Nat × Zst // i.2.1 ≤ (o.getD []).length ∧ sizL (o.getD []) d (n, false) = sizL ((o.getD []).drop i.2.1) d i.2.2 ∧ ZOk 1048576 i.2.2} => (o.getD []).length - i.1.2.1) [0] (⟨(true, 0, (n, false)), Nat.zero_le _, by simp, hz⟩ : {i : Bool × Nat × Zst // i.2.1 ≤ (o.getD []).length ∧ sizL (o.getD []) d (n, false) = sizL ((o.getD []).drop i.2.1) d i.2.2 ∧ ZOk 1048576 i.2.2}) (by rfl) (by rfl) ?_ ?_ fun i => ?_
  · rfl
  · rfl
  obtain ⟨⟨bf, i, s⟩, hi1, hi2, hi3⟩ := i
  have hi1 : i ≤ (o.getD []).length := hi1
  have w3 := wrap_succ (n := i) (by omega)
  have fin : ¬ (i < (o.getD []).length ∧ s.2 = false) → sizL ((o.getD []).drop i) d s = s := fun hn => by
    by_cases hi : i < (o.getD []).length
    · exact sizL_over _ _ _ (by have : ¬ s.2 = false := fun h => hn ⟨hi, h⟩; simpa using this)
    · rw [List.drop_eq_nil_of_le (by omega), sizL]
  have hi2 : sizL (o.getD []) d (n, false) = sizL ((o.getD []).drop i) d s := hi2
  have hi3 : ZOk 1048576 s := hi3
  cases bf
  · rw [show cz false s = .d (encZ s) from rfl]
    generalize hG : sgOf [h37] = G
    refine boxed fun C hC => ?_
    generalize hgen0 : encZ s = gen0
    generalize hgen1 : encO o = gen1
    generalize hgen2 : DV.int .i64 d = gen2
    generalize hgen3 : DV.int .i64 (i : Int) = gen3
    generalize hgen4 : lightS (o.getD []) n d = gen4
    cbv
    subst hgen0
    subst hgen1
    subst hgen2
    subst hgen3
    subst hgen4
    subst hC
    subst hG
    refine ⟨?_⟩
    simp only [hI, hF, std]
    by_cases hlt : i < (o.getD []).length ∧ s.2 = false
    · have g1 := get_enc _ _ hlt.1
      have k1 := okO_get ho hlt.1
      have hs := sizL_step (o.getD []) i d s hlt.1
      rw [if_neg (by simp [hlt.2])] at hs
      simp only [ib_add, ib_sub, ib_mul, ib_eql, ib_neq, ib_lss, ib_leq, ib_gtr, ib_geq, sb_eql, sb_neq, sb_lss, sb_gtr, eqI_eq, ltI_eq, leI_eq, eqB_eq, isIK_int, isIK_ite, isStrD_ite, asInt_ite, sat_req, sat_ite, sat_ret, sat_back, aimF_q, aimR_q, into_q, into_bk, binV_add, binV_sub, binV_mul, binV_eql, binV_neq, binV_lss, binV_leq, binV_gtr, binV_geq, binV_seql, binV_sneq, bbinV_eql, bbinV_neq, unV_not, unV_neg, convV_int, asBool_ite, isBoolD_ite, isBUD_ite, grdD_ite, grdD_bool, grdD_tup, isBUD_tup, isBUD_bool, isBoolD_tup, isBoolD_bool, asBool_tup, asBool_bool, isIntD_int, isStrD_str, asInt_int, asStr_str, lstD_sim, lstD_snil, isSlD_sim, isSlD_snil, isSnil_sim, isSnil_snil, Option.isSome_some, Option.getD_some, true_and, and_true, ↓reduceIte, Nat.reduceEqDiff, reduceCtorEq, pick_or, pick_and, pick_or', pick_and', Bool.not_not, ite_bool, dlV_cell, cells_agg, cells_str, cells_int, cells_bool, cells_sim, cells_snil, List.getD_cons_zero, List.getD_cons_succ, beq_tt, beq_ft, ite_same, imp_true, lookOk, lookRes, sfOf, sgOf, hOk, hRes, hOut, aimP_q, one_int, one_bool, one_str, one_sim, one_snil, one_fn, Int.toNat_natCast, Nat.zero_add, Int.toNat_zero, natCast_fold, Int.ofNat_eq_natCast, isB_bool, beq_self_eq_true, dIsAgg_agg, bel_d, bel7_d, bel_aggd, List.all_cons, List.all_nil, Bool.and_self, Bool.and_true, Bool.true_and, dlV_enc, enc_cells, lst_encO, isSl_encO, one_encO, lst_encS, isSl_encS, one_encS, isAgg_enc, toV_enc, isV_enc, toVs_enc, isVs_enc, toSs_enc, isSs_enc, h37, encZ, g1]
      simp [hlt, w3, - List.getD_eq_getElem?_getD, k1, dlV_enc, enc_cells, lst_encO, isSl_encO, one_encO, lst_encS, isSl_encS, one_encS, isAgg_enc, toV_enc, isV_enc, toVs_enc, isVs_enc, toSs_enc, isSs_enc, hi3, cz]
      have hse : ((s.1, false) : Zst) = s := by rw [← hlt.2]; rfl
      have hse' : (s.fst, false) = s := hse
      rw [hse']
      exact ⟨⟨hi3, hd⟩, i + 1, by omega, by simp, _, ⟨by omega, by rw [hi2, hs], sizV_ok _ _ _ _ hi3 hlt.2⟩, rfl⟩
    · simp only [ib_add, ib_sub, ib_mul, ib_eql, ib_neq, ib_lss, ib_leq, ib_gtr, ib_geq, sb_eql, sb_neq, sb_lss, sb_gtr, eqI_eq, ltI_eq, leI_eq, eqB_eq, isIK_int, isIK_ite, isStrD_ite, asInt_ite, sat_req, sat_ite, sat_ret, sat_back, aimF_q, aimR_q, into_q, into_bk, binV_add, binV_sub, binV_mul, binV_eql, binV_neq, binV_lss, binV_leq, binV_gtr, binV_geq, binV_seql, binV_sneq, bbinV_eql, bbinV_neq, unV_not, unV_neg, convV_int, asBool_ite, isBoolD_ite, isBUD_ite, grdD_ite, grdD_bool, grdD_tup, isBUD_tup, isBUD_bool, isBoolD_tup, isBoolD_bool, asBool_tup, asBool_bool, isIntD_int, isStrD_str, asInt_int, asStr_str, lstD_sim, lstD_snil, isSlD_sim, isSlD_snil, isSnil_sim, isSnil_snil, Option.isSome_some, Option.getD_some, true_and, and_true, ↓reduceIte, Nat.reduceEqDiff, reduceCtorEq, pick_or, pick_and, pick_or', pick_and', Bool.not_not, ite_bool, dlV_cell, cells_agg, cells_str, cells_int, cells_bool, cells_sim, cells_snil, List.getD_cons_zero, List.getD_cons_succ, beq_tt, beq_ft, ite_same, imp_true, lookOk, lookRes, sfOf, sgOf, hOk, hRes, hOut, aimP_q, one_int, one_bool, one_str, one_sim, one_snil, one_fn, Int.toNat_natCast, Nat.zero_add, Int.toNat_zero, natCast_fold, Int.ofNat_eq_natCast, isB_bool, beq_self_eq_true, dIsAgg_agg, bel_d, bel7_d, bel_aggd, List.all_cons, List.all_nil, Bool.and_self, Bool.and_true, Bool.true_and, dlV_enc, enc_cells, lst_encO, isSl_encO, one_encO, lst_encS, isSl_encS, one_encS, isAgg_enc, toV_enc, isV_enc, toVs_enc, isVs_enc, toSs_enc, isSs_enc, h37, encZ]
      simp [lightS, hi2, cz]
      exact ⟨fun a b => absurd ⟨a, b⟩ hlt, fun h => by rw [fin hlt]⟩
  · rw [show cz true s = .agg [.d (.int .i64 s.1), .d (.bool s.2)] from rfl]
    generalize hG : sgOf [h37] = G
    refine boxed fun C hC => ?_
    generalize hgen0 : DV.int .i64 s.1 = gen0
    generalize hgen1 : DV.bool s.2 = gen1
    generalize hgen2 : encO o = gen2
    generalize hgen3 : DV.int .i64 d = gen3
    generalize hgen4 : DV.int .i64 (i : Int) = gen4
    generalize hgen5 : lightS (o.getD []) n d = gen5
    cbv
    subst hgen0
    subst hgen1
    subst hgen2
    subst hgen3
    subst hgen4
    subst hgen5
    subst hC
    subst hG
    refine ⟨?_⟩
    simp only [hI, hF, std]
    by_cases hlt : i < (o.getD []).length ∧ s.2 = false
    · have g1 := get_enc _ _ hlt.1
      have k1 := okO_get ho hlt.1
      have hs := sizL_step (o.getD []) i d s hlt.1
      rw [if_neg (by simp [hlt.2])] at hs
      simp only [ib_add, ib_sub, ib_mul, ib_eql, ib_neq, ib_lss, ib_leq, ib_gtr, ib_geq, sb_eql, sb_neq, sb_lss, sb_gtr, eqI_eq, ltI_eq, leI_eq, eqB_eq, isIK_int, isIK_ite, isStrD_ite, asInt_ite, sat_req, sat_ite, sat_ret, sat_back, aimF_q, aimR_q, into_q, into_bk, binV_add, binV_sub, binV_mul, binV_eql, binV_neq, binV_lss, binV_leq, binV_gtr, binV_geq, binV_seql, binV_sneq, bbinV_eql, bbinV_neq, unV_not, unV_neg, convV_int, asBool_ite, isBoolD_ite, isBUD_ite, grdD_ite, grdD_bool, grdD_tup, isBUD_tup, isBUD_bool, isBoolD_tup, isBoolD_bool, asBool_tup, asBool_bool, isIntD_int, isStrD_str, asInt_int, asStr_str, lstD_sim, lstD_snil, isSlD_sim, isSlD_snil, isSnil_sim, isSnil_snil, Option.isSome_some, Option.getD_some, true_and, and_true, ↓reduceIte, Nat.reduceEqDiff, reduceCtorEq, pick_or, pick_and, pick_or', pick_and', Bool.not_not, ite_bool, dlV_cell, cells_agg, cells_str, cells_int, cells_bool, cells_sim, cells_snil, List.getD_cons_zero, List.getD_cons_succ, beq_tt, beq_ft, ite_same, imp_true, lookOk, lookRes, sfOf, sgOf, hOk, hRes, hOut, aimP_q, one_int, one_bool, one_str, one_sim, one_snil, one_fn, Int.toNat_natCast, Nat.zero_add, Int.toNat_zero, natCast_fold, Int.ofNat_eq_natCast, isB_bool, beq_self_eq_true, dIsAgg_agg, bel_d, bel7_d, bel_aggd, List.all_cons, List.all_nil, Bool.and_self, Bool.and_true, Bool.true_and, dlV_enc, enc_cells, lst_encO, isSl_encO, one_encO, lst_encS, isSl_encS, one_encS, isAgg_enc, toV_enc, isV_enc, toVs_enc, isVs_enc, toSs_enc, isSs_enc, h37, encZ, g1]
      simp [hlt, w3, - List.getD_eq_getElem?_getD, k1, dlV_enc, enc_cells, lst_encO, isSl_encO, one_encO, lst_encS, isSl_encS, one_encS, isAgg_enc, toV_enc, isV_enc, toVs_enc, isVs_enc, toSs_enc, isSs_enc, hi3, cz]
      have hse : ((s.1, false) : Zst) = s := by rw [← hlt.2]; rfl
      have hse' : (s.fst, false) = s := hse
      rw [hse']
      exact ⟨⟨hi3, hd⟩, i + 1, by omega, by simp, _, ⟨by omega, by rw [hi2, hs], sizV_ok _ _ _ _ hi3 hlt.2⟩, rfl⟩
    · simp only [ib_add, ib_sub, ib_mul, ib_eql, ib_neq, ib_lss, ib_leq, ib_gtr, ib_geq, sb_eql, sb_neq, sb_lss, sb_gtr, eqI_eq, ltI_eq, leI_eq, eqB_eq, isIK_int, isIK_ite, isStrD_ite, asInt_ite, sat_req, sat_ite, sat_ret, sat_back, aimF_q, aimR_q, into_q, into_bk, binV_add, binV_sub, binV_mul, binV_eql, binV_neq, binV_lss, binV_leq, binV_gtr, binV_geq, binV_seql, binV_sneq, bbinV_eql, bbinV_neq, unV_not, unV_neg, convV_int, asBool_ite, isBoolD_ite, isBUD_ite, grdD_ite, grdD_bool, grdD_tup, isBUD_tup, isBUD_bool, isBoolD_tup, isBoolD_bool, asBool_tup, asBool_bool, isIntD_int, isStrD_str, asInt_int, asStr_str, lstD_sim, lstD_snil, isSlD_sim, isSlD_snil, isSnil_sim, isSnil_snil, Option.isSome_some, Option.getD_some, true_and, and_true, ↓reduceIte, Nat.reduceEqDiff, reduceCtorEq, pick_or, pick_and, pick_or', pick_and', Bool.not_not, ite_bool, dlV_cell, cells_agg, cells_str, cells_int, cells_bool, cells_sim, cells_snil, List.getD_cons_zero, List.getD_cons_succ, beq_tt, beq_ft, ite_same, imp_true, lookOk, lookRes, sfOf, sgOf, hOk, hRes, hOut, aimP_q, one_int, one_bool, one_str, one_sim, one_snil, one_fn, Int.toNat_natCast, Nat.zero_add, Int.toNat_zero, natCast_fold, Int.ofNat_eq_natCast, isB_bool, beq_self_eq_true, dIsAgg_agg, bel_d, bel7_d, bel_aggd, List.all_cons, List.all_nil, Bool.and_self, Bool.and_true, Bool.true_and, dlV_enc, enc_cells, lst_encO, isSl_encO, one_encO, lst_encS, isSl_encS, one_encS, isAgg_enc, toV_enc, isV_enc, toVs_enc, isVs_enc, toSs_enc, isSs_enc, h37, encZ]
      simp [lightS, hi2, cz]
      exact ⟨fun a b => absurd ⟨a, b⟩ hlt, fun h => by rw [fin hlt]⟩
open Classical in
noncomputable def e19 : Ent := ⟨19, fun | [d_o, .int .i64 n, .int .i64 d] => decide (isVs d_o ∧ (0 ≤ n ∧ n ≤ 1048576) ∧ (0 ≤ d ∧ d ≤ 1048576)) | _ => false, fun | [d_o, .int .i64 n, .int .i64 d] => .bool (lightS ((toVs d_o).getD []) n d) | _ => .inil⟩
open Classical in
theorem ok19 : EntOk Tryz.prog [0] e19 := fun ds h => by
  unfold e19 at h ⊢
  simp only at h ⊢
  split at h
  · rw [decide_eq_true_iff] at h
    obtain ⟨⟨v0, rfl, k0⟩, kx⟩ := h
    simp only [toV_enc, toVs_enc, toSs_enc] at kx ⊢
    exact pc19 _ _ _ k0 kx
  · cases h
/-- The program's own test of smallness. -/
def encM (n : Int) : DV := .agg [.int .i64 n]
mutual
def fitV : V → Int → Int → Int × Bool
  | .mk _ _ _ _ _ it, d, n => if n - 1 < 0 ∨ d < 1 then (n - 1, false) else fitO it (d - 1) (n - 1)
def fitO : Option (List V) → Int → Int → Int × Bool
  | none, _, n => (n, true)
  | some l, d, n => fitL l d n
def fitL : List V → Int → Int → Int × Bool
  | [], _, n => (n, true)
  | v :: r, d, n => if (fitV v d n).2 = true then fitL r d (fitV v d n).1 else ((fitV v d n).1, false)
end
theorem fitO_eq (o : Option (List V)) (d n : Int) : fitO o d n = fitL (o.getD []) d n := by cases o <;> rw [fitO] <;> simp [fitL]
theorem fitV_eq (v : V) (d n : Int) : fitV v d n = if n - 1 < 0 ∨ d < 1 then (n - 1, false) else fitL v.items (d - 1) (n - 1) := by
  cases v; rw [fitV, fitO_eq]; rfl
theorem fitL_step (l : List V) (i : Nat) (d n : Int) (h : i < l.length) : fitL (l.drop i) d n = if (fitV (l.getD i default) d n).2 = true then fitL (l.drop (i + 1)) d (fitV (l.getD i default) d n).1 else ((fitV (l.getD i default) d n).1, false) := by
  rw [List.drop_eq_getElem_cons h, fitL]
  simp [List.getD, h]
theorem sizV_1 (k m e : Int) (s : ByteArray) (nm : Option (List ByteArray)) (it : Option (List V)) (d : Int) (z : Zst) : sizV (.mk k m e s nm it) d z = if (meetS z d).2 = true then meetS z d else sizO it (d - 1) (meetS z d) := by rw [sizV]
theorem sizO_1 (d : Int) (z : Zst) : sizO none d z = z := by rw [sizO]
theorem sizO_2 (l : List V) (d : Int) (z : Zst) : sizO (some l) d z = sizL l d z := by rw [sizO]
theorem sizL_1 (d : Int) (z : Zst) : sizL [] d z = z := by rw [sizL]
theorem sizL_2 (v : V) (r : List V) (d : Int) (z : Zst) : sizL (v :: r) d z = if z.2 = true then z else sizL r d (sizV v d z) := by rw [sizL]
def z0 (n : Int) : Zst := (n, false)
theorem meet_t {d n : Int} (h : n - 1 < 0 ∨ d < 1) : (meetS (z0 n) d).2 = true := by
  simp only [meetS, z0, Bool.false_or, Bool.or_eq_true]
  exact h.imp (fun h => decide_eq_true h) (fun h => decide_eq_true h)
theorem meet_f {d n : Int} (h : ¬ (n - 1 < 0 ∨ d < 1)) : meetS (z0 n) d = z0 (n - 1) := by
  have h1 : ¬ n - 1 < 0 := fun a => h (.inl a)
  have h2 : ¬ d < 1 := fun a => h (.inr a)
  simp [meetS, z0, h1, h2]
  rfl
mutual
/-- Both tests are one. -/
theorem fit_siz : ∀ (v : V) (d n : Int), 0 ≤ n → (sizV v d (z0 n)).2 = !(fitV v d n).2 ∧ ((fitV v d n).2 = true → (sizV v d (z0 n)).1 = (fitV v d n).1 ∧ 0 ≤ (fitV v d n).1)
  | .mk _ _ _ _ _ it, d, n, hn => by
    rw [sizV_1, fitV]
    by_cases h : n - 1 < 0 ∨ d < 1
    · rw [if_pos (meet_t h), if_pos h, meet_t h]
      exact ⟨rfl, fun h => by cases h⟩
    · rw [meet_f h, if_neg (by simp [z0]), if_neg h]
      exact fit_sizO it (d - 1) (n - 1) (by omega)
theorem fit_sizO : ∀ (o : Option (List V)) (d n : Int), 0 ≤ n → (sizO o d (z0 n)).2 = !(fitO o d n).2 ∧ ((fitO o d n).2 = true → (sizO o d (z0 n)).1 = (fitO o d n).1 ∧ 0 ≤ (fitO o d n).1)
  | none, d, n, hn => by rw [sizO_1, fitO]; exact ⟨rfl, fun _ => ⟨rfl, hn⟩⟩
  | some l, d, n, hn => by rw [sizO_2, fitO]; exact fit_sizL l d n hn
theorem fit_sizL : ∀ (l : List V) (d n : Int), 0 ≤ n → (sizL l d (z0 n)).2 = !(fitL l d n).2 ∧ ((fitL l d n).2 = true → (sizL l d (z0 n)).1 = (fitL l d n).1 ∧ 0 ≤ (fitL l d n).1)
  | [], d, n, hn => by rw [sizL_1, fitL]; exact ⟨rfl, fun _ => ⟨rfl, hn⟩⟩
  | v :: r, d, n, hn => by
    obtain ⟨h1, h2⟩ := fit_siz v d n hn
    rw [sizL_2, fitL, if_neg (by simp [z0])]
    cases hf : (fitV v d n).2 with
    | true =>
      obtain ⟨h3, h4⟩ := h2 hf
      rw [hf] at h1
      have : sizV v d (z0 n) = z0 (fitV v d n).1 := Prod.ext h3 h1
      rw [this, if_pos rfl]
      exact fit_sizL r d _ h4
    | false =>
      rw [hf] at h1
      rw [if_neg (by simp), sizL_over r d _ h1]
      exact ⟨h1, fun h => by cases h⟩
end
mutual
theorem fitV_lo : ∀ (v : V) (d n : Int), 0 ≤ n → -1 ≤ (fitV v d n).1 ∧ (fitV v d n).1 ≤ n ∧ ((fitV v d n).2 = true → 0 ≤ (fitV v d n).1)
  | .mk _ _ _ _ _ it, d, n, hn => by
    rw [fitV]
    split
    · exact ⟨by simp only; omega, by simp only; omega, fun h => by cases h⟩
    · have := fitO_lo it (d - 1) (n - 1) (by omega); exact ⟨this.1, by omega, this.2.2⟩
theorem fitO_lo : ∀ (o : Option (List V)) (d n : Int), 0 ≤ n → -1 ≤ (fitO o d n).1 ∧ (fitO o d n).1 ≤ n ∧ ((fitO o d n).2 = true → 0 ≤ (fitO o d n).1)
  | none, d, n, hn => by rw [fitO]; exact ⟨by simp only; omega, by simp only; omega, fun _ => hn⟩
  | some l, d, n, hn => by rw [fitO]; exact fitL_lo l d n hn
theorem fitL_lo : ∀ (l : List V) (d n : Int), 0 ≤ n → -1 ≤ (fitL l d n).1 ∧ (fitL l d n).1 ≤ n ∧ ((fitL l d n).2 = true → 0 ≤ (fitL l d n).1)
  | [], d, n, hn => by rw [fitL]; exact ⟨by simp only; omega, by simp only; omega, fun _ => hn⟩
  | v :: r, d, n, hn => by
    have h := fitV_lo v d n hn
    rw [fitL]
    split
    · rename_i hf
      have := fitL_lo r d _ (h.2.2 hf)
      exact ⟨this.1, by omega, this.2.2⟩
    · exact ⟨h.1, h.2.1, fun h => by cases h⟩
end

open Classical in
noncomputable def h46n (N : Nat) : HEnt := {
  f := 46
  es := 1
  ty := 78
  ok x ds := match x, ds with
    | .agg [.int .i64 n], [v, .int .i64 d] => decide (isV v ∧ (toV v).sz < N ∧ (0 ≤ n ∧ n ≤ 1048576) ∧ 0 ≤ d ∧ d ≤ 1048576)
    | _, _ => false
  res x ds := match x, ds with
    | .agg [.int .i64 n], [v, .int .i64 d] => .bool (fitV (toV v) d n).2
    | _, _ => .inil
  out x ds := match x, ds with
    | .agg [.int .i64 n], [v, .int .i64 d] => encM (fitV (toV v) d n).1
    | _, _ => .inil }
open Classical in
theorem okh46n {N : Nat} (h : ∀ (v : V) (n : Int) (d : Int), v.ok → v.sz < N → (0 ≤ n ∧ n ≤ 1048576) → 0 ≤ d → d ≤ 1048576 → PtrCall Tryz.prog [0] 46 1 78 (encM n) [v.enc, .int .i64 d] (encM (fitV v d n).1) (.bool (fitV v d n).2)) : HEntOk Tryz.prog [0] (h46n N) := fun x ds hk => by
  unfold h46n at hk ⊢
  simp only at hk ⊢
  split at hk
  · rw [decide_eq_true_iff] at hk
    obtain ⟨⟨v, rfl, h1⟩, h2, h3, h5, h6⟩ := hk
    simp only [toV_enc] at h2 ⊢
    exact h v _ _ h1 h2 h3 h5 h6
  · cases hk
def lv46 : Nat → List Nat × List Nat
  | 5 => ([0, 2, 4, 26, 27, 28], [0, 1])
  | _ => ([], [])
/-- A count in a block, as it is after a store and as it is after a call. -/
def cm : Bool → Int → AV
  | true, n => .agg [.d (.int .i64 n)]
  | false, n => .d (encM n)
theorem pc46n : ∀ (N : Nat) (v : V) (n : Int) (d : Int), v.ok → v.sz < N → (0 ≤ n ∧ n ≤ 1048576) → 0 ≤ d → d ≤ 1048576 → PtrCall Tryz.prog [0] 46 1 78 (encM n) [v.enc, .int .i64 d] (encM (fitV v d n).1) (.bool (fitV v d n).2)
  | 0, v, _, _, _, h, _, _, _ => by omega
  | N + 1, v, n, d, hv, hn, hz, hd, hd2 => by
    have okh46' := okh46n (pc46n N)
    generalize hr : fitV v d n = fr
    refine ptr_of_tree (H := shP [(46, 1, 78)] (sgOf [(h46n _)])) mixed fn46 (Nat.le_of_ble_eq_true rfl) (Nat.lt_of_succ_le (Nat.le_of_ble_eq_true rfl)) (sfOkH .nil (.cons okh46' .nil)) TbOk (lv := lv46) fun I F hI hF => ?_
    generalize hG : sgOf [(h46n _)] = G
    refine boxed fun C hC => ?_
    generalize hgen0 : encM n = gen0
    generalize hgen1 : v.enc = gen1
    generalize hgen2 : DV.int .i64 d = gen2
    generalize hgen3 : encM fr.1 = gen3
    generalize hgen4 : DV.bool fr.2 = gen4
    cbv
    subst hgen0
    subst hgen1
    subst hgen2
    subst hgen3
    subst hgen4
    subst hC
    subst hG
    refine ⟨?_⟩
    simp only [hI, hF, std]
    have e3 : v.it.getD [] = v.items := rfl
    have il := V.ok_il hv
    have hE := fitV_eq v d n
    rw [hr] at hE
    have w : IntKind.i64.wrap (n - 1) = n - 1 := wrap64 (by omega) (by omega)
    simp only [ib_add, ib_sub, ib_mul, ib_eql, ib_neq, ib_lss, ib_leq, ib_gtr, ib_geq, sb_eql, sb_neq, sb_lss, sb_gtr, eqI_eq, ltI_eq, leI_eq, eqB_eq, isIK_int, isIK_ite, isStrD_ite, asInt_ite, sat_req, sat_ite, sat_ret, sat_back, aimF_q, aimR_q, into_q, into_bk, binV_add, binV_sub, binV_mul, binV_eql, binV_neq, binV_lss, binV_leq, binV_gtr, binV_geq, binV_seql, binV_sneq, bbinV_eql, bbinV_neq, unV_not, unV_neg, convV_int, asBool_ite, isBoolD_ite, isBUD_ite, grdD_ite, grdD_bool, grdD_tup, isBUD_tup, isBUD_bool, isBoolD_tup, isBoolD_bool, asBool_tup, asBool_bool, isIntD_int, isStrD_str, asInt_int, asStr_str, lstD_sim, lstD_snil, isSlD_sim, isSlD_snil, isSnil_sim, isSnil_snil, Option.isSome_some, Option.getD_some, true_and, and_true, ↓reduceIte, Nat.reduceEqDiff, reduceCtorEq, pick_or, pick_and, pick_or', pick_and', Bool.not_not, ite_bool, dlV_cell, cells_agg, cells_str, cells_int, cells_bool, cells_sim, cells_snil, List.getD_cons_zero, List.getD_cons_succ, beq_tt, beq_ft, ite_same, imp_true, lookOk, lookRes, sfOf, sgOf, hOk, hRes, hOut, aimP_q, one_int, one_bool, one_str, one_sim, one_snil, one_fn, Int.toNat_natCast, Nat.zero_add, Int.toNat_zero, natCast_fold, Int.ofNat_eq_natCast, isB_bool, beq_self_eq_true, dIsAgg_agg, bel_d, bel7_d, bel_aggd, List.all_cons, List.all_nil, Bool.and_self, Bool.and_true, Bool.true_and, dlV_enc, enc_cells, lst_encO, isSl_encO, one_encO, lst_encS, isSl_encS, one_encS, isAgg_enc, toV_enc, isV_enc, toVs_enc, isVs_enc, toSs_enc, isSs_enc, h46n, encM, w]
    simp
    by_cases hc : n - 1 < 0 ∨ d < 1
    · rw [if_pos hc] at hE
      rw [hE]
      simp [cond_eq_ite]
      intro h1 h2
      omega
    rw [if_neg hc] at hE
    have hc1 : ¬ n - 1 < 0 := fun a => hc (.inl a)
    have hc2 : ¬ d < 1 := fun a => hc (.inr a)
    have wd : IntKind.i64.wrap (d - 1) = d - 1 := wrap64 (by omega) (by omega)
    have p1 : 1 ≤ n := by omega
    have p2 : 1 ≤ d := by omega
    have p3 : ¬ n < 1 := by omega
    simp [hc1, hc2, p1, p2, p3]
    refine loop_rule (kend := fun I => kEndP I Tb 1 78 [.tmp 6]) (H := shP [(46, 1, 78)] (sgOf [(h46n _)])) hI hF (sfOkH .nil (.cons okh46' .nil)) TbOk (by exact fun Bk e s h => endP TbOk Bk e s h) (lv := lv46) 0 (fun i : {i : Bool × Nat × Int // i.2.1 ≤ v.items.length ∧ fitL v.items (d - 1) (n - 1) = fitL (v.items.drop i.2.1) (d - 1) i.2.2 ∧ 0 ≤ i.2.2 ∧ i.2.2 ≤ n} => [.loc 0 1 0 0, .d (.int .i64 d), .loc 1 6 0 0, .d (encO v.it), .d (.int .i64 (v.items.length : Int)), .d (.int .i64 (i.1.2.1 : Int))]) (fun i : {i : Bool × Nat × Int // i.2.1 ≤ v.items.length ∧ fitL v.items (d - 1) (n - 1) = fitL (v.items.drop i.2.1) (d - 1) i.2.2 ∧ 0 ≤ i.2.2 ∧ i.2.2 ≤ n} => [(0, some ⟨[cm i.1.1 i.1.2.2], 1, 78, true, true⟩), (1, some ⟨[.d v.enc], 6, 25, true, true⟩)]) (fun i : {i : Bool × Nat × Int // i.2.1 ≤ v.items.length ∧ fitL v.items (d - 1) (n - 1) = fitL (v.items.drop i.2.1) (d - 1) i.2.2 ∧ 0 ≤ i.2.2 ∧ i.2.2 ≤ n} => v.items.length - i.1.2.1) [0, 1] (⟨(true, 0, n - 1), by simp, by simp, by simp; omega, by simp; omega⟩ : {i : Bool × Nat × Int // i.2.1 ≤ v.items.length ∧ fitL v.items (d - 1) (n - 1) = fitL (v.items.drop i.2.1) (d - 1) i.2.2 ∧ 0 ≤ i.2.2 ∧ i.2.2 ≤ n}) (by rfl) (by rfl) ?_ ?_ fun i => ?_
    · simp [e3]
    · rfl
    obtain ⟨⟨bf, i, m⟩, hi1, hi2, hi3, hi4⟩ := i
    have hi1 : i ≤ v.items.length := hi1
    have hi2 : fitL v.items (d - 1) (n - 1) = fitL (v.items.drop i) (d - 1) m := hi2
    have hi3 : 0 ≤ m := hi3
    have hi4 : m ≤ n := hi4
    have w3 := wrap_succ (n := i) (by omega)
    cases bf
    · rw [show cm false m = .d (encM m) from rfl]
      generalize hG : sgOf [(h46n _)] = G
      refine boxed fun C hC => ?_
      generalize hgen0 : encM m = gen0
      generalize hgen1 : v.enc = gen1
      generalize hgen2 : encO v.it = gen2
      generalize hgen3 : DV.int .i64 d = gen3
      generalize hgen4 : DV.int .i64 (v.items.length : Int) = gen4
      generalize hgen5 : DV.int .i64 (i : Int) = gen5
      cbv
      subst hgen0
      subst hgen1
      subst hgen2
      subst hgen3
      subst hgen4
      subst hgen5
      subst hC
      subst hG
      refine ⟨?_⟩
      simp only [hI, hF, std]
      by_cases hlt : i < v.items.length
      · have g1 := get_enc _ _ hlt
        have k1 := V.ok_get hv hlt
        have k2 := V.sz_get hlt
        have k3 : (v.items.getD i default).sz < N := by omega
        have hs := fitL_step v.items i (d - 1) m hlt
        have hlo := fitV_lo (v.items.getD i default) (d - 1) m hi3
        have hm : m ≤ 1048576 := by omega
        have hd4 : 1 ≤ d ∧ d - 1 ≤ 1048576 := by omega
        simp only [ib_add, ib_sub, ib_mul, ib_eql, ib_neq, ib_lss, ib_leq, ib_gtr, ib_geq, sb_eql, sb_neq, sb_lss, sb_gtr, eqI_eq, ltI_eq, leI_eq, eqB_eq, isIK_int, isIK_ite, isStrD_ite, asInt_ite, sat_req, sat_ite, sat_ret, sat_back, aimF_q, aimR_q, into_q, into_bk, binV_add, binV_sub, binV_mul, binV_eql, binV_neq, binV_lss, binV_leq, binV_gtr, binV_geq, binV_seql, binV_sneq, bbinV_eql, bbinV_neq, unV_not, unV_neg, convV_int, asBool_ite, isBoolD_ite, isBUD_ite, grdD_ite, grdD_bool, grdD_tup, isBUD_tup, isBUD_bool, isBoolD_tup, isBoolD_bool, asBool_tup, asBool_bool, isIntD_int, isStrD_str, asInt_int, asStr_str, lstD_sim, lstD_snil, isSlD_sim, isSlD_snil, isSnil_sim, isSnil_snil, Option.isSome_some, Option.getD_some, true_and, and_true, ↓reduceIte, Nat.reduceEqDiff, reduceCtorEq, pick_or, pick_and, pick_or', pick_and', Bool.not_not, ite_bool, dlV_cell, cells_agg, cells_str, cells_int, cells_bool, cells_sim, cells_snil, List.getD_cons_zero, List.getD_cons_succ, beq_tt, beq_ft, ite_same, imp_true, lookOk, lookRes, sfOf, sgOf, hOk, hRes, hOut, aimP_q, one_int, one_bool, one_str, one_sim, one_snil, one_fn, Int.toNat_natCast, Nat.zero_add, Int.toNat_zero, natCast_fold, Int.ofNat_eq_natCast, isB_bool, beq_self_eq_true, dIsAgg_agg, bel_d, bel7_d, bel_aggd, List.all_cons, List.all_nil, Bool.and_self, Bool.and_true, Bool.true_and, dlV_enc, enc_cells, lst_encO, isSl_encO, one_encO, lst_encS, isSl_encS, one_encS, isAgg_enc, toV_enc, isV_enc, toVs_enc, isVs_enc, toSs_enc, isSs_enc, h46n, encM, e3, g1, wd]
        simp [hlt, w3, - List.getD_eq_getElem?_getD, k1, k3, dlV_enc, enc_cells, lst_encO, isSl_encO, one_encO, lst_encS, isSl_encS, one_encS, isAgg_enc, toV_enc, isV_enc, toVs_enc, isVs_enc, toSs_enc, isSs_enc, hi3, hm, hd4, cm]
        refine ⟨fun h => ?_, fun h => ⟨i + 1, by omega, by simp, _, ⟨by omega, by rw [hi2, hs, if_pos h], hlo.2.2 h, by omega⟩, rfl⟩⟩
        rw [hE, hi2, hs, if_neg (by rw [h]; simp)]; exact ⟨rfl, rfl⟩
      · simp only [ib_add, ib_sub, ib_mul, ib_eql, ib_neq, ib_lss, ib_leq, ib_gtr, ib_geq, sb_eql, sb_neq, sb_lss, sb_gtr, eqI_eq, ltI_eq, leI_eq, eqB_eq, isIK_int, isIK_ite, isStrD_ite, asInt_ite, sat_req, sat_ite, sat_ret, sat_back, aimF_q, aimR_q, into_q, into_bk, binV_add, binV_sub, binV_mul, binV_eql, binV_neq, binV_lss, binV_leq, binV_gtr, binV_geq, binV_seql, binV_sneq, bbinV_eql, bbinV_neq, unV_not, unV_neg, convV_int, asBool_ite, isBoolD_ite, isBUD_ite, grdD_ite, grdD_bool, grdD_tup, isBUD_tup, isBUD_bool, isBoolD_tup, isBoolD_bool, asBool_tup, asBool_bool, isIntD_int, isStrD_str, asInt_int, asStr_str, lstD_sim, lstD_snil, isSlD_sim, isSlD_snil, isSnil_sim, isSnil_snil, Option.isSome_some, Option.getD_some, true_and, and_true, ↓reduceIte, Nat.reduceEqDiff, reduceCtorEq, pick_or, pick_and, pick_or', pick_and', Bool.not_not, ite_bool, dlV_cell, cells_agg, cells_str, cells_int, cells_bool, cells_sim, cells_snil, List.getD_cons_zero, List.getD_cons_succ, beq_tt, beq_ft, ite_same, imp_true, lookOk, lookRes, sfOf, sgOf, hOk, hRes, hOut, aimP_q, one_int, one_bool, one_str, one_sim, one_snil, one_fn, Int.toNat_natCast, Nat.zero_add, Int.toNat_zero, natCast_fold, Int.ofNat_eq_natCast, isB_bool, beq_self_eq_true, dIsAgg_agg, bel_d, bel7_d, bel_aggd, List.all_cons, List.all_nil, Bool.and_self, Bool.and_true, Bool.true_and, dlV_enc, enc_cells, lst_encO, isSl_encO, one_encO, lst_encS, isSl_encS, one_encS, isAgg_enc, toV_enc, isV_enc, toVs_enc, isVs_enc, toSs_enc, isSs_enc, h46n, encM, e3]
        have hn : v.items.drop i = [] := List.drop_eq_nil_of_le (by omega)
        simp [hlt, hE, hi2, hn, fitL]
    · rw [show cm true m = .agg [.d (.int .i64 m)] from rfl]
      generalize hG : sgOf [(h46n _)] = G
      refine boxed fun C hC => ?_
      generalize hgen0 : DV.int .i64 m = gen0
      generalize hgen1 : v.enc = gen1
      generalize hgen2 : encO v.it = gen2
      generalize hgen3 : DV.int .i64 d = gen3
      generalize hgen4 : DV.int .i64 (v.items.length : Int) = gen4
      generalize hgen5 : DV.int .i64 (i : Int) = gen5
      cbv
      subst hgen0
      subst hgen1
      subst hgen2
      subst hgen3
      subst hgen4
      subst hgen5
      subst hC
      subst hG
      refine ⟨?_⟩
      simp only [hI, hF, std]
      by_cases hlt : i < v.items.length
      · have g1 := get_enc _ _ hlt
        have k1 := V.ok_get hv hlt
        have k2 := V.sz_get hlt
        have k3 : (v.items.getD i default).sz < N := by omega
        have hs := fitL_step v.items i (d - 1) m hlt
        have hlo := fitV_lo (v.items.getD i default) (d - 1) m hi3
        have hm : m ≤ 1048576 := by omega
        have hd4 : 1 ≤ d ∧ d - 1 ≤ 1048576 := by omega
        simp only [ib_add, ib_sub, ib_mul, ib_eql, ib_neq, ib_lss, ib_leq, ib_gtr, ib_geq, sb_eql, sb_neq, sb_lss, sb_gtr, eqI_eq, ltI_eq, leI_eq, eqB_eq, isIK_int, isIK_ite, isStrD_ite, asInt_ite, sat_req, sat_ite, sat_ret, sat_back, aimF_q, aimR_q, into_q, into_bk, binV_add, binV_sub, binV_mul, binV_eql, binV_neq, binV_lss, binV_leq, binV_gtr, binV_geq, binV_seql, binV_sneq, bbinV_eql, bbinV_neq, unV_not, unV_neg, convV_int, asBool_ite, isBoolD_ite, isBUD_ite, grdD_ite, grdD_bool, grdD_tup, isBUD_tup, isBUD_bool, isBoolD_tup, isBoolD_bool, asBool_tup, asBool_bool, isIntD_int, isStrD_str, asInt_int, asStr_str, lstD_sim, lstD_snil, isSlD_sim, isSlD_snil, isSnil_sim, isSnil_snil, Option.isSome_some, Option.getD_some, true_and, and_true, ↓reduceIte, Nat.reduceEqDiff, reduceCtorEq, pick_or, pick_and, pick_or', pick_and', Bool.not_not, ite_bool, dlV_cell, cells_agg, cells_str, cells_int, cells_bool, cells_sim, cells_snil, List.getD_cons_zero, List.getD_cons_succ, beq_tt, beq_ft, ite_same, imp_true, lookOk, lookRes, sfOf, sgOf, hOk, hRes, hOut, aimP_q, one_int, one_bool, one_str, one_sim, one_snil, one_fn, Int.toNat_natCast, Nat.zero_add, Int.toNat_zero, natCast_fold, Int.ofNat_eq_natCast, isB_bool, beq_self_eq_true, dIsAgg_agg, bel_d, bel7_d, bel_aggd, List.all_cons, List.all_nil, Bool.and_self, Bool.and_true, Bool.true_and, dlV_enc, enc_cells, lst_encO, isSl_encO, one_encO, lst_encS, isSl_encS, one_encS, isAgg_enc, toV_enc, isV_enc, toVs_enc, isVs_enc, toSs_enc, isSs_enc, h46n, encM, e3, g1, wd]
        simp [hlt, w3, - List.getD_eq_getElem?_getD, k1, k3, dlV_enc, enc_cells, lst_encO, isSl_encO, one_encO, lst_encS, isSl_encS, one_encS, isAgg_enc, toV_enc, isV_enc, toVs_enc, isVs_enc, toSs_enc, isSs_enc, hi3, hm, hd4, cm]
        refine ⟨fun h => ?_, fun h => ⟨i + 1, by omega, by simp, _, ⟨by omega, by rw [hi2, hs, if_pos h], hlo.2.2 h, by omega⟩, rfl⟩⟩
        rw [hE, hi2, hs, if_neg (by rw [h]; simp)]; exact ⟨rfl, rfl⟩
      · simp only [ib_add, ib_sub, ib_mul, ib_eql, ib_neq, ib_lss, ib_leq, ib_gtr, ib_geq, sb_eql, sb_neq, sb_lss, sb_gtr, eqI_eq, ltI_eq, leI_eq, eqB_eq, isIK_int, isIK_ite, isStrD_ite, asInt_ite, sat_req, sat_ite, sat_ret, sat_back, aimF_q, aimR_q, into_q, into_bk, binV_add, binV_sub, binV_mul, binV_eql, binV_neq, binV_lss, binV_leq, binV_gtr, binV_geq, binV_seql, binV_sneq, bbinV_eql, bbinV_neq, unV_not, unV_neg, convV_int, asBool_ite, isBoolD_ite, isBUD_ite, grdD_ite, grdD_bool, grdD_tup, isBUD_tup, isBUD_bool, isBoolD_tup, isBoolD_bool, asBool_tup, asBool_bool, isIntD_int, isStrD_str, asInt_int, asStr_str, lstD_sim, lstD_snil, isSlD_sim, isSlD_snil, isSnil_sim, isSnil_snil, Option.isSome_some, Option.getD_some, true_and, and_true, ↓reduceIte, Nat.reduceEqDiff, reduceCtorEq, pick_or, pick_and, pick_or', pick_and', Bool.not_not, ite_bool, dlV_cell, cells_agg, cells_str, cells_int, cells_bool, cells_sim, cells_snil, List.getD_cons_zero, List.getD_cons_succ, beq_tt, beq_ft, ite_same, imp_true, lookOk, lookRes, sfOf, sgOf, hOk, hRes, hOut, aimP_q, one_int, one_bool, one_str, one_sim, one_snil, one_fn, Int.toNat_natCast, Nat.zero_add, Int.toNat_zero, natCast_fold, Int.ofNat_eq_natCast, isB_bool, beq_self_eq_true, dIsAgg_agg, bel_d, bel7_d, bel_aggd, List.all_cons, List.all_nil, Bool.and_self, Bool.and_true, Bool.true_and, dlV_enc, enc_cells, lst_encO, isSl_encO, one_encO, lst_encS, isSl_encS, one_encS, isAgg_enc, toV_enc, isV_enc, toVs_enc, isVs_enc, toSs_enc, isSs_enc, h46n, encM, e3]
        have hn : v.items.drop i = [] := List.drop_eq_nil_of_le (by omega)
        simp [hlt, hE, hi2, hn, fitL]
open Classical in
noncomputable def h46 : HEnt := {
  f := 46
  es := 1
  ty := 78
  ok x ds := match x, ds with
    | .agg [.int .i64 n], [v, .int .i64 d] => decide (isV v ∧ (0 ≤ n ∧ n ≤ 1048576) ∧ 0 ≤ d ∧ d ≤ 1048576)
    | _, _ => false
  res x ds := match x, ds with
    | .agg [.int .i64 n], [v, .int .i64 d] => .bool (fitV (toV v) d n).2
    | _, _ => .inil
  out x ds := match x, ds with
    | .agg [.int .i64 n], [v, .int .i64 d] => encM (fitV (toV v) d n).1
    | _, _ => .inil }
open Classical in
theorem okh46 : HEntOk Tryz.prog [0] h46 := fun x ds hk => by
  unfold h46 at hk ⊢
  simp only at hk ⊢
  split at hk
  · rw [decide_eq_true_iff] at hk
    obtain ⟨⟨v, rfl, h1⟩, h3, h5, h6⟩ := hk
    simp only [toV_enc]
    exact pc46n (v.sz + 1) v _ _ h1 (by omega) h3 h5 h6
  · cases hk
theorem pc27 (v : V) (hv : v.ok) : PureCall Tryz.prog [0] 27 [v.enc] (dRet (.bool (smallV v 120))) := by
  have hf := (fit_siz v 8 120 (by omega)).1
  have hs : smallV v 120 = (fitV v 8 120).2 := by
    show (!(sizV v 8 (z0 120)).2) = _
    rw [hf]; simp
  rw [hs]
  refine pure_of_tree (H := shP [(46, 1, 78)] (sgOf [h46])) mixed fn27 (Nat.le_of_ble_eq_true rfl) (Nat.lt_of_succ_le (Nat.le_of_ble_eq_true rfl)) (sfOkH .nil (.cons okh46 .nil)) TbOk (lv := lv0) fun I F hI hF => ?_
  generalize hG : sgOf [h46] = G
  refine boxed fun C hC => ?_
  generalize hgen0 : v.enc = gen0
  cbv
  subst hgen0
  subst hC
  subst hG
  refine ⟨?_⟩
  simp only [hI, hF, std]
  simp only [ib_add, ib_sub, ib_mul, ib_eql, ib_neq, ib_lss, ib_leq, ib_gtr, ib_geq, sb_eql, sb_neq, sb_lss, sb_gtr, eqI_eq, ltI_eq, leI_eq, eqB_eq, isIK_int, isIK_ite, isStrD_ite, asInt_ite, sat_req, sat_ite, sat_ret, sat_back, aimF_q, aimR_q, into_q, into_bk, binV_add, binV_sub, binV_mul, binV_eql, binV_neq, binV_lss, binV_leq, binV_gtr, binV_geq, binV_seql, binV_sneq, bbinV_eql, bbinV_neq, unV_not, unV_neg, convV_int, asBool_ite, isBoolD_ite, isBUD_ite, grdD_ite, grdD_bool, grdD_tup, isBUD_tup, isBUD_bool, isBoolD_tup, isBoolD_bool, asBool_tup, asBool_bool, isIntD_int, isStrD_str, asInt_int, asStr_str, lstD_sim, lstD_snil, isSlD_sim, isSlD_snil, isSnil_sim, isSnil_snil, Option.isSome_some, Option.getD_some, true_and, and_true, ↓reduceIte, Nat.reduceEqDiff, reduceCtorEq, pick_or, pick_and, pick_or', pick_and', Bool.not_not, ite_bool, dlV_cell, cells_agg, cells_str, cells_int, cells_bool, cells_sim, cells_snil, List.getD_cons_zero, List.getD_cons_succ, beq_tt, beq_ft, ite_same, imp_true, lookOk, lookRes, sfOf, sgOf, hOk, hRes, hOut, aimP_q, one_int, one_bool, one_str, one_sim, one_snil, one_fn, Int.toNat_natCast, Nat.zero_add, Int.toNat_zero, natCast_fold, Int.ofNat_eq_natCast, isB_bool, beq_self_eq_true, dIsAgg_agg, bel_d, bel7_d, bel_aggd, List.all_cons, List.all_nil, Bool.and_self, Bool.and_true, Bool.true_and, dlV_enc, enc_cells, lst_encO, isSl_encO, one_encO, lst_encS, isSl_encS, one_encS, isAgg_enc, toV_enc, isV_enc, toVs_enc, isVs_enc, toSs_enc, isSs_enc, h46, encM]
  simp [hv, dlV_enc, enc_cells, lst_encO, isSl_encO, one_encO, lst_encS, isSl_encS, one_encS, isAgg_enc, toV_enc, isV_enc, toVs_enc, isVs_enc, toSs_enc, isSs_enc]
open Classical in
noncomputable def e27 : Ent := ⟨27, fun | [d_v] => decide (isV d_v) | _ => false, fun | [d_v] => .bool (smallV (toV d_v) 120) | _ => .inil⟩
open Classical in
theorem ok27 : EntOk Tryz.prog [0] e27 := fun ds h => by
  unfold e27 at h ⊢
  simp only at h ⊢
  split at h
  · rw [decide_eq_true_iff] at h
    obtain ⟨v0, rfl, k0⟩ := h
    simp only [toV_enc, toVs_enc, toSs_enc]
    exact pc27 _ k0
  · cases h
/-- The error of a value. -/
noncomputable def valE (v : V) : Int := if smallV v 120 then plainE v else 2
theorem pc10 (v : V) (hv : v.ok) : PureCall Tryz.prog [0] 10 [v.enc] (dRet (.int .i64 (valE v))) := by
  refine pure_of_tree mixed fn10 (Nat.le_of_ble_eq_true rfl) (Nat.lt_of_succ_le (Nat.le_of_ble_eq_true rfl)) (sfOk (.cons ok27 (.cons ok28 .nil))) TbOk (lv := lv0) fun I F hI hF => ?_
  refine boxed fun C hC => ?_
  generalize hgen0 : v.enc = gen0
  cbv
  subst hgen0
  subst hC
  refine ⟨?_⟩
  simp only [hI, hF, std]
  simp only [ib_add, ib_sub, ib_mul, ib_eql, ib_neq, ib_lss, ib_leq, ib_gtr, ib_geq, sb_eql, sb_neq, sb_lss, sb_gtr, eqI_eq, ltI_eq, leI_eq, eqB_eq, isIK_int, isIK_ite, isStrD_ite, asInt_ite, sat_req, sat_ite, sat_ret, sat_back, aimF_q, aimR_q, into_q, into_bk, binV_add, binV_sub, binV_mul, binV_eql, binV_neq, binV_lss, binV_leq, binV_gtr, binV_geq, binV_seql, binV_sneq, bbinV_eql, bbinV_neq, unV_not, unV_neg, convV_int, asBool_ite, isBoolD_ite, isBUD_ite, grdD_ite, grdD_bool, grdD_tup, isBUD_tup, isBUD_bool, isBoolD_tup, isBoolD_bool, asBool_tup, asBool_bool, isIntD_int, isStrD_str, asInt_int, asStr_str, lstD_sim, lstD_snil, isSlD_sim, isSlD_snil, isSnil_sim, isSnil_snil, Option.isSome_some, Option.getD_some, true_and, and_true, ↓reduceIte, Nat.reduceEqDiff, reduceCtorEq, pick_or, pick_and, pick_or', pick_and', Bool.not_not, ite_bool, dlV_cell, cells_agg, cells_str, cells_int, cells_bool, cells_sim, cells_snil, List.getD_cons_zero, List.getD_cons_succ, beq_tt, beq_ft, ite_same, imp_true, lookOk, lookRes, sfOf, sgOf, hOk, hRes, hOut, aimP_q, one_int, one_bool, one_str, one_sim, one_snil, one_fn, Int.toNat_natCast, Nat.zero_add, Int.toNat_zero, natCast_fold, Int.ofNat_eq_natCast, isB_bool, beq_self_eq_true, dIsAgg_agg, bel_d, bel7_d, bel_aggd, List.all_cons, List.all_nil, Bool.and_self, Bool.and_true, Bool.true_and, dlV_enc, enc_cells, lst_encO, isSl_encO, one_encO, lst_encS, isSl_encS, one_encS, isAgg_enc, toV_enc, isV_enc, toVs_enc, isVs_enc, toSs_enc, isSs_enc, e27, e28]
  simp [hv, dlV_enc, enc_cells, lst_encO, isSl_encO, one_encO, lst_encS, isSl_encS, one_encS, isAgg_enc, toV_enc, isV_enc, toVs_enc, isVs_enc, toSs_enc, isSs_enc, valE]
  cases smallV v 120 <;> simp
open Classical in
noncomputable def e10 : Ent := ⟨10, fun | [d_v] => decide (isV d_v) | _ => false, fun | [d_v] => .int .i64 (valE (toV d_v)) | _ => .inil⟩
open Classical in
theorem ok10 : EntOk Tryz.prog [0] e10 := fun ds h => by
  unfold e10 at h ⊢
  simp only at h ⊢
  split at h
  · rw [decide_eq_true_iff] at h
    obtain ⟨v0, rfl, k0⟩ := h
    simp only [toV_enc, toVs_enc, toSs_enc]
    exact pc10 _ k0
  · cases h
theorem pc31 (v : V) (hv : v.ok) : PureCall Tryz.prog [0] 31 [v.enc] (dRet (.int .i64 (valE v))) := by
  refine pure_of_tree mixed fn31 (Nat.le_of_ble_eq_true rfl) (Nat.lt_of_succ_le (Nat.le_of_ble_eq_true rfl)) (sfOk (.cons ok48 (.cons ok49 .nil))) TbOk (lv := lv0) fun I F hI hF => ?_
  refine boxed fun C hC => ?_
  generalize hgen0 : v.enc = gen0
  cbv
  subst hgen0
  subst hC
  refine ⟨?_⟩
  simp only [hI, hF, std]
  simp only [ib_add, ib_sub, ib_mul, ib_eql, ib_neq, ib_lss, ib_leq, ib_gtr, ib_geq, sb_eql, sb_neq, sb_lss, sb_gtr, eqI_eq, ltI_eq, leI_eq, eqB_eq, isIK_int, isIK_ite, isStrD_ite, asInt_ite, sat_req, sat_ite, sat_ret, sat_back, aimF_q, aimR_q, into_q, into_bk, binV_add, binV_sub, binV_mul, binV_eql, binV_neq, binV_lss, binV_leq, binV_gtr, binV_geq, binV_seql, binV_sneq, bbinV_eql, bbinV_neq, unV_not, unV_neg, convV_int, asBool_ite, isBoolD_ite, isBUD_ite, grdD_ite, grdD_bool, grdD_tup, isBUD_tup, isBUD_bool, isBoolD_tup, isBoolD_bool, asBool_tup, asBool_bool, isIntD_int, isStrD_str, asInt_int, asStr_str, lstD_sim, lstD_snil, isSlD_sim, isSlD_snil, isSnil_sim, isSnil_snil, Option.isSome_some, Option.getD_some, true_and, and_true, ↓reduceIte, Nat.reduceEqDiff, reduceCtorEq, pick_or, pick_and, pick_or', pick_and', Bool.not_not, ite_bool, dlV_cell, cells_agg, cells_str, cells_int, cells_bool, cells_sim, cells_snil, List.getD_cons_zero, List.getD_cons_succ, beq_tt, beq_ft, ite_same, imp_true, lookOk, lookRes, sfOf, sgOf, hOk, hRes, hOut, aimP_q, one_int, one_bool, one_str, one_sim, one_snil, one_fn, Int.toNat_natCast, Nat.zero_add, Int.toNat_zero, natCast_fold, Int.ofNat_eq_natCast, isB_bool, beq_self_eq_true, dIsAgg_agg, bel_d, bel7_d, bel_aggd, List.all_cons, List.all_nil, Bool.and_self, Bool.and_true, Bool.true_and, dlV_enc, enc_cells, lst_encO, isSl_encO, one_encO, lst_encS, isSl_encS, one_encS, isAgg_enc, toV_enc, isV_enc, toVs_enc, isVs_enc, toSs_enc, isSs_enc, e48, e49]
  simp [hv, dlV_enc, enc_cells, lst_encO, isSl_encO, one_encO, lst_encS, isSl_encS, one_encS, isAgg_enc, toV_enc, isV_enc, toVs_enc, isVs_enc, toSs_enc, isSs_enc, valE]
  cases smallV v 120 <;> simp
open Classical in
noncomputable def e31 : Ent := ⟨31, fun | [d_v] => decide (isV d_v) | _ => false, fun | [d_v] => .int .i64 (valE (toV d_v)) | _ => .inil⟩
open Classical in
theorem ok31 : EntOk Tryz.prog [0] e31 := fun ds h => by
  unfold e31 at h ⊢
  simp only at h ⊢
  split at h
  · rw [decide_eq_true_iff] at h
    obtain ⟨v0, rfl, k0⟩ := h
    simp only [toV_enc, toVs_enc, toSs_enc]
    exact pc31 _ k0
  · cases h
theorem pc12 (v : V) (hv : v.ok) : PureCall Tryz.prog [0] 12 [v.enc] (dRet (.int .i64 (valE v))) := by
  refine pure_of_tree mixed fn12 (Nat.le_of_ble_eq_true rfl) (Nat.lt_of_succ_le (Nat.le_of_ble_eq_true rfl)) (sfOk (.cons ok31 .nil)) TbOk (lv := lv0) fun I F hI hF => ?_
  refine boxed fun C hC => ?_
  generalize hgen0 : v.enc = gen0
  cbv
  subst hgen0
  subst hC
  refine ⟨?_⟩
  simp only [hI, hF, std]
  simp only [ib_add, ib_sub, ib_mul, ib_eql, ib_neq, ib_lss, ib_leq, ib_gtr, ib_geq, sb_eql, sb_neq, sb_lss, sb_gtr, eqI_eq, ltI_eq, leI_eq, eqB_eq, isIK_int, isIK_ite, isStrD_ite, asInt_ite, sat_req, sat_ite, sat_ret, sat_back, aimF_q, aimR_q, into_q, into_bk, binV_add, binV_sub, binV_mul, binV_eql, binV_neq, binV_lss, binV_leq, binV_gtr, binV_geq, binV_seql, binV_sneq, bbinV_eql, bbinV_neq, unV_not, unV_neg, convV_int, asBool_ite, isBoolD_ite, isBUD_ite, grdD_ite, grdD_bool, grdD_tup, isBUD_tup, isBUD_bool, isBoolD_tup, isBoolD_bool, asBool_tup, asBool_bool, isIntD_int, isStrD_str, asInt_int, asStr_str, lstD_sim, lstD_snil, isSlD_sim, isSlD_snil, isSnil_sim, isSnil_snil, Option.isSome_some, Option.getD_some, true_and, and_true, ↓reduceIte, Nat.reduceEqDiff, reduceCtorEq, pick_or, pick_and, pick_or', pick_and', Bool.not_not, ite_bool, dlV_cell, cells_agg, cells_str, cells_int, cells_bool, cells_sim, cells_snil, List.getD_cons_zero, List.getD_cons_succ, beq_tt, beq_ft, ite_same, imp_true, lookOk, lookRes, sfOf, sgOf, hOk, hRes, hOut, aimP_q, one_int, one_bool, one_str, one_sim, one_snil, one_fn, Int.toNat_natCast, Nat.zero_add, Int.toNat_zero, natCast_fold, Int.ofNat_eq_natCast, isB_bool, beq_self_eq_true, dIsAgg_agg, bel_d, bel7_d, bel_aggd, List.all_cons, List.all_nil, Bool.and_self, Bool.and_true, Bool.true_and, dlV_enc, enc_cells, lst_encO, isSl_encO, one_encO, lst_encS, isSl_encS, one_encS, isAgg_enc, toV_enc, isV_enc, toVs_enc, isVs_enc, toSs_enc, isSs_enc, e31]
  simp [hv, dlV_enc, enc_cells, lst_encO, isSl_encO, one_encO, lst_encS, isSl_encS, one_encS, isAgg_enc, toV_enc, isV_enc, toVs_enc, isVs_enc, toSs_enc, isSs_enc, valE]
open Classical in
noncomputable def e12 : Ent := ⟨12, fun | [d_v] => decide (isV d_v) | _ => false, fun | [d_v] => .int .i64 (valE (toV d_v)) | _ => .inil⟩
open Classical in
theorem ok12 : EntOk Tryz.prog [0] e12 := fun ds h => by
  unfold e12 at h ⊢
  simp only at h ⊢
  split at h
  · rw [decide_eq_true_iff] at h
    obtain ⟨v0, rfl, k0⟩ := h
    simp only [toV_enc, toVs_enc, toSs_enc]
    exact pc12 _ k0
  · cases h
end Go.Proofs.Sx
