/- The errors of a value, by the program. -/
import Derived.Test.YtmjkaekhjmlnbaaGreatDoorSx8
import Derived.Test.YtmjkaekhjmlnbaaGreatDoorSxBase
import Derived.Test.YtmjkaekhjmlnbaaGreatDoorAmPtr
set_option linter.unusedVariables false
set_option linter.unusedSimpArgs false
set_option maxRecDepth 100000
namespace Go.Proofs.Sx
open Go Go.Proofs Go.Proofs.Am 
variable {gs : List Nat}

def lv47 : Nat → List Nat × List Nat
  | 25 => ([1, 3, 130, 131, 132], [0, 1])
  | _ => ([], [])
theorem shape_form {k : Int} (h : (1 ≤ k ∧ k ≤ 6) ∨ (9 ≤ k ∧ k ≤ 12) ∨ k = 14) : ∃ lo hi t n i m o ins, shapeK k = shapeD lo hi t n i m o (decide (k = 11)) ins true := by
  have hk : k = 1 ∨ k = 2 ∨ k = 3 ∨ k = 4 ∨ k = 5 ∨ k = 6 ∨ k = 9 ∨ k = 10 ∨ k = 11 ∨ k = 12 ∨ k = 14 := by omega
  rcases hk with h | h | h | h | h | h | h | h | h | h | h <;> subst h <;> exact ⟨_, _, _, _, _, _, _, _, rfl⟩
theorem idxN_names (l : List ByteArray) : (0 ≤ idxN l) ↔ ¬ NamesP l := by
  rw [idxN_iff]
  constructor
  · intro h hn
    apply h
    intro x hx
    obtain ⟨i, hi, rfl⟩ := List.getElem_of_mem hx
    have := hn i hi
    simpa [List.getD, List.getElem?_eq_getElem hi] using this
  · intro h hn
    apply h
    intro i hi
    apply hn
    simp [List.getD, List.getElem?_eq_getElem hi]
theorem idxN_lt (l : List ByteArray) : (idxN l < 0) ↔ NamesP l := by
  have := idxN_names l
  constructor
  · intro h; exact Classical.byContradiction fun hn => by have := this.2 hn; omega
  · intro h; exact Classical.byContradiction fun hn => this.1 (by omega) h
theorem slD_encS (o : Option (List ByteArray)) (i : Nat) : slD (encS o) none (some (.int .i64 (i : Int))) = encS (o.map (·.take i)) := by
  cases o with
  | none => rfl
  | some l =>
    simp only [slD, encS, isSnil_sim, if_false, Option.map, lstD_sim]
    show DV.sim _ = _
    simp [loN, hiN]
    rfl
theorem intO_none : intO none = true := rfl
theorem intO_int (k : IntKind) (i : Int) : intO (some (.int k i)) = true := rfl
theorem loN_none : loN none = 0 := rfl
theorem hiN_int (n : Nat) (k : IntKind) (i : Int) : hiN n (some (.int k i)) = i := rfl
theorem cells_one (s : ByteArray) : (DV.str s).cells = [.str s] := rfl
theorem okS0_take {o : Option (List ByteArray)} (h : okS0 o) (i : Nat) : okS0 (o.map (·.take i)) := by
  cases o with
  | none => exact h
  | some l =>
    refine ⟨Nat.le_trans ?_ h.1, fun x hx => h.2 x ?_⟩
    · simp; omega
    · simp only [Option.map, Option.getD_some] at hx ⊢; exact List.mem_of_mem_take hx
theorem getD_take (o : Option (List ByteArray)) (i : Nat) : (o.map (·.take i)).getD [] = (o.getD []).take i := by
  cases o <;> simp
/-- The first place in the first i ones. -/
theorem idxS_take : ∀ {l : List ByteArray} {s : ByteArray} {i : Nat}, i ≤ l.length → (0 ≤ idxS (l.take i) s ↔ ∃ j, j < i ∧ l.getD j ⟨#[]⟩ = s)
  | [], s, i, h => by simp at h; subst h; simp [idxS]
  | x :: l, s, 0, h => by simp [idxS]
  | x :: l, s, i + 1, h => by
    have ih := idxS_take (l := l) (s := s) (i := i) (by simpa using h)
    have hge := idxS_ge (l.take i) s
    simp only [List.take_succ_cons, idxS]
    constructor
    · intro h1
      by_cases hx : x = s
      · exact ⟨0, by omega, by simpa using hx⟩
      · rw [if_neg hx] at h1
        obtain ⟨j, a, b⟩ := ih.1 (by split at h1 <;> omega)
        exact ⟨j + 1, by omega, by simpa using b⟩
    · rintro ⟨j, a, b⟩
      split
      · omega
      cases j with
      | zero => simp at b; contradiction
      | succ j =>
        have := ih.2 ⟨j, by omega, by simpa using b⟩
        rw [if_neg (by omega)]; omega
set_option maxHeartbeats 8000000 in
theorem pc47 (v : V) (hv : v.ok) : PureCall Tryz.prog [0] 47 [v.enc] (dRet (.int .i64 (ownE v))) := by
  refine pure_of_tree mixed fn47 (Nat.le_of_ble_eq_true rfl) (Nat.lt_of_succ_le (Nat.le_of_ble_eq_true rfl)) (sfOk (.cons ok62 (.cons ok63 (.cons ok21 (.cons ok64 (.cons ok66 (.cons ok67 .nil))))))) TbOk (lv := lv47) fun I F hI hF => ?_
  refine boxed fun C hC => ?_
  generalize hgen0 : v.enc = gen0
  cbv
  subst hgen0
  subst hC
  refine ⟨?_⟩
  simp only [hI, hF, std]
  have e1 : v.nm.getD [] = v.names := rfl
  have e3 : v.it.getD [] = v.items := rfl
  simp only [ib_add, ib_sub, ib_mul, ib_eql, ib_neq, ib_lss, ib_leq, ib_gtr, ib_geq, sb_eql, sb_neq, sb_lss, sb_gtr, eqI_eq, ltI_eq, leI_eq, eqB_eq, isIK_int, isIK_ite, isStrD_ite, asInt_ite, sat_req, sat_ite, sat_ret, sat_back, aimF_q, aimR_q, into_q, into_bk, binV_add, binV_sub, binV_mul, binV_eql, binV_neq, binV_lss, binV_leq, binV_gtr, binV_geq, binV_seql, binV_sneq, bbinV_eql, bbinV_neq, unV_not, unV_neg, convV_int, asBool_ite, isBoolD_ite, isBUD_ite, grdD_ite, grdD_bool, grdD_tup, isBUD_tup, isBUD_bool, isBoolD_tup, isBoolD_bool, asBool_tup, asBool_bool, isIntD_int, isStrD_str, asInt_int, asStr_str, lstD_sim, lstD_snil, isSlD_sim, isSlD_snil, isSnil_sim, isSnil_snil, Option.isSome_some, Option.getD_some, true_and, and_true, ↓reduceIte, Nat.reduceEqDiff, reduceCtorEq, pick_or, pick_and, pick_or', pick_and', Bool.not_not, ite_bool, dlV_cell, cells_agg, cells_str, cells_int, cells_bool, cells_sim, cells_snil, List.getD_cons_zero, List.getD_cons_succ, beq_tt, beq_ft, ite_same, imp_true, lookOk, lookRes, sfOf, sgOf, hOk, hRes, hOut, aimP_q, one_int, one_bool, one_str, one_sim, one_snil, one_fn, Int.toNat_natCast, Nat.zero_add, Int.toNat_zero, natCast_fold, Int.ofNat_eq_natCast, isB_bool, beq_self_eq_true, dIsAgg_agg, bel_d, bel7_d, bel_aggd, List.all_cons, List.all_nil, Bool.and_self, Bool.and_true, Bool.true_and, dlV_enc, enc_cells, lst_encO, isSl_encO, one_encO, lst_encS, isSl_encS, one_encS, isAgg_enc, toV_enc, isV_enc, toVs_enc, isVs_enc, toSs_enc, isSs_enc, e62, e63, e21, e64, e66, e67]
  generalize hL : Sat Tryz.prog [0] _ (Tree.loop _ _ _ _ _ _ _) = L
  have loops : Good v → NamesP v.names → L := by
    intro hg hN
    rw [← hL]
    clear hL
    obtain ⟨o1, o2, o3, o4⟩ := ownE_good hg
    have nl := V.ok_nl hv
    have il := V.ok_il hv
    obtain ⟨lo, hi, t, n, i0, m, o, ins, hs⟩ := shape_form hg.kind
    rw [hs, shapeD]
    simp only [tupD_tup, List.getD_cons_zero]
    clear hs e1
    refine loop_rule (kend := fun I => kEndF I Tb [.tmp 2]) hI hF (sfOk (.cons ok62 (.cons ok63 (.cons ok21 (.cons ok64 (.cons ok66 (.cons ok67 .nil))))))) TbOk (by exact fun Bk e s h => endF TbOk Bk e s h) (lv := lv47) 0 (fun i : {i : Nat // i ≤ v.names.length ∧ ∀ a b, a < i → b < a → v.names.getD b ⟨#[]⟩ ≠ v.names.getD a ⟨#[]⟩} => [.loc 0 6 0 0, .loc 1 9 0 0, .d (encS v.nm), .d (.int .i64 (v.names.length : Int)), .d (.int .i64 (i.1 : Int))]) (fun i : {i : Nat // i ≤ v.names.length ∧ ∀ a b, a < i → b < a → v.names.getD b ⟨#[]⟩ ≠ v.names.getD a ⟨#[]⟩} => [(0, some ⟨[.d v.enc], 6, 25, true, true⟩), (1, some ⟨[.d (.agg [.int .i64 lo, .int .i64 hi, .bool t, .bool n, .bool i0, .int .i64 m, .bool o, .bool (decide (v.k = 11)), .bool ins])], 9, 94, true, true⟩)]) (fun i : {i : Nat // i ≤ v.names.length ∧ ∀ a b, a < i → b < a → v.names.getD b ⟨#[]⟩ ≠ v.names.getD a ⟨#[]⟩} => v.names.length - i.1) [0, 1] (⟨0, by omega, fun a b h => by omega⟩ : {i : Nat // i ≤ v.names.length ∧ ∀ a b, a < i → b < a → v.names.getD b ⟨#[]⟩ ≠ v.names.getD a ⟨#[]⟩}) (by rfl) (by rfl) ?_ ?_ fun i => ?_
    · simp [V.names]
    · rfl
    obtain ⟨i, hi1, hi2⟩ := i
    refine boxed fun C hC => ?_
    generalize hgen0 : v.enc = gen0
    generalize hgen1 : encS v.nm = gen1
    generalize hgen2 : DV.int .i64 (v.names.length : Int) = gen2
    generalize hgen3 : DV.int .i64 (i : Int) = gen3
    generalize hgen4 : DV.int .i64 lo = gen4
    generalize hgen5 : DV.int .i64 hi = gen5
    generalize hgen6 : DV.bool t = gen6
    generalize hgen7 : DV.bool n = gen7
    generalize hgen8 : DV.bool i0 = gen8
    generalize hgen9 : DV.int .i64 m = gen9
    generalize hgen10 : DV.bool o = gen10
    generalize hgen11 : DV.bool ins = gen11
    generalize hgen12 : DV.bool (decide (v.k = 11)) = gen12
    cbv
    subst hgen0
    subst hgen1
    subst hgen2
    subst hgen3
    subst hgen4
    subst hgen5
    subst hgen6
    subst hgen7
    subst hgen8
    subst hgen9
    subst hgen10
    subst hgen11
    subst hgen12
    subst hC
    refine ⟨?_⟩
    simp only [hI, hF, std]
    have w3 := wrap_succ (n := i) (by omega)
    have hok : okS0 v.nm := V.ok_nm hv
    have hoi : okO v.it := V.ok_it hv
    by_cases hlt : i < v.names.length
    · have g1 := get_str _ _ hlt
      have e2 : v.nm.getD [] = v.names := rfl
      simp only [ib_add, ib_sub, ib_mul, ib_eql, ib_neq, ib_lss, ib_leq, ib_gtr, ib_geq, sb_eql, sb_neq, sb_lss, sb_gtr, eqI_eq, ltI_eq, leI_eq, eqB_eq, isIK_int, isIK_ite, isStrD_ite, asInt_ite, sat_req, sat_ite, sat_ret, sat_back, aimF_q, aimR_q, into_q, into_bk, binV_add, binV_sub, binV_mul, binV_eql, binV_neq, binV_lss, binV_leq, binV_gtr, binV_geq, binV_seql, binV_sneq, bbinV_eql, bbinV_neq, unV_not, unV_neg, convV_int, asBool_ite, isBoolD_ite, isBUD_ite, grdD_ite, grdD_bool, grdD_tup, isBUD_tup, isBUD_bool, isBoolD_tup, isBoolD_bool, asBool_tup, asBool_bool, isIntD_int, isStrD_str, asInt_int, asStr_str, lstD_sim, lstD_snil, isSlD_sim, isSlD_snil, isSnil_sim, isSnil_snil, Option.isSome_some, Option.getD_some, true_and, and_true, ↓reduceIte, Nat.reduceEqDiff, reduceCtorEq, pick_or, pick_and, pick_or', pick_and', Bool.not_not, ite_bool, dlV_cell, cells_agg, cells_str, cells_int, cells_bool, cells_sim, cells_snil, List.getD_cons_zero, List.getD_cons_succ, beq_tt, beq_ft, ite_same, imp_true, lookOk, lookRes, sfOf, sgOf, hOk, hRes, hOut, aimP_q, one_int, one_bool, one_str, one_sim, one_snil, one_fn, Int.toNat_natCast, Nat.zero_add, Int.toNat_zero, natCast_fold, Int.ofNat_eq_natCast, isB_bool, beq_self_eq_true, dIsAgg_agg, bel_d, bel7_d, bel_aggd, List.all_cons, List.all_nil, Bool.and_self, Bool.and_true, Bool.true_and, dlV_enc, enc_cells, lst_encO, isSl_encO, one_encO, lst_encS, isSl_encS, one_encS, isAgg_enc, toV_enc, isV_enc, toVs_enc, isVs_enc, toSs_enc, isSs_enc, e62, e63, e21, e64, e66, e67, slD_encS, e2, g1, cells_one, intO_none, intO_int, loN_none, hiN_int]
      have hx := idxS_take (s := v.names.getD i ⟨#[]⟩) (i := i) (Nat.le_of_lt hlt)
      simp [hlt, w3, - List.getD_eq_getElem?_getD, hok, dlV_enc, enc_cells, lst_encO, isSl_encO, one_encO, lst_encS, isSl_encS, one_encS, isAgg_enc, toV_enc, isV_enc, toVs_enc, isVs_enc, toSs_enc, isSs_enc, okS0_take hok, getD_take, e2]
      refine ⟨⟨fun x _ => rfl, by omega⟩, fun h => (o2 hN ?_).symm, fun h => ⟨i + 1, by omega, ⟨by omega, fun a b ha hb => ?_⟩, by simp⟩⟩
      · obtain ⟨j, a, b⟩ := hx.1 h
        exact ⟨i, j, a, hlt, b⟩
      · by_cases hai : a = i
        · subst hai
          intro he
          have := hx.2 ⟨b, hb, he⟩
          clear w3; omega
        · exact hi2 a b (by clear w3; omega) hb
    · simp only [ib_add, ib_sub, ib_mul, ib_eql, ib_neq, ib_lss, ib_leq, ib_gtr, ib_geq, sb_eql, sb_neq, sb_lss, sb_gtr, eqI_eq, ltI_eq, leI_eq, eqB_eq, isIK_int, isIK_ite, isStrD_ite, asInt_ite, sat_req, sat_ite, sat_ret, sat_back, aimF_q, aimR_q, into_q, into_bk, binV_add, binV_sub, binV_mul, binV_eql, binV_neq, binV_lss, binV_leq, binV_gtr, binV_geq, binV_seql, binV_sneq, bbinV_eql, bbinV_neq, unV_not, unV_neg, convV_int, asBool_ite, isBoolD_ite, isBUD_ite, grdD_ite, grdD_bool, grdD_tup, isBUD_tup, isBUD_bool, isBoolD_tup, isBoolD_bool, asBool_tup, asBool_bool, isIntD_int, isStrD_str, asInt_int, asStr_str, lstD_sim, lstD_snil, isSlD_sim, isSlD_snil, isSnil_sim, isSnil_snil, Option.isSome_some, Option.getD_some, true_and, and_true, ↓reduceIte, Nat.reduceEqDiff, reduceCtorEq, pick_or, pick_and, pick_or', pick_and', Bool.not_not, ite_bool, dlV_cell, cells_agg, cells_str, cells_int, cells_bool, cells_sim, cells_snil, List.getD_cons_zero, List.getD_cons_succ, beq_tt, beq_ft, ite_same, imp_true, lookOk, lookRes, sfOf, sgOf, hOk, hRes, hOut, aimP_q, one_int, one_bool, one_str, one_sim, one_snil, one_fn, Int.toNat_natCast, Nat.zero_add, Int.toNat_zero, natCast_fold, Int.ofNat_eq_natCast, isB_bool, beq_self_eq_true, dIsAgg_agg, bel_d, bel7_d, bel_aggd, List.all_cons, List.all_nil, Bool.and_self, Bool.and_true, Bool.true_and, dlV_enc, enc_cells, lst_encO, isSl_encO, one_encO, lst_encS, isSl_encS, one_encS, isAgg_enc, toV_enc, isV_enc, toVs_enc, isVs_enc, toSs_enc, isSs_enc, e62, e63, e21, e64, e66, e67]
      have hn : ¬ (i : Int) < v.names.length := by omega
      simp [hlt, hn, - List.getD_eq_getElem?_getD, dlV_enc, enc_cells, lst_encO, isSl_encO, one_encO, lst_encS, isSl_encS, one_encS, isAgg_enc, toV_enc, isV_enc, toVs_enc, isVs_enc, toSs_enc, isSs_enc, hoi, e3]
      have hdbl : ¬ DoubleP v.names := fun ⟨a, b, h1, h2, h3⟩ => hi2 a b (by omega) h1 h3
      refine ⟨fun a b => (o3 hN hdbl ⟨a, b⟩).symm, fun h => (o4 hN hdbl fun hc => ?_).symm⟩
      rw [h hc.1] at hc; cases hc.2
  have ngood : Good v → ¬ NamesP v.names → ownE v = 7 := fun h hn => (ownE_good h).1 hn
  clear hL
  by_cases c1 : ¬ ((1 ≤ v.k ∧ v.k ≤ 6) ∨ (9 ≤ v.k ∧ v.k ≤ 12) ∨ v.k = 14)
  · have hE : ownE v = 4 := by unfold ownE; rw [if_pos c1]
    have hs : shapeK v.k = shapeD 0 0 false false false 0 false false false false := by
      unfold shapeK
      repeat rw [if_neg (by omega)]
    rw [hs, shapeD]
    simp [dlV_enc, enc_cells, lst_encO, isSl_encO, one_encO, lst_encS, isSl_encS, one_encS, isAgg_enc, toV_enc, isV_enc, toVs_enc, isVs_enc, toSs_enc, isSs_enc, hE, tupD_tup, dIsAgg_agg, isB_bool, cells_agg, asBool_bool, one_int, one_bool]
    rfl
  have hk : v.k = 1 ∨ v.k = 2 ∨ v.k = 3 ∨ v.k = 4 ∨ v.k = 5 ∨ v.k = 6 ∨ v.k = 9 ∨ v.k = 10 ∨ v.k = 11 ∨ v.k = 12 ∨ v.k = 14 := by omega
  have hE : ownE v = ownE v := rfl
  conv at hE => rhs; unfold ownE
  rw [if_neg c1] at hE
  have gd : (¬ (v.e ≠ 0 ∨ (¬(v.k = 1 ∨ v.k = 2 ∨ v.k = 14) ∧ v.n ≠ 0) ∨ (¬(3 ≤ v.k ∧ v.k ≤ 6) ∧ v.s ≠ ⟨#[]⟩) ∨ (¬(v.k = 9 ∨ v.k = 12) ∧ v.names ≠ []) ∨ (¬(9 ≤ v.k ∧ v.k ≤ 12) ∧ v.items ≠ []))) →
    ¬ ((v.k = 1 ∧ ¬(0 ≤ v.n ∧ v.n ≤ 1)) ∨ (v.k = 14 ∧ ¬(0 ≤ v.n ∧ v.n ≤ 4))) →
    ¬ (((v.k = 9 ∨ v.k = 12) ∧ (v.names.length : Int) ≠ v.items.length) ∨ (v.k = 12 ∧ (v.items.length : Int) ≠ 1)) →
    ¬ ((v.s.size : Int) > 200 ∨ (v.k = 9 ∧ (v.items.length : Int) > 16) ∨ (v.items.length : Int) > 40) →
    ¬ ((v.k = 2 ∧ ¬(-1152921504606846976 ≤ v.n ∧ v.n ≤ 1152921504606846976)) ∨ charsOk v = false) →
    ¬ (v.k = 3 ∧ nameOk v.s = false) → (NamesP v.names → L) := fun a b c d e f => loops ⟨Classical.not_not.1 c1, a, b, c, d, e, f⟩
  clear loops ngood
  rcases hk with h | h | h | h | h | h | h | h | h | h | h
  · have hs : shapeK v.k = shapeD 0 1 false false false 0 false false false true := by rw [h]; rfl
    rw [hs, shapeD]
    clear hs
    simp only [dlV_enc, enc_cells, lst_encO, isSl_encO, one_encO, lst_encS, isSl_encS, one_encS, isAgg_enc, toV_enc, isV_enc, toVs_enc, isVs_enc, toSs_enc, isSs_enc, tupD_tup, dIsAgg_agg, isB_bool, cells_agg, asBool_bool, one_int, one_bool, ib_add, ib_sub, ib_mul, ib_eql, ib_neq, ib_lss, ib_leq, ib_gtr, ib_geq, sb_eql, sb_neq, sb_lss, sb_gtr, eqI_eq, ltI_eq, leI_eq, eqB_eq, isIK_int, isIK_ite, isStrD_ite, asInt_ite, sat_req, sat_ite, sat_ret, sat_back, aimF_q, aimR_q, into_q, into_bk, binV_add, binV_sub, binV_mul, binV_eql, binV_neq, binV_lss, binV_leq, binV_gtr, binV_geq, binV_seql, binV_sneq, bbinV_eql, bbinV_neq, unV_not, unV_neg, convV_int, asBool_ite, isBoolD_ite, isBUD_ite, grdD_ite, grdD_bool, grdD_tup, isBUD_tup, isBUD_bool, isBoolD_tup, isBoolD_bool, asBool_tup, asBool_bool, isIntD_int, isStrD_str, asInt_int, asStr_str, lstD_sim, lstD_snil, isSlD_sim, isSlD_snil, isSnil_sim, isSnil_snil, Option.isSome_some, Option.getD_some, true_and, and_true, ↓reduceIte, Nat.reduceEqDiff, reduceCtorEq, pick_or, pick_and, pick_or', pick_and', Bool.not_not, ite_bool, dlV_cell, cells_agg, cells_str, cells_int, cells_bool, cells_sim, cells_snil, List.getD_cons_zero, List.getD_cons_succ, beq_tt, beq_ft, ite_same, imp_true, lookOk, lookRes, sfOf, sgOf, hOk, hRes, hOut, aimP_q, one_int, one_bool, one_str, one_sim, one_snil, one_fn, Int.toNat_natCast, Nat.zero_add, Int.toNat_zero, natCast_fold, Int.ofNat_eq_natCast, isB_bool, beq_self_eq_true, dIsAgg_agg, bel_d, bel7_d, bel_aggd, List.all_cons, List.all_nil, Bool.and_self, Bool.and_true, Bool.true_and, e1, e3]
    simp [h] at hE gd ⊢
    simp only [isV_enc, hv, V.ok_s hv, V.ok_nm hv, V.ok_it hv, isSs_enc, isVs_enc, implies_true, and_true, true_and, idxN_names, idxN_lt, e1, e3]
    have hd : ∀ b, isBoolD (DV.bool b) = true := fun _ => rfl
    try simp only [hd, implies_true, and_true, true_and]
    clear hI hF hv c1 e1 e3 hd
    have ln : 0 < v.names.length ↔ ¬ v.names = [] := List.length_pos_iff
    have li : 0 < v.items.length ↔ ¬ v.items = [] := List.length_pos_iff
    try simp only [ln, li]
    clear ln li
    have lz : v.items = [] → ((v.items.length : Nat) : Int) = 0 := fun h => by rw [h]; rfl
    have nz : v.names = [] → ((v.names.length : Nat) : Int) = 0 := fun h => by rw [h]; rfl
    have sz : v.s = ⟨#[]⟩ → ((v.s.size : Nat) : Int) = 0 := fun h => by rw [h]; rfl
    try simp only [h, Int.reduceEq, false_and, false_or] at hE
    try simp only [h, Int.reduceEq, false_and, false_or] at gd
    grind (splits := 30)
  · have hs : shapeK v.k = shapeD (-1152921504606846976) 1152921504606846976 false false false 0 false false true true := by rw [h]; rfl
    rw [hs, shapeD]
    clear hs
    simp only [dlV_enc, enc_cells, lst_encO, isSl_encO, one_encO, lst_encS, isSl_encS, one_encS, isAgg_enc, toV_enc, isV_enc, toVs_enc, isVs_enc, toSs_enc, isSs_enc, tupD_tup, dIsAgg_agg, isB_bool, cells_agg, asBool_bool, one_int, one_bool, ib_add, ib_sub, ib_mul, ib_eql, ib_neq, ib_lss, ib_leq, ib_gtr, ib_geq, sb_eql, sb_neq, sb_lss, sb_gtr, eqI_eq, ltI_eq, leI_eq, eqB_eq, isIK_int, isIK_ite, isStrD_ite, asInt_ite, sat_req, sat_ite, sat_ret, sat_back, aimF_q, aimR_q, into_q, into_bk, binV_add, binV_sub, binV_mul, binV_eql, binV_neq, binV_lss, binV_leq, binV_gtr, binV_geq, binV_seql, binV_sneq, bbinV_eql, bbinV_neq, unV_not, unV_neg, convV_int, asBool_ite, isBoolD_ite, isBUD_ite, grdD_ite, grdD_bool, grdD_tup, isBUD_tup, isBUD_bool, isBoolD_tup, isBoolD_bool, asBool_tup, asBool_bool, isIntD_int, isStrD_str, asInt_int, asStr_str, lstD_sim, lstD_snil, isSlD_sim, isSlD_snil, isSnil_sim, isSnil_snil, Option.isSome_some, Option.getD_some, true_and, and_true, ↓reduceIte, Nat.reduceEqDiff, reduceCtorEq, pick_or, pick_and, pick_or', pick_and', Bool.not_not, ite_bool, dlV_cell, cells_agg, cells_str, cells_int, cells_bool, cells_sim, cells_snil, List.getD_cons_zero, List.getD_cons_succ, beq_tt, beq_ft, ite_same, imp_true, lookOk, lookRes, sfOf, sgOf, hOk, hRes, hOut, aimP_q, one_int, one_bool, one_str, one_sim, one_snil, one_fn, Int.toNat_natCast, Nat.zero_add, Int.toNat_zero, natCast_fold, Int.ofNat_eq_natCast, isB_bool, beq_self_eq_true, dIsAgg_agg, bel_d, bel7_d, bel_aggd, List.all_cons, List.all_nil, Bool.and_self, Bool.and_true, Bool.true_and, e1, e3]
    simp [h] at hE gd ⊢
    simp only [isV_enc, hv, V.ok_s hv, V.ok_nm hv, V.ok_it hv, isSs_enc, isVs_enc, implies_true, and_true, true_and, idxN_names, idxN_lt, e1, e3]
    have hd : ∀ b, isBoolD (DV.bool b) = true := fun _ => rfl
    try simp only [hd, implies_true, and_true, true_and]
    clear hI hF hv c1 e1 e3 hd
    have ln : 0 < v.names.length ↔ ¬ v.names = [] := List.length_pos_iff
    have li : 0 < v.items.length ↔ ¬ v.items = [] := List.length_pos_iff
    try simp only [ln, li]
    clear ln li
    have lz : v.items = [] → ((v.items.length : Nat) : Int) = 0 := fun h => by rw [h]; rfl
    have nz : v.names = [] → ((v.names.length : Nat) : Int) = 0 := fun h => by rw [h]; rfl
    have sz : v.s = ⟨#[]⟩ → ((v.s.size : Nat) : Int) = 0 := fun h => by rw [h]; rfl
    try simp only [h, Int.reduceEq, false_and, false_or] at hE
    try simp only [h, Int.reduceEq, false_and, false_or] at gd
    grind (splits := 30)
  · have hs : shapeK v.k = shapeD 0 0 true false false 0 false false false true := by rw [h]; rfl
    rw [hs, shapeD]
    clear hs
    simp only [dlV_enc, enc_cells, lst_encO, isSl_encO, one_encO, lst_encS, isSl_encS, one_encS, isAgg_enc, toV_enc, isV_enc, toVs_enc, isVs_enc, toSs_enc, isSs_enc, tupD_tup, dIsAgg_agg, isB_bool, cells_agg, asBool_bool, one_int, one_bool, ib_add, ib_sub, ib_mul, ib_eql, ib_neq, ib_lss, ib_leq, ib_gtr, ib_geq, sb_eql, sb_neq, sb_lss, sb_gtr, eqI_eq, ltI_eq, leI_eq, eqB_eq, isIK_int, isIK_ite, isStrD_ite, asInt_ite, sat_req, sat_ite, sat_ret, sat_back, aimF_q, aimR_q, into_q, into_bk, binV_add, binV_sub, binV_mul, binV_eql, binV_neq, binV_lss, binV_leq, binV_gtr, binV_geq, binV_seql, binV_sneq, bbinV_eql, bbinV_neq, unV_not, unV_neg, convV_int, asBool_ite, isBoolD_ite, isBUD_ite, grdD_ite, grdD_bool, grdD_tup, isBUD_tup, isBUD_bool, isBoolD_tup, isBoolD_bool, asBool_tup, asBool_bool, isIntD_int, isStrD_str, asInt_int, asStr_str, lstD_sim, lstD_snil, isSlD_sim, isSlD_snil, isSnil_sim, isSnil_snil, Option.isSome_some, Option.getD_some, true_and, and_true, ↓reduceIte, Nat.reduceEqDiff, reduceCtorEq, pick_or, pick_and, pick_or', pick_and', Bool.not_not, ite_bool, dlV_cell, cells_agg, cells_str, cells_int, cells_bool, cells_sim, cells_snil, List.getD_cons_zero, List.getD_cons_succ, beq_tt, beq_ft, ite_same, imp_true, lookOk, lookRes, sfOf, sgOf, hOk, hRes, hOut, aimP_q, one_int, one_bool, one_str, one_sim, one_snil, one_fn, Int.toNat_natCast, Nat.zero_add, Int.toNat_zero, natCast_fold, Int.ofNat_eq_natCast, isB_bool, beq_self_eq_true, dIsAgg_agg, bel_d, bel7_d, bel_aggd, List.all_cons, List.all_nil, Bool.and_self, Bool.and_true, Bool.true_and, e1, e3]
    simp [h] at hE gd ⊢
    simp only [isV_enc, hv, V.ok_s hv, V.ok_nm hv, V.ok_it hv, isSs_enc, isVs_enc, implies_true, and_true, true_and, idxN_names, idxN_lt, e1, e3]
    have hd : ∀ b, isBoolD (DV.bool b) = true := fun _ => rfl
    try simp only [hd, implies_true, and_true, true_and]
    clear hI hF hv c1 e1 e3 hd
    have ln : 0 < v.names.length ↔ ¬ v.names = [] := List.length_pos_iff
    have li : 0 < v.items.length ↔ ¬ v.items = [] := List.length_pos_iff
    try simp only [ln, li]
    clear ln li
    have lz : v.items = [] → ((v.items.length : Nat) : Int) = 0 := fun h => by rw [h]; rfl
    have nz : v.names = [] → ((v.names.length : Nat) : Int) = 0 := fun h => by rw [h]; rfl
    have sz : v.s = ⟨#[]⟩ → ((v.s.size : Nat) : Int) = 0 := fun h => by rw [h]; rfl
    try simp only [h, Int.reduceEq, false_and, false_or] at hE
    try simp only [h, Int.reduceEq, false_and, false_or] at gd
    grind (splits := 30)
  · have hs : shapeK v.k = shapeD 0 0 true false false 0 false false false true := by rw [h]; rfl
    rw [hs, shapeD]
    clear hs
    simp only [dlV_enc, enc_cells, lst_encO, isSl_encO, one_encO, lst_encS, isSl_encS, one_encS, isAgg_enc, toV_enc, isV_enc, toVs_enc, isVs_enc, toSs_enc, isSs_enc, tupD_tup, dIsAgg_agg, isB_bool, cells_agg, asBool_bool, one_int, one_bool, ib_add, ib_sub, ib_mul, ib_eql, ib_neq, ib_lss, ib_leq, ib_gtr, ib_geq, sb_eql, sb_neq, sb_lss, sb_gtr, eqI_eq, ltI_eq, leI_eq, eqB_eq, isIK_int, isIK_ite, isStrD_ite, asInt_ite, sat_req, sat_ite, sat_ret, sat_back, aimF_q, aimR_q, into_q, into_bk, binV_add, binV_sub, binV_mul, binV_eql, binV_neq, binV_lss, binV_leq, binV_gtr, binV_geq, binV_seql, binV_sneq, bbinV_eql, bbinV_neq, unV_not, unV_neg, convV_int, asBool_ite, isBoolD_ite, isBUD_ite, grdD_ite, grdD_bool, grdD_tup, isBUD_tup, isBUD_bool, isBoolD_tup, isBoolD_bool, asBool_tup, asBool_bool, isIntD_int, isStrD_str, asInt_int, asStr_str, lstD_sim, lstD_snil, isSlD_sim, isSlD_snil, isSnil_sim, isSnil_snil, Option.isSome_some, Option.getD_some, true_and, and_true, ↓reduceIte, Nat.reduceEqDiff, reduceCtorEq, pick_or, pick_and, pick_or', pick_and', Bool.not_not, ite_bool, dlV_cell, cells_agg, cells_str, cells_int, cells_bool, cells_sim, cells_snil, List.getD_cons_zero, List.getD_cons_succ, beq_tt, beq_ft, ite_same, imp_true, lookOk, lookRes, sfOf, sgOf, hOk, hRes, hOut, aimP_q, one_int, one_bool, one_str, one_sim, one_snil, one_fn, Int.toNat_natCast, Nat.zero_add, Int.toNat_zero, natCast_fold, Int.ofNat_eq_natCast, isB_bool, beq_self_eq_true, dIsAgg_agg, bel_d, bel7_d, bel_aggd, List.all_cons, List.all_nil, Bool.and_self, Bool.and_true, Bool.true_and, e1, e3]
    simp [h] at hE gd ⊢
    simp only [isV_enc, hv, V.ok_s hv, V.ok_nm hv, V.ok_it hv, isSs_enc, isVs_enc, implies_true, and_true, true_and, idxN_names, idxN_lt, e1, e3]
    have hd : ∀ b, isBoolD (DV.bool b) = true := fun _ => rfl
    try simp only [hd, implies_true, and_true, true_and]
    clear hI hF hv c1 e1 e3 hd
    have ln : 0 < v.names.length ↔ ¬ v.names = [] := List.length_pos_iff
    have li : 0 < v.items.length ↔ ¬ v.items = [] := List.length_pos_iff
    try simp only [ln, li]
    clear ln li
    have lz : v.items = [] → ((v.items.length : Nat) : Int) = 0 := fun h => by rw [h]; rfl
    have nz : v.names = [] → ((v.names.length : Nat) : Int) = 0 := fun h => by rw [h]; rfl
    have sz : v.s = ⟨#[]⟩ → ((v.s.size : Nat) : Int) = 0 := fun h => by rw [h]; rfl
    try simp only [h, Int.reduceEq, false_and, false_or] at hE
    try simp only [h, Int.reduceEq, false_and, false_or] at gd
    grind (splits := 30)
  · have hs : shapeK v.k = shapeD 0 0 true false false 0 false false false true := by rw [h]; rfl
    rw [hs, shapeD]
    clear hs
    simp only [dlV_enc, enc_cells, lst_encO, isSl_encO, one_encO, lst_encS, isSl_encS, one_encS, isAgg_enc, toV_enc, isV_enc, toVs_enc, isVs_enc, toSs_enc, isSs_enc, tupD_tup, dIsAgg_agg, isB_bool, cells_agg, asBool_bool, one_int, one_bool, ib_add, ib_sub, ib_mul, ib_eql, ib_neq, ib_lss, ib_leq, ib_gtr, ib_geq, sb_eql, sb_neq, sb_lss, sb_gtr, eqI_eq, ltI_eq, leI_eq, eqB_eq, isIK_int, isIK_ite, isStrD_ite, asInt_ite, sat_req, sat_ite, sat_ret, sat_back, aimF_q, aimR_q, into_q, into_bk, binV_add, binV_sub, binV_mul, binV_eql, binV_neq, binV_lss, binV_leq, binV_gtr, binV_geq, binV_seql, binV_sneq, bbinV_eql, bbinV_neq, unV_not, unV_neg, convV_int, asBool_ite, isBoolD_ite, isBUD_ite, grdD_ite, grdD_bool, grdD_tup, isBUD_tup, isBUD_bool, isBoolD_tup, isBoolD_bool, asBool_tup, asBool_bool, isIntD_int, isStrD_str, asInt_int, asStr_str, lstD_sim, lstD_snil, isSlD_sim, isSlD_snil, isSnil_sim, isSnil_snil, Option.isSome_some, Option.getD_some, true_and, and_true, ↓reduceIte, Nat.reduceEqDiff, reduceCtorEq, pick_or, pick_and, pick_or', pick_and', Bool.not_not, ite_bool, dlV_cell, cells_agg, cells_str, cells_int, cells_bool, cells_sim, cells_snil, List.getD_cons_zero, List.getD_cons_succ, beq_tt, beq_ft, ite_same, imp_true, lookOk, lookRes, sfOf, sgOf, hOk, hRes, hOut, aimP_q, one_int, one_bool, one_str, one_sim, one_snil, one_fn, Int.toNat_natCast, Nat.zero_add, Int.toNat_zero, natCast_fold, Int.ofNat_eq_natCast, isB_bool, beq_self_eq_true, dIsAgg_agg, bel_d, bel7_d, bel_aggd, List.all_cons, List.all_nil, Bool.and_self, Bool.and_true, Bool.true_and, e1, e3]
    simp [h] at hE gd ⊢
    simp only [isV_enc, hv, V.ok_s hv, V.ok_nm hv, V.ok_it hv, isSs_enc, isVs_enc, implies_true, and_true, true_and, idxN_names, idxN_lt, e1, e3]
    have hd : ∀ b, isBoolD (DV.bool b) = true := fun _ => rfl
    try simp only [hd, implies_true, and_true, true_and]
    clear hI hF hv c1 e1 e3 hd
    have ln : 0 < v.names.length ↔ ¬ v.names = [] := List.length_pos_iff
    have li : 0 < v.items.length ↔ ¬ v.items = [] := List.length_pos_iff
    try simp only [ln, li]
    clear ln li
    have lz : v.items = [] → ((v.items.length : Nat) : Int) = 0 := fun h => by rw [h]; rfl
    have nz : v.names = [] → ((v.names.length : Nat) : Int) = 0 := fun h => by rw [h]; rfl
    have sz : v.s = ⟨#[]⟩ → ((v.s.size : Nat) : Int) = 0 := fun h => by rw [h]; rfl
    try simp only [h, Int.reduceEq, false_and, false_or] at hE
    try simp only [h, Int.reduceEq, false_and, false_or] at gd
    grind (splits := 30)
  · have hs : shapeK v.k = shapeD 0 0 true false false 0 false false false true := by rw [h]; rfl
    rw [hs, shapeD]
    clear hs
    simp only [dlV_enc, enc_cells, lst_encO, isSl_encO, one_encO, lst_encS, isSl_encS, one_encS, isAgg_enc, toV_enc, isV_enc, toVs_enc, isVs_enc, toSs_enc, isSs_enc, tupD_tup, dIsAgg_agg, isB_bool, cells_agg, asBool_bool, one_int, one_bool, ib_add, ib_sub, ib_mul, ib_eql, ib_neq, ib_lss, ib_leq, ib_gtr, ib_geq, sb_eql, sb_neq, sb_lss, sb_gtr, eqI_eq, ltI_eq, leI_eq, eqB_eq, isIK_int, isIK_ite, isStrD_ite, asInt_ite, sat_req, sat_ite, sat_ret, sat_back, aimF_q, aimR_q, into_q, into_bk, binV_add, binV_sub, binV_mul, binV_eql, binV_neq, binV_lss, binV_leq, binV_gtr, binV_geq, binV_seql, binV_sneq, bbinV_eql, bbinV_neq, unV_not, unV_neg, convV_int, asBool_ite, isBoolD_ite, isBUD_ite, grdD_ite, grdD_bool, grdD_tup, isBUD_tup, isBUD_bool, isBoolD_tup, isBoolD_bool, asBool_tup, asBool_bool, isIntD_int, isStrD_str, asInt_int, asStr_str, lstD_sim, lstD_snil, isSlD_sim, isSlD_snil, isSnil_sim, isSnil_snil, Option.isSome_some, Option.getD_some, true_and, and_true, ↓reduceIte, Nat.reduceEqDiff, reduceCtorEq, pick_or, pick_and, pick_or', pick_and', Bool.not_not, ite_bool, dlV_cell, cells_agg, cells_str, cells_int, cells_bool, cells_sim, cells_snil, List.getD_cons_zero, List.getD_cons_succ, beq_tt, beq_ft, ite_same, imp_true, lookOk, lookRes, sfOf, sgOf, hOk, hRes, hOut, aimP_q, one_int, one_bool, one_str, one_sim, one_snil, one_fn, Int.toNat_natCast, Nat.zero_add, Int.toNat_zero, natCast_fold, Int.ofNat_eq_natCast, isB_bool, beq_self_eq_true, dIsAgg_agg, bel_d, bel7_d, bel_aggd, List.all_cons, List.all_nil, Bool.and_self, Bool.and_true, Bool.true_and, e1, e3]
    simp [h] at hE gd ⊢
    simp only [isV_enc, hv, V.ok_s hv, V.ok_nm hv, V.ok_it hv, isSs_enc, isVs_enc, implies_true, and_true, true_and, idxN_names, idxN_lt, e1, e3]
    have hd : ∀ b, isBoolD (DV.bool b) = true := fun _ => rfl
    try simp only [hd, implies_true, and_true, true_and]
    clear hI hF hv c1 e1 e3 hd
    have ln : 0 < v.names.length ↔ ¬ v.names = [] := List.length_pos_iff
    have li : 0 < v.items.length ↔ ¬ v.items = [] := List.length_pos_iff
    try simp only [ln, li]
    clear ln li
    have lz : v.items = [] → ((v.items.length : Nat) : Int) = 0 := fun h => by rw [h]; rfl
    have nz : v.names = [] → ((v.names.length : Nat) : Int) = 0 := fun h => by rw [h]; rfl
    have sz : v.s = ⟨#[]⟩ → ((v.s.size : Nat) : Int) = 0 := fun h => by rw [h]; rfl
    try simp only [h, Int.reduceEq, false_and, false_or] at hE
    try simp only [h, Int.reduceEq, false_and, false_or] at gd
    grind (splits := 30)
  · have hs : shapeK v.k = shapeD 0 0 false true true 16 false false false true := by rw [h]; rfl
    rw [hs, shapeD]
    clear hs
    simp only [dlV_enc, enc_cells, lst_encO, isSl_encO, one_encO, lst_encS, isSl_encS, one_encS, isAgg_enc, toV_enc, isV_enc, toVs_enc, isVs_enc, toSs_enc, isSs_enc, tupD_tup, dIsAgg_agg, isB_bool, cells_agg, asBool_bool, one_int, one_bool, ib_add, ib_sub, ib_mul, ib_eql, ib_neq, ib_lss, ib_leq, ib_gtr, ib_geq, sb_eql, sb_neq, sb_lss, sb_gtr, eqI_eq, ltI_eq, leI_eq, eqB_eq, isIK_int, isIK_ite, isStrD_ite, asInt_ite, sat_req, sat_ite, sat_ret, sat_back, aimF_q, aimR_q, into_q, into_bk, binV_add, binV_sub, binV_mul, binV_eql, binV_neq, binV_lss, binV_leq, binV_gtr, binV_geq, binV_seql, binV_sneq, bbinV_eql, bbinV_neq, unV_not, unV_neg, convV_int, asBool_ite, isBoolD_ite, isBUD_ite, grdD_ite, grdD_bool, grdD_tup, isBUD_tup, isBUD_bool, isBoolD_tup, isBoolD_bool, asBool_tup, asBool_bool, isIntD_int, isStrD_str, asInt_int, asStr_str, lstD_sim, lstD_snil, isSlD_sim, isSlD_snil, isSnil_sim, isSnil_snil, Option.isSome_some, Option.getD_some, true_and, and_true, ↓reduceIte, Nat.reduceEqDiff, reduceCtorEq, pick_or, pick_and, pick_or', pick_and', Bool.not_not, ite_bool, dlV_cell, cells_agg, cells_str, cells_int, cells_bool, cells_sim, cells_snil, List.getD_cons_zero, List.getD_cons_succ, beq_tt, beq_ft, ite_same, imp_true, lookOk, lookRes, sfOf, sgOf, hOk, hRes, hOut, aimP_q, one_int, one_bool, one_str, one_sim, one_snil, one_fn, Int.toNat_natCast, Nat.zero_add, Int.toNat_zero, natCast_fold, Int.ofNat_eq_natCast, isB_bool, beq_self_eq_true, dIsAgg_agg, bel_d, bel7_d, bel_aggd, List.all_cons, List.all_nil, Bool.and_self, Bool.and_true, Bool.true_and, e1, e3]
    simp [h] at hE gd ⊢
    simp only [isV_enc, hv, V.ok_s hv, V.ok_nm hv, V.ok_it hv, isSs_enc, isVs_enc, implies_true, and_true, true_and, idxN_names, idxN_lt, e1, e3]
    have hd : ∀ b, isBoolD (DV.bool b) = true := fun _ => rfl
    try simp only [hd, implies_true, and_true, true_and]
    clear hI hF hv c1 e1 e3 hd
    have ln : 0 < v.names.length ↔ ¬ v.names = [] := List.length_pos_iff
    have li : 0 < v.items.length ↔ ¬ v.items = [] := List.length_pos_iff
    try simp only [ln, li]
    clear ln li
    have lz : v.items = [] → ((v.items.length : Nat) : Int) = 0 := fun h => by rw [h]; rfl
    have nz : v.names = [] → ((v.names.length : Nat) : Int) = 0 := fun h => by rw [h]; rfl
    have sz : v.s = ⟨#[]⟩ → ((v.s.size : Nat) : Int) = 0 := fun h => by rw [h]; rfl
    try simp only [h, Int.reduceEq, false_and, false_or] at hE
    try simp only [h, Int.reduceEq, false_and, false_or] at gd
    grind (splits := 30)
  · have hs : shapeK v.k = shapeD 0 0 false false true 40 false false false true := by rw [h]; rfl
    rw [hs, shapeD]
    clear hs
    simp only [dlV_enc, enc_cells, lst_encO, isSl_encO, one_encO, lst_encS, isSl_encS, one_encS, isAgg_enc, toV_enc, isV_enc, toVs_enc, isVs_enc, toSs_enc, isSs_enc, tupD_tup, dIsAgg_agg, isB_bool, cells_agg, asBool_bool, one_int, one_bool, ib_add, ib_sub, ib_mul, ib_eql, ib_neq, ib_lss, ib_leq, ib_gtr, ib_geq, sb_eql, sb_neq, sb_lss, sb_gtr, eqI_eq, ltI_eq, leI_eq, eqB_eq, isIK_int, isIK_ite, isStrD_ite, asInt_ite, sat_req, sat_ite, sat_ret, sat_back, aimF_q, aimR_q, into_q, into_bk, binV_add, binV_sub, binV_mul, binV_eql, binV_neq, binV_lss, binV_leq, binV_gtr, binV_geq, binV_seql, binV_sneq, bbinV_eql, bbinV_neq, unV_not, unV_neg, convV_int, asBool_ite, isBoolD_ite, isBUD_ite, grdD_ite, grdD_bool, grdD_tup, isBUD_tup, isBUD_bool, isBoolD_tup, isBoolD_bool, asBool_tup, asBool_bool, isIntD_int, isStrD_str, asInt_int, asStr_str, lstD_sim, lstD_snil, isSlD_sim, isSlD_snil, isSnil_sim, isSnil_snil, Option.isSome_some, Option.getD_some, true_and, and_true, ↓reduceIte, Nat.reduceEqDiff, reduceCtorEq, pick_or, pick_and, pick_or', pick_and', Bool.not_not, ite_bool, dlV_cell, cells_agg, cells_str, cells_int, cells_bool, cells_sim, cells_snil, List.getD_cons_zero, List.getD_cons_succ, beq_tt, beq_ft, ite_same, imp_true, lookOk, lookRes, sfOf, sgOf, hOk, hRes, hOut, aimP_q, one_int, one_bool, one_str, one_sim, one_snil, one_fn, Int.toNat_natCast, Nat.zero_add, Int.toNat_zero, natCast_fold, Int.ofNat_eq_natCast, isB_bool, beq_self_eq_true, dIsAgg_agg, bel_d, bel7_d, bel_aggd, List.all_cons, List.all_nil, Bool.and_self, Bool.and_true, Bool.true_and, e1, e3]
    simp [h] at hE gd ⊢
    simp only [isV_enc, hv, V.ok_s hv, V.ok_nm hv, V.ok_it hv, isSs_enc, isVs_enc, implies_true, and_true, true_and, idxN_names, idxN_lt, e1, e3]
    have hd : ∀ b, isBoolD (DV.bool b) = true := fun _ => rfl
    try simp only [hd, implies_true, and_true, true_and]
    clear hI hF hv c1 e1 e3 hd
    have ln : 0 < v.names.length ↔ ¬ v.names = [] := List.length_pos_iff
    have li : 0 < v.items.length ↔ ¬ v.items = [] := List.length_pos_iff
    try simp only [ln, li]
    clear ln li
    have lz : v.items = [] → ((v.items.length : Nat) : Int) = 0 := fun h => by rw [h]; rfl
    have nz : v.names = [] → ((v.names.length : Nat) : Int) = 0 := fun h => by rw [h]; rfl
    have sz : v.s = ⟨#[]⟩ → ((v.s.size : Nat) : Int) = 0 := fun h => by rw [h]; rfl
    try simp only [h, Int.reduceEq, false_and, false_or] at hE
    try simp only [h, Int.reduceEq, false_and, false_or] at gd
    grind (splits := 30)
  · have hs : shapeK v.k = shapeD 0 0 false false true 40 false true false true := by rw [h]; rfl
    rw [hs, shapeD]
    clear hs
    simp only [dlV_enc, enc_cells, lst_encO, isSl_encO, one_encO, lst_encS, isSl_encS, one_encS, isAgg_enc, toV_enc, isV_enc, toVs_enc, isVs_enc, toSs_enc, isSs_enc, tupD_tup, dIsAgg_agg, isB_bool, cells_agg, asBool_bool, one_int, one_bool, ib_add, ib_sub, ib_mul, ib_eql, ib_neq, ib_lss, ib_leq, ib_gtr, ib_geq, sb_eql, sb_neq, sb_lss, sb_gtr, eqI_eq, ltI_eq, leI_eq, eqB_eq, isIK_int, isIK_ite, isStrD_ite, asInt_ite, sat_req, sat_ite, sat_ret, sat_back, aimF_q, aimR_q, into_q, into_bk, binV_add, binV_sub, binV_mul, binV_eql, binV_neq, binV_lss, binV_leq, binV_gtr, binV_geq, binV_seql, binV_sneq, bbinV_eql, bbinV_neq, unV_not, unV_neg, convV_int, asBool_ite, isBoolD_ite, isBUD_ite, grdD_ite, grdD_bool, grdD_tup, isBUD_tup, isBUD_bool, isBoolD_tup, isBoolD_bool, asBool_tup, asBool_bool, isIntD_int, isStrD_str, asInt_int, asStr_str, lstD_sim, lstD_snil, isSlD_sim, isSlD_snil, isSnil_sim, isSnil_snil, Option.isSome_some, Option.getD_some, true_and, and_true, ↓reduceIte, Nat.reduceEqDiff, reduceCtorEq, pick_or, pick_and, pick_or', pick_and', Bool.not_not, ite_bool, dlV_cell, cells_agg, cells_str, cells_int, cells_bool, cells_sim, cells_snil, List.getD_cons_zero, List.getD_cons_succ, beq_tt, beq_ft, ite_same, imp_true, lookOk, lookRes, sfOf, sgOf, hOk, hRes, hOut, aimP_q, one_int, one_bool, one_str, one_sim, one_snil, one_fn, Int.toNat_natCast, Nat.zero_add, Int.toNat_zero, natCast_fold, Int.ofNat_eq_natCast, isB_bool, beq_self_eq_true, dIsAgg_agg, bel_d, bel7_d, bel_aggd, List.all_cons, List.all_nil, Bool.and_self, Bool.and_true, Bool.true_and, e1, e3]
    simp [h] at hE gd ⊢
    simp only [isV_enc, hv, V.ok_s hv, V.ok_nm hv, V.ok_it hv, isSs_enc, isVs_enc, implies_true, and_true, true_and, idxN_names, idxN_lt, e1, e3]
    have hd : ∀ b, isBoolD (DV.bool b) = true := fun _ => rfl
    try simp only [hd, implies_true, and_true, true_and]
    clear hI hF hv c1 e1 e3 hd
    have ln : 0 < v.names.length ↔ ¬ v.names = [] := List.length_pos_iff
    have li : 0 < v.items.length ↔ ¬ v.items = [] := List.length_pos_iff
    try simp only [ln, li]
    clear ln li
    have lz : v.items = [] → ((v.items.length : Nat) : Int) = 0 := fun h => by rw [h]; rfl
    have nz : v.names = [] → ((v.names.length : Nat) : Int) = 0 := fun h => by rw [h]; rfl
    have sz : v.s = ⟨#[]⟩ → ((v.s.size : Nat) : Int) = 0 := fun h => by rw [h]; rfl
    try simp only [h, Int.reduceEq, false_and, false_or] at hE
    try simp only [h, Int.reduceEq, false_and, false_or] at gd
    grind (splits := 30)
  · have hs : shapeK v.k = shapeD 0 0 false true true 1 true false false true := by rw [h]; rfl
    rw [hs, shapeD]
    clear hs
    simp only [dlV_enc, enc_cells, lst_encO, isSl_encO, one_encO, lst_encS, isSl_encS, one_encS, isAgg_enc, toV_enc, isV_enc, toVs_enc, isVs_enc, toSs_enc, isSs_enc, tupD_tup, dIsAgg_agg, isB_bool, cells_agg, asBool_bool, one_int, one_bool, ib_add, ib_sub, ib_mul, ib_eql, ib_neq, ib_lss, ib_leq, ib_gtr, ib_geq, sb_eql, sb_neq, sb_lss, sb_gtr, eqI_eq, ltI_eq, leI_eq, eqB_eq, isIK_int, isIK_ite, isStrD_ite, asInt_ite, sat_req, sat_ite, sat_ret, sat_back, aimF_q, aimR_q, into_q, into_bk, binV_add, binV_sub, binV_mul, binV_eql, binV_neq, binV_lss, binV_leq, binV_gtr, binV_geq, binV_seql, binV_sneq, bbinV_eql, bbinV_neq, unV_not, unV_neg, convV_int, asBool_ite, isBoolD_ite, isBUD_ite, grdD_ite, grdD_bool, grdD_tup, isBUD_tup, isBUD_bool, isBoolD_tup, isBoolD_bool, asBool_tup, asBool_bool, isIntD_int, isStrD_str, asInt_int, asStr_str, lstD_sim, lstD_snil, isSlD_sim, isSlD_snil, isSnil_sim, isSnil_snil, Option.isSome_some, Option.getD_some, true_and, and_true, ↓reduceIte, Nat.reduceEqDiff, reduceCtorEq, pick_or, pick_and, pick_or', pick_and', Bool.not_not, ite_bool, dlV_cell, cells_agg, cells_str, cells_int, cells_bool, cells_sim, cells_snil, List.getD_cons_zero, List.getD_cons_succ, beq_tt, beq_ft, ite_same, imp_true, lookOk, lookRes, sfOf, sgOf, hOk, hRes, hOut, aimP_q, one_int, one_bool, one_str, one_sim, one_snil, one_fn, Int.toNat_natCast, Nat.zero_add, Int.toNat_zero, natCast_fold, Int.ofNat_eq_natCast, isB_bool, beq_self_eq_true, dIsAgg_agg, bel_d, bel7_d, bel_aggd, List.all_cons, List.all_nil, Bool.and_self, Bool.and_true, Bool.true_and, e1, e3]
    simp [h] at hE gd ⊢
    simp only [isV_enc, hv, V.ok_s hv, V.ok_nm hv, V.ok_it hv, isSs_enc, isVs_enc, implies_true, and_true, true_and, idxN_names, idxN_lt, e1, e3]
    have hd : ∀ b, isBoolD (DV.bool b) = true := fun _ => rfl
    try simp only [hd, implies_true, and_true, true_and]
    clear hI hF hv c1 e1 e3 hd
    have ln : 0 < v.names.length ↔ ¬ v.names = [] := List.length_pos_iff
    have li : 0 < v.items.length ↔ ¬ v.items = [] := List.length_pos_iff
    try simp only [ln, li]
    clear ln li
    have lz : v.items = [] → ((v.items.length : Nat) : Int) = 0 := fun h => by rw [h]; rfl
    have nz : v.names = [] → ((v.names.length : Nat) : Int) = 0 := fun h => by rw [h]; rfl
    have sz : v.s = ⟨#[]⟩ → ((v.s.size : Nat) : Int) = 0 := fun h => by rw [h]; rfl
    try simp only [h, Int.reduceEq, false_and, false_or] at hE
    try simp only [h, Int.reduceEq, false_and, false_or] at gd
    grind (splits := 30)
  · have hs : shapeK v.k = shapeD 0 4 false false false 0 false false false true := by rw [h]; rfl
    rw [hs, shapeD]
    clear hs
    simp only [dlV_enc, enc_cells, lst_encO, isSl_encO, one_encO, lst_encS, isSl_encS, one_encS, isAgg_enc, toV_enc, isV_enc, toVs_enc, isVs_enc, toSs_enc, isSs_enc, tupD_tup, dIsAgg_agg, isB_bool, cells_agg, asBool_bool, one_int, one_bool, ib_add, ib_sub, ib_mul, ib_eql, ib_neq, ib_lss, ib_leq, ib_gtr, ib_geq, sb_eql, sb_neq, sb_lss, sb_gtr, eqI_eq, ltI_eq, leI_eq, eqB_eq, isIK_int, isIK_ite, isStrD_ite, asInt_ite, sat_req, sat_ite, sat_ret, sat_back, aimF_q, aimR_q, into_q, into_bk, binV_add, binV_sub, binV_mul, binV_eql, binV_neq, binV_lss, binV_leq, binV_gtr, binV_geq, binV_seql, binV_sneq, bbinV_eql, bbinV_neq, unV_not, unV_neg, convV_int, asBool_ite, isBoolD_ite, isBUD_ite, grdD_ite, grdD_bool, grdD_tup, isBUD_tup, isBUD_bool, isBoolD_tup, isBoolD_bool, asBool_tup, asBool_bool, isIntD_int, isStrD_str, asInt_int, asStr_str, lstD_sim, lstD_snil, isSlD_sim, isSlD_snil, isSnil_sim, isSnil_snil, Option.isSome_some, Option.getD_some, true_and, and_true, ↓reduceIte, Nat.reduceEqDiff, reduceCtorEq, pick_or, pick_and, pick_or', pick_and', Bool.not_not, ite_bool, dlV_cell, cells_agg, cells_str, cells_int, cells_bool, cells_sim, cells_snil, List.getD_cons_zero, List.getD_cons_succ, beq_tt, beq_ft, ite_same, imp_true, lookOk, lookRes, sfOf, sgOf, hOk, hRes, hOut, aimP_q, one_int, one_bool, one_str, one_sim, one_snil, one_fn, Int.toNat_natCast, Nat.zero_add, Int.toNat_zero, natCast_fold, Int.ofNat_eq_natCast, isB_bool, beq_self_eq_true, dIsAgg_agg, bel_d, bel7_d, bel_aggd, List.all_cons, List.all_nil, Bool.and_self, Bool.and_true, Bool.true_and, e1, e3]
    simp [h] at hE gd ⊢
    simp only [isV_enc, hv, V.ok_s hv, V.ok_nm hv, V.ok_it hv, isSs_enc, isVs_enc, implies_true, and_true, true_and, idxN_names, idxN_lt, e1, e3]
    have hd : ∀ b, isBoolD (DV.bool b) = true := fun _ => rfl
    try simp only [hd, implies_true, and_true, true_and]
    clear hI hF hv c1 e1 e3 hd
    have ln : 0 < v.names.length ↔ ¬ v.names = [] := List.length_pos_iff
    have li : 0 < v.items.length ↔ ¬ v.items = [] := List.length_pos_iff
    try simp only [ln, li]
    clear ln li
    have lz : v.items = [] → ((v.items.length : Nat) : Int) = 0 := fun h => by rw [h]; rfl
    have nz : v.names = [] → ((v.names.length : Nat) : Int) = 0 := fun h => by rw [h]; rfl
    have sz : v.s = ⟨#[]⟩ → ((v.s.size : Nat) : Int) = 0 := fun h => by rw [h]; rfl
    try simp only [h, Int.reduceEq, false_and, false_or] at hE
    try simp only [h, Int.reduceEq, false_and, false_or] at gd
    grind (splits := 30)
end Go.Proofs.Sx
