/- Values compared. -/
import Derived.Test.YtmjkaekhjmlnbaaGreatDoorSx5
import Derived.Test.YtmjkaekhjmlnbaaGreatDoorSxBase
import Derived.Test.YtmjkaekhjmlnbaaGreatDoorAmPtr
set_option linter.unusedVariables false
set_option linter.unusedSimpArgs false
set_option maxRecDepth 100000
namespace Go.Proofs.Sx
open Go Go.Proofs Go.Proofs.Am 
variable {gs : List Nat}

def thn (a b : Int) : Int := if a = 0 then b else a
def cmpI (a b : Int) : Int := if a < b then -1 else if b < a then 1 else 0
def cmpS (a b : ByteArray) : Int := Lib.compareBytes a.data.toList b.data.toList
def cmpIs : List Int → List Int → Int
  | [], [] => 0
  | [], _ :: _ => -1
  | _ :: _, [] => 1
  | x :: l, y :: r => thn (cmpI x y) (cmpIs l r)
def cmpN : List ByteArray → List ByteArray → Int
  | [], [] => 0
  | [], _ :: _ => -1
  | _ :: _, [] => 1
  | x :: l, y :: r => thn (cmpS x y) (cmpN l r)
mutual
def cmpV : V → V → Int
  | .mk k n e s nm it, .mk k' n' e' s' nm' it' => thn (cmpI k k') (thn (cmpI n n') (thn (cmpI e e') (thn (cmpS s s') (thn (cmpN (nm.getD []) (nm'.getD [])) (cmpO it it')))))
def cmpO : Option (List V) → Option (List V) → Int
  | none, o => cmpL [] (o.getD [])
  | some l, o => cmpL l (o.getD [])
def cmpL : List V → List V → Int
  | [], [] => 0
  | [], _ :: _ => -1
  | _ :: _, [] => 1
  | x :: l, y :: r => thn (cmpV x y) (cmpL l r)
end
theorem cmpO_eq (a b : Option (List V)) : cmpO a b = cmpL (a.getD []) (b.getD []) := by cases a <;> rw [cmpO] <;> rfl
theorem cmpV_eq (v w : V) : cmpV v w = thn (cmpI v.k w.k) (thn (cmpI v.n w.n) (thn (cmpI v.e w.e) (thn (cmpS v.s w.s) (thn (cmpN v.names w.names) (cmpL v.items w.items))))) := by
  cases v; cases w; rw [cmpV, cmpO_eq]; rfl

/-- A comparison of lists, from a place on. -/
def dropL {α : Type} (c : List α → List α → Int) (l r : List α) (i : Nat) : Int := c (l.drop i) (r.drop i)

theorem cmpIs_step (l r : List Int) (i : Nat) (h1 : i < l.length) (h2 : i < r.length) : cmpIs (l.drop i) (r.drop i) = thn (cmpI (l.getD i 0) (r.getD i 0)) (cmpIs (l.drop (i + 1)) (r.drop (i + 1))) := by
  rw [List.drop_eq_getElem_cons h1, List.drop_eq_getElem_cons h2]
  simp [cmpIs, List.getD, h1, h2]
theorem cmpIs_end (l r : List Int) (i : Nat) (h : ¬ (i < l.length ∧ i < r.length)) (h1 : i ≤ l.length) (h2 : i ≤ r.length) : cmpIs (l.drop i) (r.drop i) = cmpI l.length r.length := by
  unfold cmpI
  rcases Nat.lt_or_ge i l.length with ha | ha
  · have hb : ¬ i < r.length := fun hb => h ⟨ha, hb⟩
    rw [List.drop_eq_getElem_cons ha, List.drop_eq_nil_of_le (by omega : r.length ≤ i)]
    simp only [cmpIs]
    rw [if_neg (by omega), if_pos (by omega)]
  · rw [List.drop_eq_nil_of_le ha]
    rcases Nat.lt_or_ge i r.length with hb | hb
    · rw [List.drop_eq_getElem_cons hb]
      simp only [cmpIs]
      rw [if_pos (by omega)]
    · rw [List.drop_eq_nil_of_le hb]
      simp only [cmpIs]
      rw [if_neg (by omega), if_neg (by omega)]
theorem cmpN_step (l r : List ByteArray) (i : Nat) (h1 : i < l.length) (h2 : i < r.length) : cmpN (l.drop i) (r.drop i) = thn (cmpS (l.getD i ⟨#[]⟩) (r.getD i ⟨#[]⟩)) (cmpN (l.drop (i + 1)) (r.drop (i + 1))) := by
  rw [List.drop_eq_getElem_cons h1, List.drop_eq_getElem_cons h2]
  simp [cmpN, List.getD, h1, h2]
theorem cmpN_end (l r : List ByteArray) (i : Nat) (h : ¬ (i < l.length ∧ i < r.length)) (h1 : i ≤ l.length) (h2 : i ≤ r.length) : cmpN (l.drop i) (r.drop i) = cmpI l.length r.length := by
  unfold cmpI
  rcases Nat.lt_or_ge i l.length with ha | ha
  · have hb : ¬ i < r.length := fun hb => h ⟨ha, hb⟩
    rw [List.drop_eq_getElem_cons ha, List.drop_eq_nil_of_le (by omega : r.length ≤ i)]
    simp only [cmpN]
    rw [if_neg (by omega), if_pos (by omega)]
  · rw [List.drop_eq_nil_of_le ha]
    rcases Nat.lt_or_ge i r.length with hb | hb
    · rw [List.drop_eq_getElem_cons hb]
      simp only [cmpN]
      rw [if_pos (by omega)]
    · rw [List.drop_eq_nil_of_le hb]
      simp only [cmpN]
      rw [if_neg (by omega), if_neg (by omega)]
theorem cmpL_step (l r : List V) (i : Nat) (h1 : i < l.length) (h2 : i < r.length) : cmpL (l.drop i) (r.drop i) = thn (cmpV (l.getD i default) (r.getD i default)) (cmpL (l.drop (i + 1)) (r.drop (i + 1))) := by
  rw [List.drop_eq_getElem_cons h1, List.drop_eq_getElem_cons h2, cmpL]
  simp [List.getD, h1, h2]
theorem cmpL_end (l r : List V) (i : Nat) (h : ¬ (i < l.length ∧ i < r.length)) (h1 : i ≤ l.length) (h2 : i ≤ r.length) : cmpL (l.drop i) (r.drop i) = cmpI l.length r.length := by
  unfold cmpI
  rcases Nat.lt_or_ge i l.length with ha | ha
  · have hb : ¬ i < r.length := fun hb => h ⟨ha, hb⟩
    rw [List.drop_eq_getElem_cons ha, List.drop_eq_nil_of_le (by omega : r.length ≤ i), cmpL]
    rw [if_neg (by omega), if_pos (by omega)]
  · rw [List.drop_eq_nil_of_le ha]
    rcases Nat.lt_or_ge i r.length with hb | hb
    · rw [List.drop_eq_getElem_cons hb, cmpL]
      rw [if_pos (by omega)]
    · rw [List.drop_eq_nil_of_le hb, cmpL]
      rw [if_neg (by omega), if_neg (by omega)]

def encI (l : List Int) : DV := .sim (l.map (.int .i64))
theorem lst_encI (l : List Int) : lstD (encI l) = l.map (.int .i64) := rfl
theorem isSl_encI (l : List Int) : isSlD (encI l) = true := rfl
theorem get_int (l : List Int) (i : Nat) (h : i < l.length) : (l.map (DV.int .i64)).getD i .inil = .int .i64 (l.getD i 0) := by
  simp [List.getD, List.getElem?_map, List.getElem?_eq_getElem h]

theorem wrap_cnt (p : Prop) [Decidable p] : IntKind.i64.wrap (IntKind.i64.wrap (2 * if p then 1 else 0) - 1) = if p then 1 else -1 := by split <;> rfl
theorem wrap_cnt2 (p q : Prop) [Decidable p] [Decidable q] : IntKind.i64.wrap ((if p then 1 else 0) - if q then 1 else 0) = (if p then 1 else 0) - if q then 1 else 0 := by split <;> split <;> rfl
theorem thn_ne {a b : Int} (h : a ≠ 0) : thn a b = a := by simp [thn, h]
theorem thn_eq {a b : Int} (h : a = 0) : thn a b = b := by simp [thn, h]
theorem cmpI_zero (a b : Int) : cmpI a b = 0 ↔ a = b := by unfold cmpI; split <;> (try split) <;> omega
def lv56 : Nat → List Nat × List Nat
  | 2 => ([0, 1, 5], [])
  | _ => ([], [])
theorem pc56 (l r : List Int) (hl : l.length ≤ 1048576) (hr : r.length ≤ 1048576) : PureCall Tryz.prog [0] 56 [encI l, encI r] (dRet (.int .i64 (cmpIs l r))) := by
  refine pure_of_tree mixed fn56 (Nat.le_of_ble_eq_true rfl) (Nat.lt_of_succ_le (Nat.le_of_ble_eq_true rfl)) (sfOk (.cons ok57 .nil)) TbOk (lv := lv56) fun I F hI hF => ?_
  refine boxed fun C hC => ?_
  generalize hgen0 : encI l = gen0
  generalize hgen1 : encI r = gen1
  cbv
  subst hgen0
  subst hgen1
  subst hC
  refine ⟨?_⟩
  simp only [hI, hF, std]
  simp only [ib_add, ib_sub, ib_mul, ib_eql, ib_neq, ib_lss, ib_leq, ib_gtr, ib_geq, sb_eql, sb_neq, sb_lss, sb_gtr, eqI_eq, ltI_eq, leI_eq, eqB_eq, isIK_int, isIK_ite, isStrD_ite, asInt_ite, sat_req, sat_ite, sat_ret, sat_back, aimF_q, aimR_q, into_q, into_bk, binV_add, binV_sub, binV_mul, binV_eql, binV_neq, binV_lss, binV_leq, binV_gtr, binV_geq, binV_seql, binV_sneq, bbinV_eql, bbinV_neq, unV_not, unV_neg, convV_int, asBool_ite, isBoolD_ite, isBUD_ite, grdD_ite, grdD_bool, grdD_tup, isBUD_tup, isBUD_bool, isBoolD_tup, isBoolD_bool, asBool_tup, asBool_bool, isIntD_int, isStrD_str, asInt_int, asStr_str, lstD_sim, lstD_snil, isSlD_sim, isSlD_snil, isSnil_sim, isSnil_snil, Option.isSome_some, Option.getD_some, true_and, and_true, ↓reduceIte, Nat.reduceEqDiff, reduceCtorEq, pick_or, pick_and, pick_or', pick_and', Bool.not_not, ite_bool, dlV_cell, cells_agg, cells_str, cells_int, cells_bool, cells_sim, cells_snil, List.getD_cons_zero, List.getD_cons_succ, beq_tt, beq_ft, ite_same, imp_true, lookOk, lookRes, sfOf, sgOf, hOk, hRes, hOut, aimP_q, one_int, one_bool, one_str, one_sim, one_snil, one_fn, Int.toNat_natCast, Nat.zero_add, Int.toNat_zero, natCast_fold, Int.ofNat_eq_natCast, isB_bool, beq_self_eq_true, dIsAgg_agg, bel_d, bel7_d, bel_aggd, List.all_cons, List.all_nil, Bool.and_self, Bool.and_true, Bool.true_and, dlV_enc, enc_cells, lst_encO, isSl_encO, one_encO, lst_encS, isSl_encS, one_encS, isAgg_enc, toV_enc, isV_enc, toVs_enc, isVs_enc, toSs_enc, isSs_enc]
  try simp
  refine loop_rule (kend := fun I => kEndF I Tb [.tmp 4]) hI hF (sfOk (.cons ok57 .nil)) TbOk (by exact fun Bk e s h => endF TbOk Bk e s h) (lv := lv56) 0 (fun i : {i : Nat // i ≤ l.length ∧ i ≤ r.length ∧ cmpIs l r = cmpIs (l.drop i) (r.drop i)} => [.d (encI l), .d (encI r), .d (.int .i64 (i.1 : Int))]) (fun i : {i : Nat // i ≤ l.length ∧ i ≤ r.length ∧ cmpIs l r = cmpIs (l.drop i) (r.drop i)} => []) (fun i : {i : Nat // i ≤ l.length ∧ i ≤ r.length ∧ cmpIs l r = cmpIs (l.drop i) (r.drop i)} => l.length - i.1) [] (⟨0, by omega, by omega, by simp⟩ : {i : Nat // i ≤ l.length ∧ i ≤ r.length ∧ cmpIs l r = cmpIs (l.drop i) (r.drop i)}) (by rfl) (by rfl) ?_ ?_ fun i => ?_
  · rfl
  · rfl
  obtain ⟨i, hi1, hi2, hi3⟩ := i
  refine boxed fun C hC => ?_
  generalize hgen0 : encI l = gen0
  generalize hgen1 : encI r = gen1
  generalize hgen2 : DV.int .i64 (i : Int) = gen2
  cbv
  subst hgen0
  subst hgen1
  subst hgen2
  subst hC
  refine ⟨?_⟩
  simp only [hI, hF, std]
  have w3 := wrap_succ (n := i) (by omega)
  by_cases hlt : i < l.length ∧ i < r.length
  · have g1 := get_int _ _ hlt.1
    have g2 := get_int _ _ hlt.2
    have hs := cmpIs_step l r i hlt.1 hlt.2
    simp only [ib_add, ib_sub, ib_mul, ib_eql, ib_neq, ib_lss, ib_leq, ib_gtr, ib_geq, sb_eql, sb_neq, sb_lss, sb_gtr, eqI_eq, ltI_eq, leI_eq, eqB_eq, isIK_int, isIK_ite, isStrD_ite, asInt_ite, sat_req, sat_ite, sat_ret, sat_back, aimF_q, aimR_q, into_q, into_bk, binV_add, binV_sub, binV_mul, binV_eql, binV_neq, binV_lss, binV_leq, binV_gtr, binV_geq, binV_seql, binV_sneq, bbinV_eql, bbinV_neq, unV_not, unV_neg, convV_int, asBool_ite, isBoolD_ite, isBUD_ite, grdD_ite, grdD_bool, grdD_tup, isBUD_tup, isBUD_bool, isBoolD_tup, isBoolD_bool, asBool_tup, asBool_bool, isIntD_int, isStrD_str, asInt_int, asStr_str, lstD_sim, lstD_snil, isSlD_sim, isSlD_snil, isSnil_sim, isSnil_snil, Option.isSome_some, Option.getD_some, true_and, and_true, ↓reduceIte, Nat.reduceEqDiff, reduceCtorEq, pick_or, pick_and, pick_or', pick_and', Bool.not_not, ite_bool, dlV_cell, cells_agg, cells_str, cells_int, cells_bool, cells_sim, cells_snil, List.getD_cons_zero, List.getD_cons_succ, beq_tt, beq_ft, ite_same, imp_true, lookOk, lookRes, sfOf, sgOf, hOk, hRes, hOut, aimP_q, one_int, one_bool, one_str, one_sim, one_snil, one_fn, Int.toNat_natCast, Nat.zero_add, Int.toNat_zero, natCast_fold, Int.ofNat_eq_natCast, isB_bool, beq_self_eq_true, dIsAgg_agg, bel_d, bel7_d, bel_aggd, List.all_cons, List.all_nil, Bool.and_self, Bool.and_true, Bool.true_and, dlV_enc, enc_cells, lst_encO, isSl_encO, one_encO, lst_encS, isSl_encS, one_encS, isAgg_enc, toV_enc, isV_enc, toVs_enc, isVs_enc, toSs_enc, isSs_enc, lst_encI, isSl_encI, g1, g2, e57, List.length_map]
    simp [hlt, w3, - List.getD_eq_getElem?_getD, hi3, hs, wrap_cnt]
    refine ⟨fun h => ?_, fun h => ⟨i + 1, by omega, ⟨by omega, by omega, thn_eq ((cmpI_zero _ _).2 h)⟩, by simp⟩⟩
    rw [thn_ne (fun h0 => h ((cmpI_zero _ _).1 h0))]
    unfold cmpI; split <;> (try split) <;> omega
  · have he := cmpIs_end l r i hlt hi1 hi2
    simp only [ib_add, ib_sub, ib_mul, ib_eql, ib_neq, ib_lss, ib_leq, ib_gtr, ib_geq, sb_eql, sb_neq, sb_lss, sb_gtr, eqI_eq, ltI_eq, leI_eq, eqB_eq, isIK_int, isIK_ite, isStrD_ite, asInt_ite, sat_req, sat_ite, sat_ret, sat_back, aimF_q, aimR_q, into_q, into_bk, binV_add, binV_sub, binV_mul, binV_eql, binV_neq, binV_lss, binV_leq, binV_gtr, binV_geq, binV_seql, binV_sneq, bbinV_eql, bbinV_neq, unV_not, unV_neg, convV_int, asBool_ite, isBoolD_ite, isBUD_ite, grdD_ite, grdD_bool, grdD_tup, isBUD_tup, isBUD_bool, isBoolD_tup, isBoolD_bool, asBool_tup, asBool_bool, isIntD_int, isStrD_str, asInt_int, asStr_str, lstD_sim, lstD_snil, isSlD_sim, isSlD_snil, isSnil_sim, isSnil_snil, Option.isSome_some, Option.getD_some, true_and, and_true, ↓reduceIte, Nat.reduceEqDiff, reduceCtorEq, pick_or, pick_and, pick_or', pick_and', Bool.not_not, ite_bool, dlV_cell, cells_agg, cells_str, cells_int, cells_bool, cells_sim, cells_snil, List.getD_cons_zero, List.getD_cons_succ, beq_tt, beq_ft, ite_same, imp_true, lookOk, lookRes, sfOf, sgOf, hOk, hRes, hOut, aimP_q, one_int, one_bool, one_str, one_sim, one_snil, one_fn, Int.toNat_natCast, Nat.zero_add, Int.toNat_zero, natCast_fold, Int.ofNat_eq_natCast, isB_bool, beq_self_eq_true, dIsAgg_agg, bel_d, bel7_d, bel_aggd, List.all_cons, List.all_nil, Bool.and_self, Bool.and_true, Bool.true_and, dlV_enc, enc_cells, lst_encO, isSl_encO, one_encO, lst_encS, isSl_encS, one_encS, isAgg_enc, toV_enc, isV_enc, toVs_enc, isVs_enc, toSs_enc, isSs_enc, lst_encI, isSl_encI, e57, List.length_map]
    simp [hi3, he, wrap_cnt2]
    refine ⟨fun a b => absurd ⟨a, b⟩ hlt, fun _ => ?_⟩
    unfold cmpI; split <;> split <;> (try split) <;> omega
open Classical in
noncomputable def e56 : Ent := ⟨56, fun | [.sim a, .sim b] => decide (∃ l r : List Int, a = l.map (.int .i64) ∧ b = r.map (.int .i64) ∧ l.length ≤ 1048576 ∧ r.length ≤ 1048576) | _ => false, fun | [.sim a, .sim b] => .int .i64 (cmpIs (a.map Am.asInt) (b.map Am.asInt)) | _ => .inil⟩
theorem map_asInt (l : List Int) : (l.map (DV.int .i64)).map Am.asInt = l := by
  induction l with
  | nil => rfl
  | cons x l ih => simp only [List.map_cons, ih]; rfl
open Classical in
theorem ok56 : EntOk Tryz.prog [0] e56 := fun ds h => by
  unfold e56 at h ⊢
  simp only at h ⊢
  split at h
  · rw [decide_eq_true_iff] at h
    obtain ⟨l, r, rfl, rfl, h1, h2⟩ := h
    simp only [map_asInt]
    exact pc56 l r h1 h2
  · cases h

theorem u8_lt {a b : UInt8} (h1 : ¬ a < b) (h2 : ¬ b < a) : a = b := by
  have h1 := UInt8.not_lt.1 h1
  have h2 := UInt8.not_lt.1 h2
  exact UInt8.le_antisymm h2 h1
theorem cmp_less : ∀ (a b : List UInt8), Op.bytesLess a b = decide (Lib.compareBytes a b = -1)
  | [], [] => by simp [Op.bytesLess, Lib.compareBytes]
  | [], _ :: _ => by simp [Op.bytesLess, Lib.compareBytes]
  | _ :: _, [] => by simp [Op.bytesLess, Lib.compareBytes]
  | a :: l, b :: r => by
    have ih := cmp_less l r
    simp only [Op.bytesLess, Lib.compareBytes]
    by_cases h1 : a < b
    · simp [h1]
    · by_cases h2 : b < a
      · have : a ≠ b := by rintro rfl; exact h1 h2
        simp [h1, h2, this]
      · have := u8_lt h1 h2
        subst this
        simp [h1, ih]
theorem cmp_zero : ∀ (a b : List UInt8), Lib.compareBytes a b = 0 ↔ a = b
  | [], [] => by simp [Lib.compareBytes]
  | [], _ :: _ => by simp [Lib.compareBytes]
  | _ :: _, [] => by simp [Lib.compareBytes]
  | a :: l, b :: r => by
    have ih := cmp_zero l r
    simp only [Lib.compareBytes]
    by_cases h1 : a < b
    · have : a ≠ b := by rintro rfl; exact absurd h1 (UInt8.lt_irrefl a)
      simp [h1, this]
    · by_cases h2 : b < a
      · have : a ≠ b := by rintro rfl; exact h1 h2
        simp [h1, h2, this]
      · have := u8_lt h1 h2
        subst this
        simp [h1, ih]
theorem cmp_anti : ∀ (a b : List UInt8), Lib.compareBytes b a = - Lib.compareBytes a b
  | [], [] => by simp [Lib.compareBytes]
  | [], _ :: _ => by simp [Lib.compareBytes]
  | _ :: _, [] => by simp [Lib.compareBytes]
  | a :: l, b :: r => by
    have ih := cmp_anti l r
    simp only [Lib.compareBytes]
    by_cases h1 : a < b
    · have : ¬ b < a := fun h => absurd (UInt8.lt_trans h1 h) (UInt8.lt_irrefl a)
      simp [h1, this]
    · by_cases h2 : b < a
      · simp [h1, h2]
      · simp [h1, h2, ih]
theorem cmp_range : ∀ (a b : List UInt8), Lib.compareBytes a b = -1 ∨ Lib.compareBytes a b = 0 ∨ Lib.compareBytes a b = 1
  | [], [] => by simp [Lib.compareBytes]
  | [], _ :: _ => by simp [Lib.compareBytes]
  | _ :: _, [] => by simp [Lib.compareBytes]
  | a :: l, b :: r => by
    have ih := cmp_range l r
    simp only [Lib.compareBytes]
    split
    · simp
    · split
      · simp
      · exact ih
theorem cmpS_zero (a b : ByteArray) : cmpS a b = 0 ↔ a = b := by
  unfold cmpS; rw [cmp_zero]
  obtain ⟨⟨a⟩⟩ := a; obtain ⟨⟨b⟩⟩ := b
  simp
theorem ltB_cmpS (a b : ByteArray) : ltB a b = decide (cmpS a b = -1) := cmp_less _ _
theorem cmpS_anti (a b : ByteArray) : cmpS b a = - cmpS a b := cmp_anti _ _
theorem cmpS_range (a b : ByteArray) : cmpS a b = -1 ∨ cmpS a b = 0 ∨ cmpS a b = 1 := cmp_range _ _
theorem cmpS_gtr {a b : ByteArray} (h : a ≠ b) : (if (!(ltB a b || decide (a = b))) = true then (1 : Int) else -1) = cmpS a b := by
  rw [ltB_cmpS]
  have h0 : cmpS a b ≠ 0 := fun e => h ((cmpS_zero a b).1 e)
  rcases cmpS_range a b with e | e | e
  · simp [e]
  · exact absurd e h0
  · simp [e, h]
theorem cmpIs3 (a b c a' b' c' : Int) : cmpIs [a, b, c] [a', b', c'] = thn (cmpI a a') (thn (cmpI b b') (cmpI c c')) := by
  simp only [cmpIs, thn]; split <;> (try split) <;> (try split) <;> simp_all
theorem thn_assoc (a b c : Int) : thn (thn a b) c = thn a (thn b c) := by unfold thn; split <;> (try split) <;> simp_all
theorem cmpV_eq' (v w : V) : cmpV v w = thn (cmpIs [v.k, v.n, v.e] [w.k, w.n, w.e]) (thn (cmpS v.s w.s) (thn (cmpN v.names w.names) (cmpL v.items w.items))) := by
  rw [cmpV_eq, cmpIs3, thn_assoc, thn_assoc]

open Classical in
/-- The comparison of shorter values. -/
noncomputable def e36n (n : Nat) : Ent := ⟨36, fun | [a, b] => decide (isV a ∧ isV b ∧ (toV a).sz < n) | _ => false, fun | [a, b] => .int .i64 (cmpV (toV a) (toV b)) | _ => .inil⟩
open Classical in
theorem ok36n {n : Nat} (h : ∀ v w : V, v.ok → w.ok → v.sz < n → PureCall Tryz.prog [0] 36 [v.enc, w.enc] (dRet (.int .i64 (cmpV v w)))) : EntOk Tryz.prog [0] (e36n n) := fun ds hk => by
  unfold e36n at hk ⊢
  simp only at hk ⊢
  split at hk
  · rw [decide_eq_true_iff] at hk
    obtain ⟨⟨v, rfl, h1⟩, ⟨w, rfl, h2⟩, h3⟩ := hk
    simp only [toV_enc] at h3 ⊢
    exact h v w h1 h2 h3
  · cases hk

theorem szO_get {o : Option (List V)} {i : Nat} (hi : i < (o.getD []).length) : ((o.getD []).getD i default).sz ≤ szO o := by
  cases o with
  | none => simp at hi
  | some l =>
    have hi : i < l.length := hi
    refine szL_mem ?_
    simp [List.getD, List.getElem?_eq_getElem hi]
def lv58 : Nat → List Nat × List Nat
  | 2 => ([0, 1, 5], [])
  | _ => ([], [])
theorem pc58 (n : Nat) (h36 : ∀ v w : V, v.ok → w.ok → v.sz < n → PureCall Tryz.prog [0] 36 [v.enc, w.enc] (dRet (.int .i64 (cmpV v w)))) (a b : Option (List V)) (ha : okO a) (hb : okO b) (hn : szO a < n) :
    PureCall Tryz.prog [0] 58 [encO a, encO b] (dRet (.int .i64 (cmpL (a.getD []) (b.getD [])))) := by
  have hl := okO_len ha
  have hr := okO_len hb
  have ok36' := ok36n h36
  refine pure_of_tree mixed fn58 (Nat.le_of_ble_eq_true rfl) (Nat.lt_of_succ_le (Nat.le_of_ble_eq_true rfl)) (sfOk (.cons ok57 (.cons ok36' .nil))) TbOk (lv := lv58) fun I F hI hF => ?_
  refine boxed fun C hC => ?_
  generalize hgen0 : encO a = gen0
  generalize hgen1 : encO b = gen1
  cbv
  subst hgen0
  subst hgen1
  subst hC
  refine ⟨?_⟩
  simp only [hI, hF, std]
  simp only [ib_add, ib_sub, ib_mul, ib_eql, ib_neq, ib_lss, ib_leq, ib_gtr, ib_geq, sb_eql, sb_neq, sb_lss, sb_gtr, eqI_eq, ltI_eq, leI_eq, eqB_eq, isIK_int, isIK_ite, isStrD_ite, asInt_ite, sat_req, sat_ite, sat_ret, sat_back, aimF_q, aimR_q, into_q, into_bk, binV_add, binV_sub, binV_mul, binV_eql, binV_neq, binV_lss, binV_leq, binV_gtr, binV_geq, binV_seql, binV_sneq, bbinV_eql, bbinV_neq, unV_not, unV_neg, convV_int, asBool_ite, isBoolD_ite, isBUD_ite, grdD_ite, grdD_bool, grdD_tup, isBUD_tup, isBUD_bool, isBoolD_tup, isBoolD_bool, asBool_tup, asBool_bool, isIntD_int, isStrD_str, asInt_int, asStr_str, lstD_sim, lstD_snil, isSlD_sim, isSlD_snil, isSnil_sim, isSnil_snil, Option.isSome_some, Option.getD_some, true_and, and_true, ↓reduceIte, Nat.reduceEqDiff, reduceCtorEq, pick_or, pick_and, pick_or', pick_and', Bool.not_not, ite_bool, dlV_cell, cells_agg, cells_str, cells_int, cells_bool, cells_sim, cells_snil, List.getD_cons_zero, List.getD_cons_succ, beq_tt, beq_ft, ite_same, imp_true, lookOk, lookRes, sfOf, sgOf, hOk, hRes, hOut, aimP_q, one_int, one_bool, one_str, one_sim, one_snil, one_fn, Int.toNat_natCast, Nat.zero_add, Int.toNat_zero, natCast_fold, Int.ofNat_eq_natCast, isB_bool, beq_self_eq_true, dIsAgg_agg, bel_d, bel7_d, bel_aggd, List.all_cons, List.all_nil, Bool.and_self, Bool.and_true, Bool.true_and, dlV_enc, enc_cells, lst_encO, isSl_encO, one_encO, lst_encS, isSl_encS, one_encS, isAgg_enc, toV_enc, isV_enc, toVs_enc, isVs_enc, toSs_enc, isSs_enc]
  try simp
  refine loop_rule (kend := fun I => kEndF I Tb [.tmp 4]) hI hF (sfOk (.cons ok57 (.cons ok36' .nil))) TbOk (by exact fun Bk e s h => endF TbOk Bk e s h) (lv := lv58) 0 (fun i : {i : Nat // i ≤ (a.getD []).length ∧ i ≤ (b.getD []).length ∧ cmpL (a.getD []) (b.getD []) = cmpL ((a.getD []).drop i) ((b.getD []).drop i)} => [.d (encO a), .d (encO b), .d (.int .i64 (i.1 : Int))]) (fun i : {i : Nat // i ≤ (a.getD []).length ∧ i ≤ (b.getD []).length ∧ cmpL (a.getD []) (b.getD []) = cmpL ((a.getD []).drop i) ((b.getD []).drop i)} => []) (fun i : {i : Nat // i ≤ (a.getD []).length ∧ i ≤ (b.getD []).length ∧ cmpL (a.getD []) (b.getD []) = cmpL ((a.getD []).drop i) ((b.getD []).drop i)} => (a.getD []).length - i.1) [] (⟨0, by omega, by omega, by simp⟩ : {i : Nat // i ≤ (a.getD []).length ∧ i ≤ (b.getD []).length ∧ cmpL (a.getD []) (b.getD []) = cmpL ((a.getD []).drop i) ((b.getD []).drop i)}) (by rfl) (by rfl) ?_ ?_ fun i => ?_
  · rfl
  · rfl
  obtain ⟨i, hi1, hi2, hi3⟩ := i
  refine boxed fun C hC => ?_
  generalize hgen0 : encO a = gen0
  generalize hgen1 : encO b = gen1
  generalize hgen2 : DV.int .i64 (i : Int) = gen2
  cbv
  subst hgen0
  subst hgen1
  subst hgen2
  subst hC
  refine ⟨?_⟩
  simp only [hI, hF, std]
  have w3 := wrap_succ (n := i) (by omega)
  by_cases hlt : i < (a.getD []).length ∧ i < (b.getD []).length
  · have g1 := get_enc _ _ hlt.1
    have g2 := get_enc _ _ hlt.2
    have k1 := okO_get ha hlt.1
    have k2 := okO_get hb hlt.2
    have k3 := szO_get hlt.1
    have hs := cmpL_step (a.getD []) (b.getD []) i hlt.1 hlt.2
    have k4 : ((a.getD []).getD i default).sz < n := by omega
    simp only [ib_add, ib_sub, ib_mul, ib_eql, ib_neq, ib_lss, ib_leq, ib_gtr, ib_geq, sb_eql, sb_neq, sb_lss, sb_gtr, eqI_eq, ltI_eq, leI_eq, eqB_eq, isIK_int, isIK_ite, isStrD_ite, asInt_ite, sat_req, sat_ite, sat_ret, sat_back, aimF_q, aimR_q, into_q, into_bk, binV_add, binV_sub, binV_mul, binV_eql, binV_neq, binV_lss, binV_leq, binV_gtr, binV_geq, binV_seql, binV_sneq, bbinV_eql, bbinV_neq, unV_not, unV_neg, convV_int, asBool_ite, isBoolD_ite, isBUD_ite, grdD_ite, grdD_bool, grdD_tup, isBUD_tup, isBUD_bool, isBoolD_tup, isBoolD_bool, asBool_tup, asBool_bool, isIntD_int, isStrD_str, asInt_int, asStr_str, lstD_sim, lstD_snil, isSlD_sim, isSlD_snil, isSnil_sim, isSnil_snil, Option.isSome_some, Option.getD_some, true_and, and_true, ↓reduceIte, Nat.reduceEqDiff, reduceCtorEq, pick_or, pick_and, pick_or', pick_and', Bool.not_not, ite_bool, dlV_cell, cells_agg, cells_str, cells_int, cells_bool, cells_sim, cells_snil, List.getD_cons_zero, List.getD_cons_succ, beq_tt, beq_ft, ite_same, imp_true, lookOk, lookRes, sfOf, sgOf, hOk, hRes, hOut, aimP_q, one_int, one_bool, one_str, one_sim, one_snil, one_fn, Int.toNat_natCast, Nat.zero_add, Int.toNat_zero, natCast_fold, Int.ofNat_eq_natCast, isB_bool, beq_self_eq_true, dIsAgg_agg, bel_d, bel7_d, bel_aggd, List.all_cons, List.all_nil, Bool.and_self, Bool.and_true, Bool.true_and, dlV_enc, enc_cells, lst_encO, isSl_encO, one_encO, lst_encS, isSl_encS, one_encS, isAgg_enc, toV_enc, isV_enc, toVs_enc, isVs_enc, toSs_enc, isSs_enc, g1, g2, e57, e36n, List.length_map]
    simp [hlt, w3, - List.getD_eq_getElem?_getD, hi3, hs, k1, k2, k4, dlV_enc, enc_cells, lst_encO, isSl_encO, one_encO, lst_encS, isSl_encS, one_encS, isAgg_enc, toV_enc, isV_enc, toVs_enc, isVs_enc, toSs_enc, isSs_enc]
    exact ⟨fun h => (thn_ne h).symm, fun h => ⟨i + 1, by omega, ⟨by omega, by omega, thn_eq h⟩, by simp⟩⟩
  · have he := cmpL_end (a.getD []) (b.getD []) i hlt hi1 hi2
    simp only [ib_add, ib_sub, ib_mul, ib_eql, ib_neq, ib_lss, ib_leq, ib_gtr, ib_geq, sb_eql, sb_neq, sb_lss, sb_gtr, eqI_eq, ltI_eq, leI_eq, eqB_eq, isIK_int, isIK_ite, isStrD_ite, asInt_ite, sat_req, sat_ite, sat_ret, sat_back, aimF_q, aimR_q, into_q, into_bk, binV_add, binV_sub, binV_mul, binV_eql, binV_neq, binV_lss, binV_leq, binV_gtr, binV_geq, binV_seql, binV_sneq, bbinV_eql, bbinV_neq, unV_not, unV_neg, convV_int, asBool_ite, isBoolD_ite, isBUD_ite, grdD_ite, grdD_bool, grdD_tup, isBUD_tup, isBUD_bool, isBoolD_tup, isBoolD_bool, asBool_tup, asBool_bool, isIntD_int, isStrD_str, asInt_int, asStr_str, lstD_sim, lstD_snil, isSlD_sim, isSlD_snil, isSnil_sim, isSnil_snil, Option.isSome_some, Option.getD_some, true_and, and_true, ↓reduceIte, Nat.reduceEqDiff, reduceCtorEq, pick_or, pick_and, pick_or', pick_and', Bool.not_not, ite_bool, dlV_cell, cells_agg, cells_str, cells_int, cells_bool, cells_sim, cells_snil, List.getD_cons_zero, List.getD_cons_succ, beq_tt, beq_ft, ite_same, imp_true, lookOk, lookRes, sfOf, sgOf, hOk, hRes, hOut, aimP_q, one_int, one_bool, one_str, one_sim, one_snil, one_fn, Int.toNat_natCast, Nat.zero_add, Int.toNat_zero, natCast_fold, Int.ofNat_eq_natCast, isB_bool, beq_self_eq_true, dIsAgg_agg, bel_d, bel7_d, bel_aggd, List.all_cons, List.all_nil, Bool.and_self, Bool.and_true, Bool.true_and, dlV_enc, enc_cells, lst_encO, isSl_encO, one_encO, lst_encS, isSl_encS, one_encS, isAgg_enc, toV_enc, isV_enc, toVs_enc, isVs_enc, toSs_enc, isSs_enc, e57, List.length_map]
    simp [hi3, he, wrap_cnt2]
    refine ⟨fun a b => absurd ⟨a, b⟩ hlt, fun _ => ?_⟩
    unfold cmpI; split <;> split <;> (try split) <;> omega

open Classical in
noncomputable def scalarV (d : DV) (o : Option (List V)) : Bool := decide (d = encO o)
theorem scalarV_enc (o : Option (List V)) : scalarV (encO o) o = true := by simp [scalarV]
def lv36 : Nat → List Nat × List Nat
  | 7 => ([2, 3, 6], [0, 1])
  | _ => ([], [])
theorem pc36n : ∀ (n : Nat) (v w : V), v.ok → w.ok → v.sz < n → PureCall Tryz.prog [0] 36 [v.enc, w.enc] (dRet (.int .i64 (cmpV v w)))
  | 0, v, w, _, _, h => by omega
  | n + 1, v, w, hv, hw, hn => by
    have ih := pc36n n
    have hsz : szO v.it < n := by
      obtain ⟨k, m, e, s, nm, it⟩ := v
      simp only [V.sz] at hn
      simp only [V.it]; omega
    have pc58' := pc58 n ih v.it w.it (V.ok_it hv) (V.ok_it hw) hsz
    have ok58' : EntOk Tryz.prog [0] ⟨58, fun ds => match ds with | [a, b] => scalarV a v.it && scalarV b w.it | _ => false, fun _ => .int .i64 (cmpL v.items w.items)⟩ := fun ds h => by
      simp only at h
      split at h
      · simp only [Bool.and_eq_true, scalarV, decide_eq_true_iff] at h
        rw [h.1, h.2]; exact pc58'
      · cases h
    refine pure_of_tree mixed fn36 (Nat.le_of_ble_eq_true rfl) (Nat.lt_of_succ_le (Nat.le_of_ble_eq_true rfl)) (sfOk (.cons ok57 (.cons ok56 (.cons ok58' .nil)))) TbOk (lv := lv36) fun I F hI hF => ?_
    refine boxed fun C hC => ?_
    generalize hgen0 : v.enc = gen0
    generalize hgen1 : w.enc = gen1
    cbv
    subst hgen0
    subst hgen1
    subst hC
    refine ⟨?_⟩
    simp only [hI, hF, std]
    have ms : ∀ a b c : Int, [DV.int .i64 a, .int .i64 b, .int .i64 c].map Am.asInt = [a, b, c] := fun a b c => rfl
    have m3 : ∃ l r : List Int, [DV.int .i64 v.k, .int .i64 v.n, .int .i64 v.e] = l.map (.int .i64) ∧ [DV.int .i64 w.k, .int .i64 w.n, .int .i64 w.e] = r.map (.int .i64) ∧ l.length ≤ 1048576 ∧ r.length ≤ 1048576 := ⟨[v.k, v.n, v.e], [w.k, w.n, w.e], rfl, rfl, by simp, by simp⟩
    have ha := cmpV_eq' v w
    simp only [ib_add, ib_sub, ib_mul, ib_eql, ib_neq, ib_lss, ib_leq, ib_gtr, ib_geq, sb_eql, sb_neq, sb_lss, sb_gtr, eqI_eq, ltI_eq, leI_eq, eqB_eq, isIK_int, isIK_ite, isStrD_ite, asInt_ite, sat_req, sat_ite, sat_ret, sat_back, aimF_q, aimR_q, into_q, into_bk, binV_add, binV_sub, binV_mul, binV_eql, binV_neq, binV_lss, binV_leq, binV_gtr, binV_geq, binV_seql, binV_sneq, bbinV_eql, bbinV_neq, unV_not, unV_neg, convV_int, asBool_ite, isBoolD_ite, isBUD_ite, grdD_ite, grdD_bool, grdD_tup, isBUD_tup, isBUD_bool, isBoolD_tup, isBoolD_bool, asBool_tup, asBool_bool, isIntD_int, isStrD_str, asInt_int, asStr_str, lstD_sim, lstD_snil, isSlD_sim, isSlD_snil, isSnil_sim, isSnil_snil, Option.isSome_some, Option.getD_some, true_and, and_true, ↓reduceIte, Nat.reduceEqDiff, reduceCtorEq, pick_or, pick_and, pick_or', pick_and', Bool.not_not, ite_bool, dlV_cell, cells_agg, cells_str, cells_int, cells_bool, cells_sim, cells_snil, List.getD_cons_zero, List.getD_cons_succ, beq_tt, beq_ft, ite_same, imp_true, lookOk, lookRes, sfOf, sgOf, hOk, hRes, hOut, aimP_q, one_int, one_bool, one_str, one_sim, one_snil, one_fn, Int.toNat_natCast, Nat.zero_add, Int.toNat_zero, natCast_fold, Int.ofNat_eq_natCast, isB_bool, beq_self_eq_true, dIsAgg_agg, bel_d, bel7_d, bel_aggd, List.all_cons, List.all_nil, Bool.and_self, Bool.and_true, Bool.true_and, dlV_enc, enc_cells, lst_encO, isSl_encO, one_encO, lst_encS, isSl_encS, one_encS, isAgg_enc, toV_enc, isV_enc, toVs_enc, isVs_enc, toSs_enc, isSs_enc, e57, e56, ms, m3, wrap_cnt]
    by_cases h0 : cmpIs [v.k, v.n, v.e] [w.k, w.n, w.e] = 0
    · rw [thn_eq h0] at ha
      by_cases h1 : v.s = w.s
      · rw [thn_eq ((cmpS_zero _ _).2 h1)] at ha
        simp [h0, h1]
        refine loop_rule (kend := fun I => kEndF I Tb [.tmp 4]) hI hF (sfOk (.cons ok57 (.cons ok56 (.cons ok58' .nil)))) TbOk (by exact fun Bk e s h => endF TbOk Bk e s h) (lv := lv36) 0 (fun i : {i : Nat // i ≤ v.names.length ∧ i ≤ w.names.length ∧ cmpN v.names w.names = cmpN (v.names.drop i) (w.names.drop i)} => [.loc 0 6 0 0, .loc 1 6 0 0, .d (.int .i64 (i.1 : Int))]) (fun i : {i : Nat // i ≤ v.names.length ∧ i ≤ w.names.length ∧ cmpN v.names w.names = cmpN (v.names.drop i) (w.names.drop i)} => [(0, some ⟨[.d v.enc], 6, 25, true, true⟩), (1, some ⟨[.d w.enc], 6, 25, true, true⟩)]) (fun i : {i : Nat // i ≤ v.names.length ∧ i ≤ w.names.length ∧ cmpN v.names w.names = cmpN (v.names.drop i) (w.names.drop i)} => v.names.length - i.1) [0, 1] (⟨0, by omega, by omega, by simp⟩ : {i : Nat // i ≤ v.names.length ∧ i ≤ w.names.length ∧ cmpN v.names w.names = cmpN (v.names.drop i) (w.names.drop i)}) (by rfl) (by rfl) ?_ ?_ fun i => ?_
        · rfl
        · rfl
        obtain ⟨i, hi1, hi2, hi3⟩ := i
        refine boxed fun C hC => ?_
        generalize hgen0 : v.enc = gen0
        generalize hgen1 : w.enc = gen1
        generalize hgen2 : DV.int .i64 (i : Int) = gen2
        cbv
        subst hgen0
        subst hgen1
        subst hgen2
        subst hC
        refine ⟨?_⟩
        simp only [hI, hF, std]
        have w3 := wrap_succ (n := i) (by have := V.ok_nl hv; omega)
        have e1 : v.nm.getD [] = v.names := rfl
        have e2 : w.nm.getD [] = w.names := rfl
        have e3 : v.it.getD [] = v.items := rfl
        by_cases hlt : i < v.names.length ∧ i < w.names.length
        · have g1 := get_str _ _ hlt.1
          have g2 := get_str _ _ hlt.2
          have hs := cmpN_step v.names w.names i hlt.1 hlt.2
          simp only [ib_add, ib_sub, ib_mul, ib_eql, ib_neq, ib_lss, ib_leq, ib_gtr, ib_geq, sb_eql, sb_neq, sb_lss, sb_gtr, eqI_eq, ltI_eq, leI_eq, eqB_eq, isIK_int, isIK_ite, isStrD_ite, asInt_ite, sat_req, sat_ite, sat_ret, sat_back, aimF_q, aimR_q, into_q, into_bk, binV_add, binV_sub, binV_mul, binV_eql, binV_neq, binV_lss, binV_leq, binV_gtr, binV_geq, binV_seql, binV_sneq, bbinV_eql, bbinV_neq, unV_not, unV_neg, convV_int, asBool_ite, isBoolD_ite, isBUD_ite, grdD_ite, grdD_bool, grdD_tup, isBUD_tup, isBUD_bool, isBoolD_tup, isBoolD_bool, asBool_tup, asBool_bool, isIntD_int, isStrD_str, asInt_int, asStr_str, lstD_sim, lstD_snil, isSlD_sim, isSlD_snil, isSnil_sim, isSnil_snil, Option.isSome_some, Option.getD_some, true_and, and_true, ↓reduceIte, Nat.reduceEqDiff, reduceCtorEq, pick_or, pick_and, pick_or', pick_and', Bool.not_not, ite_bool, dlV_cell, cells_agg, cells_str, cells_int, cells_bool, cells_sim, cells_snil, List.getD_cons_zero, List.getD_cons_succ, beq_tt, beq_ft, ite_same, imp_true, lookOk, lookRes, sfOf, sgOf, hOk, hRes, hOut, aimP_q, one_int, one_bool, one_str, one_sim, one_snil, one_fn, Int.toNat_natCast, Nat.zero_add, Int.toNat_zero, natCast_fold, Int.ofNat_eq_natCast, isB_bool, beq_self_eq_true, dIsAgg_agg, bel_d, bel7_d, bel_aggd, List.all_cons, List.all_nil, Bool.and_self, Bool.and_true, Bool.true_and, dlV_enc, enc_cells, lst_encO, isSl_encO, one_encO, lst_encS, isSl_encS, one_encS, isAgg_enc, toV_enc, isV_enc, toVs_enc, isVs_enc, toSs_enc, isSs_enc, g1, g2, e57, e56, e1, e2, List.length_map, wrap_cnt]
          simp [hlt, w3, - List.getD_eq_getElem?_getD]
          refine ⟨fun h => ?_, fun h => ⟨i + 1, by omega, ⟨by omega, by omega, ?_⟩, by simp⟩⟩
          · have h2 := cmpS_gtr h
            rw [ha, hi3, hs, thn_assoc, thn_ne (fun e => h ((cmpS_zero _ _).1 e)), ← h2]
            simp [h]
          · rw [hi3, hs, thn_eq ((cmpS_zero _ _).2 h)]
        · have he := cmpN_end v.names w.names i hlt hi1 hi2
          simp only [ib_add, ib_sub, ib_mul, ib_eql, ib_neq, ib_lss, ib_leq, ib_gtr, ib_geq, sb_eql, sb_neq, sb_lss, sb_gtr, eqI_eq, ltI_eq, leI_eq, eqB_eq, isIK_int, isIK_ite, isStrD_ite, asInt_ite, sat_req, sat_ite, sat_ret, sat_back, aimF_q, aimR_q, into_q, into_bk, binV_add, binV_sub, binV_mul, binV_eql, binV_neq, binV_lss, binV_leq, binV_gtr, binV_geq, binV_seql, binV_sneq, bbinV_eql, bbinV_neq, unV_not, unV_neg, convV_int, asBool_ite, isBoolD_ite, isBUD_ite, grdD_ite, grdD_bool, grdD_tup, isBUD_tup, isBUD_bool, isBoolD_tup, isBoolD_bool, asBool_tup, asBool_bool, isIntD_int, isStrD_str, asInt_int, asStr_str, lstD_sim, lstD_snil, isSlD_sim, isSlD_snil, isSnil_sim, isSnil_snil, Option.isSome_some, Option.getD_some, true_and, and_true, ↓reduceIte, Nat.reduceEqDiff, reduceCtorEq, pick_or, pick_and, pick_or', pick_and', Bool.not_not, ite_bool, dlV_cell, cells_agg, cells_str, cells_int, cells_bool, cells_sim, cells_snil, List.getD_cons_zero, List.getD_cons_succ, beq_tt, beq_ft, ite_same, imp_true, lookOk, lookRes, sfOf, sgOf, hOk, hRes, hOut, aimP_q, one_int, one_bool, one_str, one_sim, one_snil, one_fn, Int.toNat_natCast, Nat.zero_add, Int.toNat_zero, natCast_fold, Int.ofNat_eq_natCast, isB_bool, beq_self_eq_true, dIsAgg_agg, bel_d, bel7_d, bel_aggd, List.all_cons, List.all_nil, Bool.and_self, Bool.and_true, Bool.true_and, dlV_enc, enc_cells, lst_encO, isSl_encO, one_encO, lst_encS, isSl_encS, one_encS, isAgg_enc, toV_enc, isV_enc, toVs_enc, isVs_enc, toSs_enc, isSs_enc, e57, e56, e1, e2, List.length_map, wrap_cnt, scalarV_enc]
          simp [- List.getD_eq_getElem?_getD]
          refine ⟨fun a b => absurd ⟨a, b⟩ hlt, fun _ => ⟨fun h => ?_, fun h => ?_⟩⟩
          · rw [ha, hi3, he, thn_ne (fun e => h ((cmpI_zero _ _).1 e))]
            unfold cmpI; split <;> split <;> (try split) <;> omega
          · rw [ha, hi3, he, thn_eq ((cmpI_zero _ _).2 h)]
      · have h2 := cmpS_gtr h1
        rw [thn_ne (fun e => h1 ((cmpS_zero _ _).1 e))] at ha
        simp [h0, h1, ha, ← h2]
    · rw [thn_ne h0] at ha
      simp [h0, ha]
theorem pc36 (v w : V) (hv : v.ok) (hw : w.ok) : PureCall Tryz.prog [0] 36 [v.enc, w.enc] (dRet (.int .i64 (cmpV v w))) := pc36n (v.sz + 1) v w hv hw (by omega)
open Classical in
noncomputable def e36 : Ent := ⟨36, fun | [d_v, d_w] => decide (isV d_v ∧ isV d_w) | _ => false, fun | [d_v, d_w] => .int .i64 (cmpV (toV d_v) (toV d_w)) | _ => .inil⟩
open Classical in
theorem ok36 : EntOk Tryz.prog [0] e36 := fun ds h => by
  unfold e36 at h ⊢
  simp only at h ⊢
  split at h
  · rw [decide_eq_true_iff] at h
    obtain ⟨⟨v0, rfl, k0⟩, ⟨v1, rfl, k1⟩⟩ := h
    simp only [toV_enc, toVs_enc, toSs_enc]
    exact pc36 _ _ k0 k1
  · cases h
end Go.Proofs.Sx
