/- Functions of Go's library by the shelf; names as the program tests them. -/
import Derived.Test.YtmjkaekhjmlnbaaGreatDoorSx1
import Derived.Test.YtmjkaekhjmlnbaaGreatDoorTryzShelf
import Derived.Test.YtmjkaekhjmlnbaaGreatDoorSxBase
import Derived.Test.YtmjkaekhjmlnbaaGreatDoorAmPtr
set_option linter.unusedVariables false
set_option linter.unusedSimpArgs false
set_option maxRecDepth 100000
namespace Go.Proofs.Sx
open Go Go.Proofs Go.Proofs.Am 
variable {gs : List Nat}

/-- A contract that leaves the world alone and hands back a number or a bool. -/
theorem pure_of_calls {f : FuncId} {args : List DV} {d : DV} {x : Value} (hent : enterOk Tryz.prog f = true) (hd : scalar0 d = true)
    (h : ∀ (w : World) (A : Nat → Prop) (vals : Array Value), vals.size = args.length → (∀ i, i < args.length → DRep w A (args.getD i .inil) (vals.getD i undef)) → GInt gs w →
      DRep w A d x ∧ Calls Tryz.prog f vals w fun e w' => e = .returned x ∧ w' = w) : PureCall Tryz.prog gs f args (dRet d) := by
  refine ⟨hent, fun w A vals hA hl hr hG => ?_⟩
  obtain ⟨h1, h2⟩ := h w A vals hl hr hG
  refine h2.mono fun e w' hq => ?_
  obtain ⟨rfl, rfl⟩ := hq
  exact ⟨x, rfl, A, fun _ => none, ⟨rfl, rfl, rfl, Nat.le_refl _, fun _ _ => rfl⟩, fun g h => h, fun g h => .inl h, hA, .d _ _ h1, (fun b k h => by simp [dRet] at h), (fun b q b' q' h => by cases h), (fun b q h => by cases h)⟩

theorem two_str {w : World} {A : Nat → Prop} {a b : ByteArray} {vals : Array Value} (hl : vals.size = 2) (hr : ∀ i, i < 2 → DRep w A ([DV.str a, .str b].getD i .inil) (vals.getD i undef)) : vals = #[.string a, .string b] := by
  have h0 := hr 0 (by omega)
  have h1 := hr 1 (by omega)
  simp only [List.getD_cons_zero, List.getD_cons_succ] at h0 h1
  apply Array.ext (by simpa using hl)
  intro i hi hi2
  have hi3 : i < 2 := by simpa using hi2
  have e : vals.getD i undef = vals[i] := by simp [Array.getD, hi]
  rcases (by omega : i = 0 ∨ i = 1) with rfl | rfl
  · rw [← e]; generalize vals.getD 0 undef = v at h0; cases h0; rfl
  · rw [← e]; generalize vals.getD 1 undef = v at h1; cases h1; rfl

theorem pc85 (a b : ByteArray) : PureCall Tryz.prog gs 85 [.str a, .str b] (dRet (.int .i64 (Lib.compareBytes a.data.toList b.data.toList))) := by
  refine pure_of_calls (by kernel_rfl) rfl fun w A vals hl hr hG => ⟨.int _ _, ?_⟩
  rw [two_str hl hr]
  exact Tryz.strings_Compare a b w
noncomputable def e85 : Ent := ⟨85, fun | [.str _, .str _] => true | _ => false, fun | [.str a, .str b] => .int .i64 (Lib.compareBytes a.data.toList b.data.toList) | _ => .inil⟩
open Classical in
theorem ok85 : EntOk Tryz.prog [0] e85 := fun ds h => by
  unfold e85 at h ⊢
  simp only at h ⊢
  split at h
  · exact pc85 _ _
  · cases h
theorem pc39 (a b : ByteArray) (h : a.size < 4294967281) : PureCall Tryz.prog [0] 39 [.str a, .str b] (dRet (.bool (Lib.contains a.data.toList b.data.toList))) := by
  refine pure_of_calls (by kernel_rfl) rfl fun w A vals hl hr hG => ⟨.bool _, ?_⟩
  rw [two_str hl hr]
  obtain ⟨m, hm⟩ := hG 0 (by simp)
  exact Tryz.strings_Contains a b m w h hm
open Classical in
noncomputable def e39 : Ent := ⟨39, fun | [.str a, .str b] => decide (a.size < 4294967281) | _ => false, fun | [.str a, .str b] => .bool (Lib.contains a.data.toList b.data.toList) | _ => .inil⟩
theorem ok39 : EntOk Tryz.prog [0] e39 := fun ds h => by
  unfold e39 at h ⊢
  simp only at h ⊢
  split at h
  · exact pc39 _ _ (of_decide_eq_true h)
  · cases h

theorem idx_cons (b : UInt8) (l sub : List UInt8) : (0 ≤ Lib.index (b :: l) sub) ↔ (sub.isPrefixOf (b :: l) = true ∨ 0 ≤ Lib.index l sub) := by
  have hge := Lib.index_ge l sub
  rw [Lib.index]
  split
  · rename_i h; simp [h]
  · rename_i h
    split
    · rename_i h2; simp only [beq_iff_eq] at h2; simp [h, h2]
    · rename_i h2; simp only [beq_iff_eq] at h2; simp [h]; omega

theorem contains_dd : ∀ (l : List UInt8), Lib.contains l [45, 45] = true ↔ ∃ i : Nat, l[i]? = some 45 ∧ l[i + 1]? = some 45
  | [] => by simp [Lib.contains, Lib.index]
  | b :: l => by
    have ih := contains_dd l
    simp only [Lib.contains, decide_eq_true_eq] at ih ⊢
    rw [idx_cons, ih]
    constructor
    · rintro (h | ⟨i, h1, h2⟩)
      · refine ⟨0, ?_⟩
        cases l with
        | nil => simp [List.isPrefixOf] at h
        | cons c l =>
          simp only [List.isPrefixOf, Bool.and_true, Bool.and_eq_true, beq_iff_eq] at h
          simp [← h.1, ← h.2]
      · exact ⟨i + 1, by simpa using h1, by simpa using h2⟩
    · rintro ⟨i, h1, h2⟩
      cases i with
      | zero =>
        left
        cases l with
        | nil => simp at h2
        | cons c l => simp at h1 h2; simp [List.isPrefixOf, h1, h2]
      | succ i => right; exact ⟨i, by simpa using h1, by simpa using h2⟩

theorem byt_iff (s : ByteArray) (i : Nat) (h : i < s.size) (n : UInt8) : byt s i = n.toNat ↔ s.data.toList[i]? = some n := by
  have h' : i < s.data.toList.length := by simpa using h
  simp only [byt, List.getD, List.getElem?_eq_getElem h', Option.getD_some, Option.some.injEq]
  constructor
  · intro h; exact UInt8.toNat_inj.1 (by exact_mod_cast h)
  · intro h; rw [h]

theorem byt_lt (s : ByteArray) (i : Nat) : 0 ≤ byt s i ∧ byt s i ≤ 255 := by
  have : (s.data.toList.getD i 0).toNat < 256 := (s.data.toList.getD i 0).toNat_lt
  unfold byt; omega

theorem contains_byt (s : ByteArray) : Lib.contains s.data.toList [45, 45] = true ↔ ∃ i, i + 1 < s.size ∧ byt s i = 45 ∧ byt s (i + 1) = 45 := by
  rw [contains_dd]
  constructor
  · rintro ⟨i, h1, h2⟩
    have hi : i + 1 < s.size := by
      have := (List.getElem?_eq_some_iff.1 h2).1
      simpa using this
    exact ⟨i, hi, (byt_iff s i (by omega) 45).2 h1, (byt_iff s (i + 1) hi 45).2 h2⟩
  · rintro ⟨i, hi, h1, h2⟩
    exact ⟨i, (byt_iff s i (by omega) 45).1 h1, (byt_iff s (i + 1) hi 45).1 h2⟩

theorem last_byt (s : ByteArray) (h : 1 ≤ s.size) : s.extract (s.size - 1) s.size = ⟨#[45]⟩ ↔ byt s (s.size - 1) = 45 := by
  rw [show (45 : Int) = ((45 : UInt8).toNat : Int) from rfl, byt_iff s _ (by omega)]
  constructor
  · intro he
    have h2 : (s.extract (s.size - 1) s.size).data.toList = [45] := by rw [he]
    rw [ByteArray.data_extract] at h2
    have h3 : ((s.data.extract (s.size - 1) s.size).toList)[0]? = some 45 := by rw [h2]; rfl
    simp only [Array.toList_extract, List.extract_eq_take_drop] at h3
    rw [List.getElem?_take] at h3
    split at h3
    · simpa using h3
    · cases h3
  · intro he
    apply ByteArray.ext
    rw [ByteArray.data_extract]
    apply Array.ext'
    have hl : s.data.toList.length = s.size := by simp
    simp only [Array.toList_extract, List.extract_eq_take_drop]
    have : s.size - (s.size - 1) = 1 := by omega
    rw [this]
    have hd : s.data.toList.drop (s.size - 1) = [45] := by
      apply List.ext_getElem?
      intro i
      rw [List.getElem?_drop]
      cases i with
      | zero => simpa using he
      | succ i => rw [List.getElem?_eq_none (by omega)]; simp
    rw [hd]; rfl

/-- The program's test of a name's byte. -/
def ByteP (s : ByteArray) (i : Nat) : Prop :=
  (97 ≤ byt s i ∧ byt s i ≤ 122) ∨ (65 ≤ byt s i ∧ byt s i ≤ 90) ∨ (i ≠ 0 ∧ (byt s i = 45 ∨ byt s i = 95 ∨ (48 ≤ byt s i ∧ byt s i ≤ 57)))
theorem nameP_iff (s : ByteArray) : NameP s ↔ (1 ≤ s.size ∧ s.size ≤ 32) ∧ byt s (s.size - 1) ≠ 45 ∧ ¬ Lib.contains s.data.toList [45, 45] = true ∧ ∀ i, i < s.size → ByteP s i := by
  rw [contains_byt]
  constructor
  · rintro ⟨h1, h2, h3, h4, h5⟩
    refine ⟨⟨h1, h2⟩, h4, ?_, fun i hi => ?_⟩
    · rintro ⟨i, hi, ha, hb⟩
      have := h5 (i + 1) (by omega) hi
      unfold NameB at this
      simp only [Nat.add_sub_cancel] at this
      omega
    · unfold ByteP
      rcases Nat.eq_zero_or_pos i with rfl | hp
      · omega
      · have := h5 i hp hi
        unfold NameB at this
        omega
  · rintro ⟨⟨h1, h2⟩, h3, h4, h5⟩
    refine ⟨h1, h2, ?_, h3, fun i hi hlt => ?_⟩
    · have := h5 0 (by omega); unfold ByteP at this; omega
    · have := h5 i hlt
      unfold ByteP at this
      unfold NameB
      have h6 : byt s i = 45 → byt s (i - 1) ≠ 45 := fun ha hb => h4 ⟨i - 1, by omega, hb, by rw [show i - 1 + 1 = i by omega]; exact ha⟩
      omega
theorem nameOk_f (s : ByteArray) : nameOk s = false ↔ ¬ NameP s := by simp [nameOk]
theorem nameOk_t (s : ByteArray) : nameOk s = true ↔ NameP s := by simp [nameOk]
def lv21 : Nat → List Nat × List Nat
  | 4 => ([0, 23, 24, 25], [0])
  | _ => ([], [])
theorem pc21 (s : ByteArray) (hs : s.size ≤ 1048576) : PureCall Tryz.prog [0] 21 [.str s] (dRet (.bool (nameOk s))) := by
  refine pure_of_tree mixed fn21 (Nat.le_of_ble_eq_true rfl) (Nat.lt_of_succ_le (Nat.le_of_ble_eq_true rfl)) (sfOk (.cons ok38 (.cons ok39 .nil))) TbOk (lv := lv21) fun I F hI hF => ?_
  refine boxed fun C hC => ?_
  cbv
  subst hC
  refine ⟨?_⟩
  simp only [hI, hF, std]
  simp only [ib_add, ib_sub, ib_mul, ib_eql, ib_neq, ib_lss, ib_leq, ib_gtr, ib_geq, sb_eql, sb_neq, sb_lss, sb_gtr, eqI_eq, ltI_eq, leI_eq, eqB_eq, isIK_int, isIK_ite, isStrD_ite, asInt_ite, sat_req, sat_ite, sat_ret, sat_back, aimF_q, aimR_q, into_q, into_bk, binV_add, binV_sub, binV_mul, binV_eql, binV_neq, binV_lss, binV_leq, binV_gtr, binV_geq, binV_seql, binV_sneq, bbinV_eql, bbinV_neq, unV_not, unV_neg, convV_int, asBool_ite, isBoolD_ite, isBUD_ite, grdD_ite, grdD_bool, grdD_tup, isBUD_tup, isBUD_bool, isBoolD_tup, isBoolD_bool, asBool_tup, asBool_bool, isIntD_int, isStrD_str, asInt_int, asStr_str, lstD_sim, lstD_snil, isSlD_sim, isSlD_snil, isSnil_sim, isSnil_snil, Option.isSome_some, Option.getD_some, true_and, and_true, ↓reduceIte, Nat.reduceEqDiff, reduceCtorEq, pick_or, pick_and, pick_or', pick_and', Bool.not_not, ite_bool, dlV_cell, cells_agg, cells_str, cells_int, cells_bool, cells_sim, cells_snil, List.getD_cons_zero, List.getD_cons_succ, beq_tt, beq_ft, ite_same, imp_true, lookOk, lookRes, sfOf, sgOf, hOk, hRes, hOut, aimP_q, one_int, one_bool, one_str, one_sim, one_snil, one_fn, Int.toNat_natCast, Nat.zero_add, Int.toNat_zero, natCast_fold, Int.ofNat_eq_natCast, isB_bool, beq_self_eq_true, dIsAgg_agg, bel_d, bel7_d, bel_aggd, List.all_cons, List.all_nil, Bool.and_self, Bool.and_true, Bool.true_and, e38, e39]
  have hs1 : s.size ≤ 1152921504606846976 := by omega
  have hs2 : s.size < 4294967281 := by omega
  by_cases h1 : 1 ≤ s.size ∧ s.size ≤ 32
  · have h1' : (1 : Int) ≤ s.size ∧ (s.size : Int) ≤ 32 := by omega
    have hh : (⟨#[45]⟩ : ByteArray).size = 1 := rfl
    by_cases h2 : byt s (s.size - 1) = 45
    · have hn : nameOk s = false := by rw [nameOk_f, nameP_iff]; exact fun h => h.2.1 h2
      simp [hs1, hs2, h1', hn, h1, h2, hh, last_byt]
    · by_cases h3 : Lib.contains s.data.toList [45, 45] = true
      · have hn : nameOk s = false := by rw [nameOk_f, nameP_iff]; exact fun h => h.2.2.1 h3
        simp [hs1, hs2, h1', hn, h1, h2, h3, hh, last_byt]
      · have h3' : Lib.contains s.data.toList [45, 45] = false := by simpa using h3
        simp [hs1, hs2, h1', h1, h2, h3', hh, last_byt]
        refine ⟨fun h => by omega, fun x hx => List.all_eq_true.1 (bytesA_bel s 1) x hx, ?_⟩
        refine loop_rule (kend := fun I => kEndF I Tb [.tmp 2]) hI hF (sfOk (.cons ok38 (.cons ok39 .nil))) TbOk (by exact fun Bk e s h => endF TbOk Bk e s h) (lv := lv21) 0 (fun i : {i : Nat // i ≤ s.size ∧ ∀ j, j < i → ByteP s j} => [.d (.str s), .slc 0 1 0 s.size, .d (.int .i64 (s.size : Int)), .d (.int .i64 (i.1 : Int))]) (fun i : {i : Nat // i ≤ s.size ∧ ∀ j, j < i → ByteP s j} => [(0, some ⟨bytesA s, 1, 5, true, false⟩)]) (fun i : {i : Nat // i ≤ s.size ∧ ∀ j, j < i → ByteP s j} => s.size - i.1) [0] (⟨0, by omega, fun j h => by omega⟩ : {i : Nat // i ≤ s.size ∧ ∀ j, j < i → ByteP s j}) (by rfl) (by rfl) ?_ ?_ fun i => ?_
        · rfl
        · rfl
        obtain ⟨i, hi1, hi2⟩ := i
        refine boxed fun C hC => ?_
        generalize hgen0 : bytesA s = gen0
        generalize hgen1 : DV.int .i64 (i : Int) = gen1
        generalize hgen2 : DV.int .i64 (s.size : Int) = gen2
        generalize hgen3 : s.size = gen3
        generalize hgen4 : DV.str s = gen4
        cbv
        subst hgen0
        subst hgen1
        subst hgen2
        subst hgen3
        subst hgen4
        subst hC
        refine ⟨?_⟩
        simp only [hI, hF, std]
        have w3 := wrap_succ (n := i) (by omega)
        simp only [ib_add, ib_sub, ib_mul, ib_eql, ib_neq, ib_lss, ib_leq, ib_gtr, ib_geq, sb_eql, sb_neq, sb_lss, sb_gtr, eqI_eq, ltI_eq, leI_eq, eqB_eq, isIK_int, isIK_ite, isStrD_ite, asInt_ite, sat_req, sat_ite, sat_ret, sat_back, aimF_q, aimR_q, into_q, into_bk, binV_add, binV_sub, binV_mul, binV_eql, binV_neq, binV_lss, binV_leq, binV_gtr, binV_geq, binV_seql, binV_sneq, bbinV_eql, bbinV_neq, unV_not, unV_neg, convV_int, asBool_ite, isBoolD_ite, isBUD_ite, grdD_ite, grdD_bool, grdD_tup, isBUD_tup, isBUD_bool, isBoolD_tup, isBoolD_bool, asBool_tup, asBool_bool, isIntD_int, isStrD_str, asInt_int, asStr_str, lstD_sim, lstD_snil, isSlD_sim, isSlD_snil, isSnil_sim, isSnil_snil, Option.isSome_some, Option.getD_some, true_and, and_true, ↓reduceIte, Nat.reduceEqDiff, reduceCtorEq, pick_or, pick_and, pick_or', pick_and', Bool.not_not, ite_bool, dlV_cell, cells_agg, cells_str, cells_int, cells_bool, cells_sim, cells_snil, List.getD_cons_zero, List.getD_cons_succ, beq_tt, beq_ft, ite_same, imp_true, lookOk, lookRes, sfOf, sgOf, hOk, hRes, hOut, aimP_q, one_int, one_bool, one_str, one_sim, one_snil, one_fn, Int.toNat_natCast, Nat.zero_add, Int.toNat_zero, natCast_fold, Int.ofNat_eq_natCast, isB_bool, beq_self_eq_true, dIsAgg_agg, bel_d, bel7_d, bel_aggd, List.all_cons, List.all_nil, Bool.and_self, Bool.and_true, Bool.true_and, e38, e39]
        by_cases hlt : i < s.size
        · have g1 := dgetA_bytes s i hlt
          have g2 := isDat_bytes s i hlt
          have g3 := List.all_eq_true.1 (bytesA_bel s 1)
          simp only [hlt, g1, g2, w3, bytesA_len, bytesA_bel, ib_add, ib_sub, ib_mul, ib_eql, ib_neq, ib_lss, ib_leq, ib_gtr, ib_geq, sb_eql, sb_neq, sb_lss, sb_gtr, eqI_eq, ltI_eq, leI_eq, eqB_eq, isIK_int, isIK_ite, isStrD_ite, asInt_ite, sat_req, sat_ite, sat_ret, sat_back, aimF_q, aimR_q, into_q, into_bk, binV_add, binV_sub, binV_mul, binV_eql, binV_neq, binV_lss, binV_leq, binV_gtr, binV_geq, binV_seql, binV_sneq, bbinV_eql, bbinV_neq, unV_not, unV_neg, convV_int, asBool_ite, isBoolD_ite, isBUD_ite, grdD_ite, grdD_bool, grdD_tup, isBUD_tup, isBUD_bool, isBoolD_tup, isBoolD_bool, asBool_tup, asBool_bool, isIntD_int, isStrD_str, asInt_int, asStr_str, lstD_sim, lstD_snil, isSlD_sim, isSlD_snil, isSnil_sim, isSnil_snil, Option.isSome_some, Option.getD_some, true_and, and_true, ↓reduceIte, Nat.reduceEqDiff, reduceCtorEq, pick_or, pick_and, pick_or', pick_and', Bool.not_not, ite_bool, dlV_cell, cells_agg, cells_str, cells_int, cells_bool, cells_sim, cells_snil, List.getD_cons_zero, List.getD_cons_succ, beq_tt, beq_ft, ite_same, imp_true, lookOk, lookRes, sfOf, sgOf, hOk, hRes, hOut, aimP_q, one_int, one_bool, one_str, one_sim, one_snil, one_fn, Int.toNat_natCast, Nat.zero_add, Int.toNat_zero, natCast_fold, Int.ofNat_eq_natCast, isB_bool, beq_self_eq_true, dIsAgg_agg, bel_d, bel7_d, bel_aggd, List.all_cons, List.all_nil, Bool.and_self, Bool.and_true, Bool.true_and, Nat.zero_add, Int.toNat_natCast]
          simp [hlt, nameOk_f]
          repeat' (first | apply And.intro | intro _)
          all_goals first | omega | skip
          · rename_i h
            have := ((nameP_iff s).1 h).2.2.2 i hlt
            unfold ByteP at this
            omega
          · refine ⟨i + 1, by omega, ⟨by omega, fun j hj => ?_⟩, by first | rfl | simp⟩
            by_cases hji : j = i
            · subst hji; unfold ByteP; omega
            · exact hi2 j (by omega)
        · simp [hlt, nameOk_t]
          exact (nameP_iff s).2 ⟨h1, h2, h3, fun j hj => hi2 j (by omega)⟩
  · have h2 : nameOk s = false := by rw [nameOk_f, nameP_iff]; exact fun h => h1 h.1
    have h1' : (1 : Int) ≤ s.size → ¬ (s.size : Int) ≤ 32 := fun a b => h1 (by omega)
    simp [h2, hs1, hs2]
    repeat' (first | apply And.intro | intro _)
    all_goals first | omega | skip
open Classical in
noncomputable def e21 : Ent := ⟨21, fun | [.str s] => decide (s.size ≤ 1048576) | _ => false, fun | [.str s] => .bool (nameOk s) | _ => .inil⟩
open Classical in
theorem ok21 : EntOk Tryz.prog [0] e21 := fun ds h => by
  unfold e21 at h ⊢
  simp only at h ⊢
  split at h
  · exact pc21 _ (of_decide_eq_true h)
  · cases h
end Go.Proofs.Sx
