/- For every value of at most 1048576 values and letters, the law 'examinerlaw20.ExpressionWrites' returns true, and what it was handed reads as it did. -/
import Derived.Test.YtjmglhioohndhaaGreatDoorP6
import Derived.Test.YtjmglhioohndhaaGreatDoorP3
import Derived.Test.YtjmglhioohndhaaGreatDoorP4
import Derived.Test.YtjmglhioohndhaaGreatDoorP5
import Derived.Test.YtjmglhioohndhaaGreatDoorRows
import Derived.WalkKit
import Derived.ProofKit
import Derived.OpenShut
import Derived.Deep.DeepHandedRow
import Derived.Lay
import Derived.Carry
import Derived.Test.YtjmglhioohndhaaGreatDoorCards
import Derived.Test.YtjmglhioohndhaaGreatDoorTie

set_option linter.unusedVariables false
set_option linter.unusedSimpArgs false
set_option maxRecDepth 100000
namespace Go.Proofs.Sx
open Go Go.Proofs Go.Proofs.Am 
variable {gs : List Nat}

theorem getE9 (l : List V) (i : Nat) (h : i < l.length) : (l.map V.enc).getD i .inil = (l.getD i default).enc := by
  simp [List.getD, h]
theorem pc15 (k n : Int) (s : ByteArray) : PureCall Tryz.prog [0] 17 [.int .i64 k, .int .i64 n, .str s] (dRet (encT (some [⟨k, n, s, none, none⟩]))) := by
  refine zD0 mixed fn15 (Nat.le_of_ble_eq_true rfl) (Nat.lt_of_succ_le (Nat.le_of_ble_eq_true rfl)) (sfOk .nil) TbOk (lv := lv0) fun I F hI hF => ?_
  refine zE2 fun C hC => ?_
  generalize Q0 : DV.int .i64 k = Z0
  generalize Q1 : DV.int .i64 n = Z1
  generalize Q2 : DV.str s = Z2
  cbv
  subst Q0 Q1 Q2
  subst hC
  refine ⟨?_⟩
  simp (maxSteps:=9999999) only [hI, hF, std]
  simp only [smp, smo, lookOk, lookRes, sfOf, ↓reduceIte, Nat.reduceEqDiff, reduceCtorEq, qA, qB]
  simp [- List.getD_eq_getElem?_getD, encT, encN, encS, encIs]
noncomputable def e15 : Ent := ⟨17, fun | [.int .i64 _, .int .i64 _, .str _] => true | _ => false, fun | [.int .i64 k, .int .i64 n, .str s] => encT (some [⟨k, n, s, none, none⟩]) | _ => .inil⟩
open Classical in
theorem ok15 : EntOk Tryz.prog [0] e15 := fun ds h => by
  unfold e15 at h ⊢
  simp only at h ⊢
  split at h
  · exact pc15 _ _ _
  · cases h
open Classical in
noncomputable def e32 : Ent := ⟨37, fun | [a, b] => decide (isJ a b) | _ => false, fun | [a, b] => encT (some (joinT shR (xR (toN a)) ((toTs b).getD []))) | _ => .inil⟩
open Classical in
theorem ok32 : EntOk Tryz.prog [0] e32 := fun ds h => by
  unfold e32 at h ⊢
  simp only at h ⊢
  split at h
  · rw [decide_eq_true_iff] at h
    obtain ⟨x, o, rfl, rfl, h1, h2, h3⟩ := h
    simp only [zC8, toTs_enc]
    exact pc32 x o h1 h2 h3
  · cases h
theorem jfinR {v : V} {r : DV} (root : Nd) (o : Option (List (List Nd))) (hJ : okN root ∧ JOk (o.getD []) ∧ totL (o.getD []) ≤ 1000000) (hq : joinT shR (xR root) (o.getD []) = tm shR hR v) (hr : encT (some (tm shR hR v)) = r) :
    isJ (encN root) (encTs o) ∧ encT (some (joinT shR (xR (toN (encN root))) ((toTs (encTs o)).getD []))) = r := by
  rw [isJ_enc, zC8, toTs_enc]
  exact ⟨hJ, (congrArg (fun t => encT (some t)) hq).trans hr⟩
theorem okN_mk9 {k n : Int} {s : ByteArray} {nm : Option (List ByteArray)} (hs : s.size ≤ 1048576) (hn : okS0 nm) : okN ⟨k, n, s, nm, none⟩ := ⟨hs, hn, by show 0 ≤ _; omega⟩
theorem leafR {v : V} {root : Nd} (h : leafK v.k = true) (hq : rootV hR v.k v.n v.s v.nm = root) (ha : root.ar = none) : encT (some [root]) = encT (some (tm shR hR v)) := by
  rw [zI8, h, if_pos rfl, hq]
  cases root with | mk k n s nm ar => cases ha; rfl
def TbW79T : BT := (.node 2000037 ⟨none, .other, [], none⟩ .nil (.node 7000037 ⟨none, .other, [], none⟩ .nil .nil))
def TbW79 : Nat → Option TRow := orT TbW79T.get Tb
theorem TbW79Ok : TabOk Tryz.prog TbW79 := tabOk_or (zI2 (by kernel_rfl)) TbOk
def lv3026 : Nat → List Nat × List Nat
  | 18 => ([1, 3, 4], [0, 10003])
  | _ => ([], [])
set_option maxHeartbeats 4000000 in
theorem pc3026n (N : Nat) (h22 : ∀ v : V, v.ok → v.sz < N → PureCall Tryz.prog [0] 26 [v.enc] (dRet (encT (some (tm shR hR v))))) (v : V) (hv : v.ok) (hs : v.sz ≤ N) (hN : v.sz ≤ 1000) :
    PureCall Tryz.prog [0] 26 [v.enc] (dRet (encT (some (tm shR hR v)))) := by
  generalize hr : encT (some (tm shR hR v)) = r
  have ok3026' := okVn (r := fun v => encT (some (tm shR hR v))) h22
  have hil := V.ok_il hv
  have hil' : (v.it.getD []).length ≤ 1048576 := hil
  refine zD0 mixed fn3026 (Nat.le_of_ble_eq_true rfl) (Nat.lt_of_succ_le (Nat.le_of_ble_eq_true rfl)) (sfOk (.cons ok3026' (.cons ok15 (.cons ok32 .nil)))) TbW79Ok (lv := lv3026) fun I F hI hF => ?_
  refine zE2 fun C hC => ?_
  generalize Q0 : v.enc = Z0
  generalize Q1 : r = Z1
  cbv
  subst Q0 Q1
  subst hC
  refine ⟨?_⟩
  simp (maxSteps:=9999999) only [hI, hF, std]
  simp only [smp, smo, lookOk, lookRes, sfOf, ↓reduceIte, Nat.reduceEqDiff, reduceCtorEq, qA, eVn, e15]
  simp [- List.getD_eq_getElem?_getD, - Subtype.exists, - Prod.exists, - Bool.exists_bool, qA]
  refine ⟨fun hk => ?_, fun n1 => ?_⟩
  · rw [← hr]; exact leafR (root := ⟨1, v.n, ⟨#[]⟩, none, none⟩) (by rw [hk]; rfl) (by simp [rootV, hk]) rfl
  refine ⟨fun hk => ?_, fun n2 => ?_⟩
  · rw [← hr]; exact leafR (root := ⟨0, v.n, ⟨#[]⟩, none, none⟩) (by rw [hk]; rfl) (by simp [rootV, hk]) rfl
  refine ⟨fun hk => ?_, fun n3 => ?_⟩
  · rw [← hr]; exact leafR (root := ⟨5, 0, v.s, none, none⟩) (by rw [hk]; rfl) (by simp [rootV, hk]) rfl
  refine ⟨fun hk => ?_, fun n4 => ?_⟩
  · rw [← hr]; exact leafR (root := ⟨3, 0, v.s, none, none⟩) (by rw [hk]; rfl) (by simp [rootV, hk]) rfl
  refine ⟨fun hk => ?_, fun n5 => ?_⟩
  · rw [← hr]; exact leafR (root := ⟨4, 0, v.s, none, none⟩) (by rw [hk]; rfl) (by simp [rootV, hk]) rfl
  refine ⟨fun hk => ?_, fun n6 => ?_⟩
  · rw [← hr]; exact leafR (root := ⟨2, 0, v.s, none, none⟩) (by rw [hk]; rfl) (by simp [rootV, hk]) rfl
  refine ⟨fun hk => ?_, fun n14 => ?_⟩
  · rw [← hr]; exact leafR (root := ⟨6, v.n, ⟨#[]⟩, none, none⟩) (by rw [hk]; rfl) (by simp [rootV, hk]) rfl
  have hlf : leafK v.k = false := decide_eq_false (by omega)
  refine zE1 (kend := fun I => kEndF I TbW79 [.tmp 2]) hI hF (sfOk (.cons ok3026' (.cons ok15 (.cons ok32 .nil)))) TbW79Ok (by exact fun Bk e s h => endF TbW79Ok Bk e s h) (lv := lv3026) 0 (fun i : {i : Bool × Nat // i.2 ≤ (v.it.getD []).length ∧ (i.1 = true ↔ 0 < i.2)} => [.loc 0 6 0 0, accN 1 1 i.1.1 i.1.2, .d (.int .i64 (i.1.2 : Int))]) (fun i : {i : Bool × Nat // i.2 ≤ (v.it.getD []).length ∧ (i.1 = true ↔ 0 < i.2)} => [(0, some ⟨[.d v.enc], 6, 25, true, true⟩), (1, accB 1 29 ((tmA shR hR (v.it.getD []) i.1.2).map .d) i.1.1)]) (fun i : {i : Bool × Nat // i.2 ≤ (v.it.getD []).length ∧ (i.1 = true ↔ 0 < i.2)} => (v.it.getD []).length - i.1.2) [0, 10003] (⟨(false, 0), by simp, by simp⟩ : {i : Bool × Nat // i.2 ≤ (v.it.getD []).length ∧ (i.1 = true ↔ 0 < i.2)}) (by rfl) (by rfl) ?_ ?_ fun i => ?_
  · rfl
  · rfl
  obtain ⟨⟨b, i⟩, hi1, hi2⟩ := i
  have hi1 : i ≤ (v.it.getD []).length := hi1
  have hi2 : b = true ↔ 0 < i := hi2
  have w3 := zE6 (n := i) (by omega)
  have hlen := tmA_len (g := shR) (h := hR) hi1
  have hs0 : (⟨#[]⟩ : ByteArray).size ≤ 1048576 := by decide
  have hn0 : okS0 none := ⟨by decide, fun x hx => by cases hx⟩
  cases b with
  | false =>
    rw [show accN 1 1 false i = .d .snil from rfl, show accB 1 29 ((tmA shR hR (v.it.getD []) i).map AV.d) false = none from rfl]
    have h0 : i = 0 := by have := mt hi2.2; simp at this; omega
    refine zE2 fun C hC => ?_
    generalize Q0 : v.enc = Z0
    generalize Q1 : r = Z1
    generalize Q2 : DV.int .i64 (i : Int) = Z2
    cbv
    subst Q0 Q1 Q2
    subst hC
    refine ⟨?_⟩
    simp (maxSteps:=9999999) only [hI, hF, std]
    by_cases hlt : i < (v.it.getD []).length
    · have k1 := V.ok_get hv (i := i) hlt
      have k3 : ((v.it.getD []).getD i default).sz < N := Nat.lt_of_lt_of_le (V.sz_get (v := v) hlt) hs
      have g1 := getE9 _ _ hlt
      simp only [smp, smo, lookOk, lookRes, sfOf, ↓reduceIte, Nat.reduceEqDiff, reduceCtorEq, qA, eVn, e15, e32, zF5, g1]
      simp [- List.getD_eq_getElem?_getD, - Subtype.exists, - Prod.exists, - Bool.exists_bool, hlt, w3, qA, k1, k3, g1, zC3]
      refine ⟨k1, ⟨(true, i + 1), by show i + 1 ≤ (v.it.getD []).length; omega, by simp⟩, by show (v.it.getD []).length - (i + 1) < (v.it.getD []).length - i; omega, ⟨by subst h0; rfl, rfl⟩, ?_⟩
      show _ = accB 1 29 ((tmA shR hR (v.it.getD []) (i + 1)).map AV.d) true
      rw [tmA_succ hlt, h0]; rfl
    simp only [smp, smo, lookOk, lookRes, sfOf, ↓reduceIte, Nat.reduceEqDiff, reduceCtorEq, qA, eVn, e15, e32, zF5]
    simp [- List.getD_eq_getElem?_getD, - Subtype.exists, - Prod.exists, - Bool.exists_bool, hlt, qA]
    have hit : v.items = [] := List.length_eq_zero_iff.1 (by show (v.it.getD []).length = 0; omega)
    refine ⟨fun hk => ?_, fun n9 => ?_⟩
    · refine ⟨fun h12 => absurd (h12.symm.trans hk) (by decide), fun h12 => ?_⟩
      exact jfinR ⟨9, 0, ⟨#[]⟩, v.nm, none⟩ none ⟨okN_mk9 hs0 (V.ok_nm hv), zI7, by decide⟩ (by rw [zI8, hlf]; simp [rootV, xR, Nd.names, hR, hit, hk]) hr
    · refine ⟨fun hk => ?_, fun n12 => ?_⟩
      · exact jfinR ⟨11, 0, ⟨#[]⟩, v.nm, none⟩ none ⟨okN_mk9 hs0 (V.ok_nm hv), zI7, by decide⟩ (by rw [zI8, hlf]; simp [rootV, xR, Nd.names, hR, hit, hk]) hr
      · exact jfinR ⟨10, 0, ⟨#[]⟩, none, none⟩ none ⟨okN_mk9 hs0 hn0, zI7, by decide⟩ (by rw [zI8, hlf]; simp [rootV, xR, Nd.names, hR, hit, n1, n2, n3, n4, n5, n6, n14, n9, n12]) hr
  | true =>
    rw [show accN 1 1 true i = .slc 1 1 0 i from rfl, show accB 1 29 ((tmA shR hR (v.it.getD []) i).map AV.d) true = some ⟨(tmA shR hR (v.it.getD []) i).map AV.d, 1, 29, true, true⟩ from rfl]
    refine zE2 fun C hC => ?_
    generalize Q0 : v.enc = Z0
    generalize Q1 : r = Z1
    generalize Q2 : DV.int .i64 (i : Int) = Z2
    generalize Q3 : (tmA shR hR (v.it.getD []) i).map AV.d = Z3
    cbv
    subst Q0 Q1 Q2 Q3
    subst hC
    refine ⟨?_⟩
    simp (maxSteps:=9999999) only [hI, hF, std]
    by_cases hlt : i < (v.it.getD []).length
    · have k1 := V.ok_get hv (i := i) hlt
      have k3 : ((v.it.getD []).getD i default).sz < N := Nat.lt_of_lt_of_le (V.sz_get (v := v) hlt) hs
      have g1 := getE9 _ _ hlt
      simp only [smp, smo, lookOk, lookRes, sfOf, ↓reduceIte, Nat.reduceEqDiff, reduceCtorEq, qA, eVn, e15, e32, zF5, g1]
      simp [- List.getD_eq_getElem?_getD, - Subtype.exists, - Prod.exists, - Bool.exists_bool, hlt, w3, qA, k1, k3, g1, zC3]
      refine ⟨k1, ⟨by rw [← List.length.eq_def]; simp [hlen], by omega⟩, ⟨fun x hx => ?_, rfl⟩, ⟨(true, i + 1), by show i + 1 ≤ (v.it.getD []).length; omega, by simp⟩, by show (v.it.getD []).length - (i + 1) < (v.it.getD []).length - i; omega, ⟨rfl, rfl⟩, ?_⟩
      · obtain ⟨d, _, rfl⟩ := List.mem_map.1 (List.mem_of_mem_take hx); rfl
      · show _ = accB 1 29 ((tmA shR hR (v.it.getD []) (i + 1)).map AV.d) true
        rw [tmA_succ hlt, List.take_of_length_le (by simp [hlen]), List.map_append]; rfl
    simp only [smp, smo, lookOk, lookRes, sfOf, ↓reduceIte, Nat.reduceEqDiff, reduceCtorEq, qA, eVn, e15, e32, zF5]
    simp [- List.getD_eq_getElem?_getD, - Subtype.exists, - Prod.exists, - Bool.exists_bool, hlt, qA]
    have hie : i = v.items.length := by show i = (v.it.getD []).length; omega
    have cA : i ≤ (tmA shR hR (v.it.getD []) i).length ∧ i ≤ big := ⟨by omega, by unfold big; omega⟩
    have cB : ((tmA shR hR (v.it.getD []) i).map AV.d).length ≤ (tmA shR hR (v.it.getD []) i).length ∧ ((tmA shR hR (v.it.getD []) i).map AV.d).length ≤ big := ⟨by simp, by rw [List.length_map]; unfold big; omega⟩
    have e5 : DV.sim ((tmA shR hR (v.it.getD []) i).take i) = encTs (some (v.items.map (tm shR hR))) := by
      rw [List.take_of_length_le (by omega), hie]; exact tmA_all shR hR v.items
    refine ⟨fun hk => ?_, fun n9 => ?_⟩
    · refine ⟨fun h12 => absurd (h12.symm.trans hk) (by decide), fun h12 => ?_⟩
      refine ⟨cA, by rw [← List.length.eq_def]; exact cB, ?_⟩
      rw [e5]
      exact jfinR ⟨9, 0, ⟨#[]⟩, v.nm, none⟩ (some (v.items.map (tm shR hR))) ⟨okN_mk9 hs0 (V.ok_nm hv), tm_JOk ownN_shR hR_hh hv hN, tm_tot hN⟩ (by rw [zI8, hlf]; simp [joinT, rootV, xR, Nd.names, hR, hk]) hr
    · refine ⟨fun hk => ?_, fun n12 => ?_⟩
      · refine ⟨cA, by rw [← List.length.eq_def]; exact cB, ?_⟩
        rw [e5]
        exact jfinR ⟨11, 0, ⟨#[]⟩, v.nm, none⟩ (some (v.items.map (tm shR hR))) ⟨okN_mk9 hs0 (V.ok_nm hv), tm_JOk ownN_shR hR_hh hv hN, tm_tot hN⟩ (by rw [zI8, hlf]; simp [joinT, rootV, xR, Nd.names, hR, hk]) hr
      · refine ⟨cA, by rw [← List.length.eq_def]; exact cB, ?_⟩
        rw [e5]
        exact jfinR ⟨10, 0, ⟨#[]⟩, none, none⟩ (some (v.items.map (tm shR hR))) ⟨okN_mk9 hs0 hn0, tm_JOk ownN_shR hR_hh hv hN, tm_tot hN⟩ (by rw [zI8, hlf]; simp [joinT, rootV, xR, Nd.names, hR, n1, n2, n3, n4, n5, n6, n14, n9, n12]) hr
theorem pc3026 (v : V) (hv : v.ok) (hs : v.sz ≤ 1000) : PureCall Tryz.prog [0] 26 [v.enc] (dRet (encT (some (tm shR hR v)))) := by
  have main : ∀ (n : Nat), n ≤ 1001 → ∀ (v : V), v.ok → v.sz < n → PureCall Tryz.prog [0] 26 [v.enc] (dRet (encT (some (tm shR hR v)))) := by
    intro n
    induction n with
    | zero => intro _ v _ h; omega
    | succ n ih => intro hn v hv h; exact pc3026n n (fun w hw hwn => ih (by omega) w hw hwn) v hv (by omega) (by omega)
  exact main (v.sz + 1) (by omega) v hv (by omega)
open Classical in
noncomputable def e3026 : Ent := ⟨26, fun | [d_v] => decide (isV d_v ∧ (toV d_v).sz ≤ 1000) | _ => false, fun | [d_v] => encT (some (tm shR hR (toV d_v))) | _ => .inil⟩
open Classical in
theorem ok3026 : EntOk Tryz.prog [0] e3026 := fun ds h => by
  unfold e3026 at h ⊢
  simp only at h ⊢
  split at h
  · rw [decide_eq_true_iff] at h
    obtain ⟨⟨v0, rfl, k0⟩, kx⟩ := h
    simp only [zB2, zA4, zA5] at kx ⊢
    exact pc3026 _ k0 kx
  · cases h
theorem pc3009 (v : V) (hv : v.ok) (hs : v.sz ≤ 1000) : PureCall Tryz.prog [0] 9 [v.enc] (dRet (encT (some (tm shR hR v)))) := by
  refine zD0 mixed fn3009 (Nat.le_of_ble_eq_true rfl) (Nat.lt_of_succ_le (Nat.le_of_ble_eq_true rfl)) (sfOk (.cons ok3026 .nil)) TbW79Ok (lv := lv0) fun I F hI hF => ?_
  refine zE2 fun C hC => ?_
  generalize Q0 : v.enc = Z0
  cbv
  subst Q0
  subst hC
  refine ⟨?_⟩
  simp (maxSteps:=9999999) only [hI, hF, std]
  simp only [smp, smo, lookOk, lookRes, sfOf, ↓reduceIte, Nat.reduceEqDiff, reduceCtorEq, qA, e3026]
  simp [qA, hv, hs]
open Classical in
noncomputable def e3009 : Ent := ⟨9, fun | [d_v] => decide (isV d_v ∧ (toV d_v).sz ≤ 1000) | _ => false, fun | [d_v] => encT (some (tm shR hR (toV d_v))) | _ => .inil⟩
open Classical in
theorem ok3009 : EntOk Tryz.prog [0] e3009 := fun ds h => by
  unfold e3009 at h ⊢
  simp only at h ⊢
  split at h
  · rw [decide_eq_true_iff] at h
    obtain ⟨⟨v0, rfl, k0⟩, kx⟩ := h
    simp only [zB2, zA4, zA5] at kx ⊢
    exact pc3009 _ k0 kx
  · cases h
end Go.Proofs.Sx

namespace Go.Proofs.Sx
open Go Go.Proofs Go.Proofs.Am 
variable {gs : List Nat}

theorem getE (l : List V) (i : Nat) (h : i < l.length) : (l.map V.enc).getD i .inil = (l.getD i default).enc := by
  simp [List.getD, h]
theorem jfin {v : V} {r : DV} (root : Nd) (o : Option (List (List Nd))) (hJ : okN root ∧ JOk (o.getD []) ∧ totL (o.getD []) ≤ 1000000) (hq : joinT sh root (o.getD []) = tm sh id v) (hr : encT (some (tm sh id v)) = r) :
    isJ (encN root) (encTs o) ∧ encT (some (joinT sh (toN (encN root)) ((toTs (encTs o)).getD []))) = r := by
  rw [isJ_enc, zC8, toTs_enc]
  exact ⟨hJ, (congrArg (fun t => encT (some t)) hq).trans hr⟩
theorem zK8 {k n : Int} {s : ByteArray} {nm : Option (List ByteArray)} (hs : s.size ≤ 1048576) (hn : okS0 nm) : okN ⟨k, n, s, nm, none⟩ := ⟨hs, hn, by show 0 ≤ _; omega⟩
def TbW77T : BT := (.node 2000042 ⟨none, .other, [], none⟩ .nil (.node 7000042 ⟨none, .other, [], none⟩ .nil .nil))
def TbW77 : Nat → Option TRow := orT TbW77T.get Tb
theorem TbW77Ok : TabOk Tryz.prog TbW77 := tabOk_or (zI2 (by kernel_rfl)) TbOk
def lv3022 : Nat → List Nat × List Nat
  | 3 => ([1, 3, 8, 9, 10], [0, 10003])
  | _ => ([], [])
set_option maxHeartbeats 4000000 in
theorem pc3022n (N : Nat) (h22 : ∀ v : V, v.ok → v.sz < N → PureCall Tryz.prog [0] 22 [v.enc] (dRet (encT (some (tm sh id v))))) (v : V) (hv : v.ok) (hs : v.sz ≤ N) (hN : v.sz ≤ 1000) :
    PureCall Tryz.prog [0] 22 [v.enc] (dRet (encT (some (tm sh id v)))) := by
  generalize hr : encT (some (tm sh id v)) = r
  have ok3022' := okVn (r := fun v => encT (some (tm sh id v))) h22
  have hil := V.ok_il hv
  have hil' : (v.it.getD []).length ≤ 1048576 := hil
  refine zD0 mixed fn3022 (Nat.le_of_ble_eq_true rfl) (Nat.lt_of_succ_le (Nat.le_of_ble_eq_true rfl)) (sfOk (.cons ok3022' (.cons ok54 (.cons ok3042 .nil)))) TbW77Ok (lv := lv3022) fun I F hI hF => ?_
  refine zE2 fun C hC => ?_
  generalize Q0 : v.enc = Z0
  generalize Q1 : r = Z1
  cbv
  subst Q0 Q1
  subst hC
  refine ⟨?_⟩
  simp (maxSteps:=9999999) only [hI, hF, std]
  simp only [smp, smo, lookOk, lookRes, sfOf, ↓reduceIte, Nat.reduceEqDiff, reduceCtorEq, qA]
  simp [- List.getD_eq_getElem?_getD, - Subtype.exists, - Prod.exists, - Bool.exists_bool, qA]
  refine zE1 (kend := fun I => kEndF I TbW77 [.tmp 2]) hI hF (sfOk (.cons ok3022' (.cons ok54 (.cons ok3042 .nil)))) TbW77Ok (by exact fun Bk e s h => endF TbW77Ok Bk e s h) (lv := lv3022) 0 (fun i : {i : Bool × Nat // i.2 ≤ (v.it.getD []).length ∧ (i.1 = true ↔ 0 < i.2)} => [.loc 0 6 0 0, accN 1 1 i.1.1 i.1.2, .d (encO v.it), .d (.int .i64 ((v.it.getD []).length : Int)), .d (.int .i64 (i.1.2 : Int))]) (fun i : {i : Bool × Nat // i.2 ≤ (v.it.getD []).length ∧ (i.1 = true ↔ 0 < i.2)} => [(0, some ⟨[.d v.enc], 6, 25, true, true⟩), (1, accB 1 29 ((tmA sh id (v.it.getD []) i.1.2).map .d) i.1.1)]) (fun i : {i : Bool × Nat // i.2 ≤ (v.it.getD []).length ∧ (i.1 = true ↔ 0 < i.2)} => (v.it.getD []).length - i.1.2) [0, 10003] (⟨(false, 0), by simp, by simp⟩ : {i : Bool × Nat // i.2 ≤ (v.it.getD []).length ∧ (i.1 = true ↔ 0 < i.2)}) (by rfl) (by rfl) ?_ ?_ fun i => ?_
  · rfl
  · rfl
  obtain ⟨⟨b, i⟩, hi1, hi2⟩ := i
  have hi1 : i ≤ (v.it.getD []).length := hi1
  have hi2 : b = true ↔ 0 < i := hi2
  have w3 := zE6 (n := i) (by omega)
  have hlen := tmA_len (g := sh) (h := id) hi1
  cases b with
  | false =>
    rw [show accN 1 1 false i = .d .snil from rfl, show accB 1 29 ((tmA sh id (v.it.getD []) i).map AV.d) false = none from rfl]
    have h0 : i = 0 := by have := mt hi2.2; simp at this; omega
    refine zE2 fun C hC => ?_
    generalize Q0 : v.enc = Z0
    generalize Q1 : r = Z1
    generalize Q2 : DV.int .i64 ((v.it.getD []).length : Int) = Z2
    generalize Q3 : DV.int .i64 (i : Int) = Z3
    generalize Q4 : encO v.it = Z4
    cbv
    subst Q0 Q1 Q2 Q3 Q4
    subst hC
    refine ⟨?_⟩
    simp (maxSteps:=9999999) only [hI, hF, std]
    by_cases hlt : i < (v.it.getD []).length
    · have k1 := V.ok_get hv (i := i) hlt
      have k3 : ((v.it.getD []).getD i default).sz < N := Nat.lt_of_lt_of_le (V.sz_get (v := v) hlt) hs
      have g1 := getE _ _ hlt
      simp only [smp, smo, lookOk, lookRes, sfOf, ↓reduceIte, Nat.reduceEqDiff, reduceCtorEq, qA, eVn, e54, e3042, zF5, g1]
      simp [- List.getD_eq_getElem?_getD, - Subtype.exists, - Prod.exists, - Bool.exists_bool, hlt, w3, qA, k1, k3, g1, zC3]
      refine ⟨k1, ⟨(true, i + 1), by show i + 1 ≤ (v.it.getD []).length; omega, by simp⟩, by show (v.it.getD []).length - (i + 1) < (v.it.getD []).length - i; omega, ⟨by subst h0; rfl, rfl⟩, ?_⟩
      show _ = accB 1 29 ((tmA sh id (v.it.getD []) (i + 1)).map AV.d) true
      rw [tmA_succ hlt, h0]; rfl
    simp only [smp, smo, lookOk, lookRes, sfOf, ↓reduceIte, Nat.reduceEqDiff, reduceCtorEq, qA, eVn, e54, e3042, zF5]
    simp [- List.getD_eq_getElem?_getD, - Subtype.exists, - Prod.exists, - Bool.exists_bool, hlt, qA]
    have hit : v.items = [] := List.length_eq_zero_iff.1 (by show (v.it.getD []).length = 0; omega)
    have hs0 : (⟨#[]⟩ : ByteArray).size ≤ 1048576 := by decide
    have hn0 : okS0 none := ⟨by decide, fun x hx => by cases hx⟩
    have hsv := V.ok_s hv
    refine ⟨V.ok_nm hv, ?_⟩
    refine ⟨fun hk => ?_, fun n1 => ?_⟩
    · exact jfin ⟨1, v.n, ⟨#[]⟩, none, none⟩ none ⟨zK8 hs0 hn0, zI7, by decide⟩ (by rw [zI8]; simp [rootV, leafK, hk]) hr
    refine ⟨fun hk => ?_, fun n2 => ?_⟩
    · exact jfin ⟨0, v.n, ⟨#[]⟩, none, none⟩ none ⟨zK8 hs0 hn0, zI7, by decide⟩ (by rw [zI8]; simp [rootV, leafK, hk]) hr
    refine ⟨fun hk => ?_, fun n3 => ?_⟩
    · exact jfin ⟨5, 0, v.s, none, none⟩ none ⟨zK8 hsv hn0, zI7, by decide⟩ (by rw [zI8]; simp [rootV, leafK, hk]) hr
    refine ⟨fun hk => ?_, fun n4 => ?_⟩
    · exact jfin ⟨3, 0, v.s, none, none⟩ none ⟨zK8 hsv hn0, zI7, by decide⟩ (by rw [zI8]; simp [rootV, leafK, hk]) hr
    refine ⟨fun hk => ?_, fun n5 => ?_⟩
    · exact jfin ⟨4, 0, v.s, none, none⟩ none ⟨zK8 hsv hn0, zI7, by decide⟩ (by rw [zI8]; simp [rootV, leafK, hk]) hr
    refine ⟨fun hk => ?_, fun n6 => ?_⟩
    · exact jfin ⟨2, 0, v.s, none, none⟩ none ⟨zK8 hsv hn0, zI7, by decide⟩ (by rw [zI8]; simp [rootV, leafK, hk]) hr
    refine ⟨fun hk => ?_, fun n9 => ?_⟩
    · exact jfin ⟨9, 0, ⟨#[]⟩, v.nm, none⟩ none ⟨zK8 hs0 (V.ok_nm hv), zI7, by decide⟩ (by rw [zI8]; simp [rootV, leafK, hk, hit]) hr
    refine ⟨fun hk => ?_, fun n12 => ?_⟩
    · exact jfin ⟨11, 0, ⟨#[]⟩, v.nm, none⟩ none ⟨zK8 hs0 (V.ok_nm hv), zI7, by decide⟩ (by rw [zI8]; simp [rootV, leafK, hk, hit]) hr
    refine ⟨fun hk => ?_, fun n14 => ?_⟩
    · exact jfin ⟨6, v.n, ⟨#[]⟩, none, none⟩ none ⟨zK8 hs0 hn0, zI7, by decide⟩ (by rw [zI8]; simp [rootV, leafK, hk]) hr
    exact jfin ⟨10, 0, ⟨#[]⟩, none, none⟩ none ⟨zK8 hs0 hn0, zI7, by decide⟩ (by rw [zI8]; simp [rootV, leafK, n1, n2, n3, n4, n5, n6, n9, n12, n14, hit]) hr
  | true =>
    rw [show accN 1 1 true i = .slc 1 1 0 i from rfl, show accB 1 29 ((tmA sh id (v.it.getD []) i).map AV.d) true = some ⟨(tmA sh id (v.it.getD []) i).map AV.d, 1, 29, true, true⟩ from rfl]
    refine zE2 fun C hC => ?_
    generalize Q0 : v.enc = Z0
    generalize Q1 : r = Z1
    generalize Q2 : DV.int .i64 ((v.it.getD []).length : Int) = Z2
    generalize Q3 : DV.int .i64 (i : Int) = Z3
    generalize Q4 : encO v.it = Z4
    generalize Q5 : (tmA sh id (v.it.getD []) i).map AV.d = Z5
    cbv
    subst Q0 Q1 Q2 Q3 Q4 Q5
    subst hC
    refine ⟨?_⟩
    simp (maxSteps:=9999999) only [hI, hF, std]
    by_cases hlt : i < (v.it.getD []).length
    · have k1 := V.ok_get hv (i := i) hlt
      have k3 : ((v.it.getD []).getD i default).sz < N := Nat.lt_of_lt_of_le (V.sz_get (v := v) hlt) hs
      have g1 := getE _ _ hlt
      simp only [smp, smo, lookOk, lookRes, sfOf, ↓reduceIte, Nat.reduceEqDiff, reduceCtorEq, qA, eVn, e54, e3042, zF5, g1]
      simp [- List.getD_eq_getElem?_getD, - Subtype.exists, - Prod.exists, - Bool.exists_bool, hlt, w3, qA, k1, k3, g1, zC3]
      refine ⟨k1, ⟨by rw [← List.length.eq_def]; simp [hlen], by omega⟩, ⟨fun x hx => ?_, rfl⟩, ⟨(true, i + 1), by show i + 1 ≤ (v.it.getD []).length; omega, by simp⟩, by show (v.it.getD []).length - (i + 1) < (v.it.getD []).length - i; omega, ⟨rfl, rfl⟩, ?_⟩
      · obtain ⟨d, _, rfl⟩ := List.mem_map.1 (List.mem_of_mem_take hx); rfl
      · show _ = accB 1 29 ((tmA sh id (v.it.getD []) (i + 1)).map AV.d) true
        rw [tmA_succ hlt, List.take_of_length_le (by simp [hlen]), List.map_append]; rfl
    simp only [smp, smo, lookOk, lookRes, sfOf, ↓reduceIte, Nat.reduceEqDiff, reduceCtorEq, qA, eVn, e54, e3042, zF5]
    simp [- List.getD_eq_getElem?_getD, - Subtype.exists, - Prod.exists, - Bool.exists_bool, hlt, qA]
    have hie : i = v.items.length := by show i = (v.it.getD []).length; omega
    have cA : i ≤ (tmA sh id (v.it.getD []) i).length ∧ i ≤ big := ⟨by omega, by unfold big; omega⟩
    have cB : ((tmA sh id (v.it.getD []) i).map AV.d).length ≤ (tmA sh id (v.it.getD []) i).length ∧ ((tmA sh id (v.it.getD []) i).map AV.d).length ≤ big := ⟨by simp, by rw [List.length_map]; unfold big; omega⟩
    have e5 : DV.sim ((tmA sh id (v.it.getD []) i).take i) = encTs (some (v.items.map (tm sh id))) := by
      rw [List.take_of_length_le (by omega), hie]; exact tmA_all sh id v.items
    have hs0 : (⟨#[]⟩ : ByteArray).size ≤ 1048576 := by decide
    have hn0 : okS0 none := ⟨by decide, fun x hx => by cases hx⟩
    have hsv := V.ok_s hv
    refine ⟨V.ok_nm hv, ?_⟩
    refine ⟨fun hk => ?_, fun n1 => ?_⟩
    · exact jfin ⟨1, v.n, ⟨#[]⟩, none, none⟩ none ⟨zK8 hs0 hn0, zI7, by decide⟩ (by rw [zI8]; simp [rootV, leafK, hk]) hr
    refine ⟨fun hk => ?_, fun n2 => ?_⟩
    · exact jfin ⟨0, v.n, ⟨#[]⟩, none, none⟩ none ⟨zK8 hs0 hn0, zI7, by decide⟩ (by rw [zI8]; simp [rootV, leafK, hk]) hr
    refine ⟨fun hk => ?_, fun n3 => ?_⟩
    · exact jfin ⟨5, 0, v.s, none, none⟩ none ⟨zK8 hsv hn0, zI7, by decide⟩ (by rw [zI8]; simp [rootV, leafK, hk]) hr
    refine ⟨fun hk => ?_, fun n4 => ?_⟩
    · exact jfin ⟨3, 0, v.s, none, none⟩ none ⟨zK8 hsv hn0, zI7, by decide⟩ (by rw [zI8]; simp [rootV, leafK, hk]) hr
    refine ⟨fun hk => ?_, fun n5 => ?_⟩
    · exact jfin ⟨4, 0, v.s, none, none⟩ none ⟨zK8 hsv hn0, zI7, by decide⟩ (by rw [zI8]; simp [rootV, leafK, hk]) hr
    refine ⟨fun hk => ?_, fun n6 => ?_⟩
    · exact jfin ⟨2, 0, v.s, none, none⟩ none ⟨zK8 hsv hn0, zI7, by decide⟩ (by rw [zI8]; simp [rootV, leafK, hk]) hr
    refine ⟨fun hk => ?_, fun n9 => ?_⟩
    · refine ⟨cA, by rw [← List.length.eq_def]; exact cB, ?_⟩
      have hlf : leafK v.k = false := by rw [hk]; rfl
      rw [e5]
      exact jfin ⟨9, 0, ⟨#[]⟩, v.nm, none⟩ (some (v.items.map (tm sh id))) ⟨zK8 hs0 (V.ok_nm hv), tm_JOk ownN_sh id_hh hv hN, tm_tot hN⟩ (by rw [zI8, hlf]; simp [rootV, hk]) hr
    refine ⟨fun hk => ?_, fun n12 => ?_⟩
    · refine ⟨cA, by rw [← List.length.eq_def]; exact cB, ?_⟩
      have hlf : leafK v.k = false := by rw [hk]; rfl
      rw [e5]
      exact jfin ⟨11, 0, ⟨#[]⟩, v.nm, none⟩ (some (v.items.map (tm sh id))) ⟨zK8 hs0 (V.ok_nm hv), tm_JOk ownN_sh id_hh hv hN, tm_tot hN⟩ (by rw [zI8, hlf]; simp [rootV, hk]) hr
    refine ⟨fun hk => ?_, fun n14 => ?_⟩
    · exact jfin ⟨6, v.n, ⟨#[]⟩, none, none⟩ none ⟨zK8 hs0 hn0, zI7, by decide⟩ (by rw [zI8]; simp [rootV, leafK, hk]) hr
    refine ⟨cA, by rw [← List.length.eq_def]; exact cB, ?_⟩
    have hlf : leafK v.k = false := by unfold leafK; exact decide_eq_false (by omega)
    rw [e5]
    exact jfin ⟨10, 0, ⟨#[]⟩, none, none⟩ (some (v.items.map (tm sh id))) ⟨zK8 hs0 hn0, tm_JOk ownN_sh id_hh hv hN, tm_tot hN⟩ (by rw [zI8, hlf]; simp [rootV, n1, n2, n3, n4, n5, n6, n9, n12, n14]) hr
theorem pc3022 (v : V) (hv : v.ok) (hs : v.sz ≤ 1000) : PureCall Tryz.prog [0] 22 [v.enc] (dRet (encT (some (tm sh id v)))) := by
  have main : ∀ (n : Nat), n ≤ 1001 → ∀ (v : V), v.ok → v.sz < n → PureCall Tryz.prog [0] 22 [v.enc] (dRet (encT (some (tm sh id v)))) := by
    intro n
    induction n with
    | zero => intro _ v _ h; omega
    | succ n ih => intro hn v hv h; exact pc3022n n (fun w hw hwn => ih (by omega) w hw hwn) v hv (by omega) (by omega)
  exact main (v.sz + 1) (by omega) v hv (by omega)
open Classical in
noncomputable def e3022 : Ent := ⟨22, fun | [d_v] => decide (isV d_v ∧ (toV d_v).sz ≤ 1000) | _ => false, fun | [d_v] => encT (some (tm sh id (toV d_v))) | _ => .inil⟩
open Classical in
theorem ok3022 : EntOk Tryz.prog [0] e3022 := fun ds h => by
  unfold e3022 at h ⊢
  simp only at h ⊢
  split at h
  · rw [decide_eq_true_iff] at h
    obtain ⟨⟨v0, rfl, k0⟩, kx⟩ := h
    simp only [zB2, zA4, zA5] at kx ⊢
    exact pc3022 _ k0 kx
  · cases h
noncomputable def termR (v : V) : DV := if valE v ≠ 0 then .tup [.snil, .int .i64 (valE v)] else if 200 < (tm sh id v).length then .tup [.snil, .int .i64 2] else .tup [encT (some (tm sh id v)), .int .i64 0]
theorem pc3006 (v : V) (hv : v.ok) (hs : v.sz ≤ 1000) : PureCall Tryz.prog [0] 6 [v.enc] (dRet (termR v)) := by
  generalize hr : termR v = r
  refine zD0 mixed fn3006 (Nat.le_of_ble_eq_true rfl) (Nat.lt_of_succ_le (Nat.le_of_ble_eq_true rfl)) (sfOk (.cons ok10 (.cons ok3022 .nil))) TbW77Ok (lv := lv0) fun I F hI hF => ?_
  refine zE2 fun C hC => ?_
  generalize Q0 : v.enc = Z0
  generalize Q1 : r = Z1
  cbv
  subst Q0 Q1
  subst hC
  refine ⟨?_⟩
  simp (maxSteps:=9999999) only [hI, hF, std]
  simp only [smp, smo, lookOk, lookRes, sfOf, ↓reduceIte, Nat.reduceEqDiff, reduceCtorEq, qA, qB, e10, e3022]
  unfold termR at hr
  refine ⟨rfl, rfl, by simp [zB3, hv], fun h => ?_, fun h => ⟨rfl, by simp [zB3, zB2, hv, hs], fun h2 => ?_, fun h2 => ?_⟩⟩
  · have h : valE v ≠ 0 := by simpa using h
    rw [if_pos h] at hr; rw [hr]
  all_goals have h : valE v = 0 := by simpa using h
  all_goals rw [if_neg (not_not_intro h)] at hr
  · have h2 : 200 < (tm sh id v).length := by simp at h2; omega
    rw [if_pos h2] at hr; rw [hr]
  · have h2 : ¬ 200 < (tm sh id v).length := by simp at h2; omega
    rw [if_neg h2] at hr; rw [hr]
open Classical in
noncomputable def e3006 : Ent := ⟨6, fun | [d_v] => decide (isV d_v ∧ (toV d_v).sz ≤ 1000) | _ => false, fun | [d_v] => termR (toV d_v) | _ => .inil⟩
open Classical in
theorem ok3006 : EntOk Tryz.prog [0] e3006 := fun ds h => by
  unfold e3006 at h ⊢
  simp only at h ⊢
  split at h
  · rw [decide_eq_true_iff] at h
    obtain ⟨⟨v0, rfl, k0⟩, kx⟩ := h
    simp only [zB2, zA4, zA5] at kx ⊢
    exact pc3006 _ k0 kx
  · cases h
end Go.Proofs.Sx

namespace Go.Proofs.Sx
open Go Go.Proofs Go.Proofs.Am 
variable {gs : List Nat}

theorem pc3052 (v : V) (hv : v.ok) : PureCall Tryz.prog [0] 52 [v.enc] (dRet (.bool (decide (valE v = 0)))) := by
  refine zD0 mixed fn3052 (Nat.le_of_ble_eq_true rfl) (Nat.lt_of_succ_le (Nat.le_of_ble_eq_true rfl)) (sfOk (.cons ok31 .nil)) TbOk (lv := lv0) fun I F hI hF => ?_
  refine zE2 fun C hC => ?_
  generalize Q0 : v.enc = Z0
  cbv
  subst Q0
  subst hC
  refine ⟨?_⟩
  simp (maxSteps:=9999999) only [hI, hF, std]
  simp only [smp, smo, lookOk, lookRes, sfOf, ↓reduceIte, Nat.reduceEqDiff, reduceCtorEq, qA, e31]
  simp [qA, hv]
open Classical in
noncomputable def e3052 : Ent := ⟨52, fun | [d_v] => decide (isV d_v) | _ => false, fun | [d_v] => .bool (decide (valE (toV d_v) = 0)) | _ => .inil⟩
open Classical in
theorem ok3052 : EntOk Tryz.prog [0] e3052 := fun ds h => by
  unfold e3052 at h ⊢
  simp only at h ⊢
  split at h
  · rw [decide_eq_true_iff] at h
    obtain ⟨v0, rfl, k0⟩ := h
    simp only [zB2, zA4, zA5]
    exact pc3052 _ k0
  · cases h
theorem pc3035 (v : V) (hv : v.ok) : PureCall Tryz.prog [0] 35 [v.enc] (dRet (.bool (decide (valE v = 0)))) := by
  refine zD0 mixed fn3035 (Nat.le_of_ble_eq_true rfl) (Nat.lt_of_succ_le (Nat.le_of_ble_eq_true rfl)) (sfOk (.cons ok3052 .nil)) TbOk (lv := lv0) fun I F hI hF => ?_
  refine zE2 fun C hC => ?_
  generalize Q0 : v.enc = Z0
  cbv
  subst Q0
  subst hC
  refine ⟨?_⟩
  simp (maxSteps:=9999999) only [hI, hF, std]
  simp only [smp, smo, lookOk, lookRes, sfOf, ↓reduceIte, Nat.reduceEqDiff, reduceCtorEq, qA, e3052]
  simp [qA, hv]
open Classical in
noncomputable def e3035 : Ent := ⟨35, fun | [d_v] => decide (isV d_v) | _ => false, fun | [d_v] => .bool (decide (valE (toV d_v) = 0)) | _ => .inil⟩
open Classical in
theorem ok3035 : EntOk Tryz.prog [0] e3035 := fun ds h => by
  unfold e3035 at h ⊢
  simp only at h ⊢
  split at h
  · rw [decide_eq_true_iff] at h
    obtain ⟨v0, rfl, k0⟩ := h
    simp only [zB2, zA4, zA5]
    exact pc3035 _ k0
  · cases h
theorem pc3013 (v : V) (hv : v.ok) : PureCall Tryz.prog [0] 13 [v.enc] (dRet (.bool (smallV v 120 && decide (valE v = 0)))) := by
  refine zD0 mixed fn3013 (Nat.le_of_ble_eq_true rfl) (Nat.lt_of_succ_le (Nat.le_of_ble_eq_true rfl)) (sfOk (.cons ok48 (.cons ok3035 .nil))) TbOk (lv := lv0) fun I F hI hF => ?_
  refine zE2 fun C hC => ?_
  generalize Q0 : v.enc = Z0
  cbv
  subst Q0
  subst hC
  refine ⟨?_⟩
  simp (maxSteps:=9999999) only [hI, hF, std]
  simp only [smp, smo, lookOk, lookRes, sfOf, ↓reduceIte, Nat.reduceEqDiff, reduceCtorEq, qA, e48, e3035]
  rcases Bool.eq_false_or_eq_true (smallV v 120) with h | h <;> simp [qA, hv, h]
open Classical in
noncomputable def e3013 : Ent := ⟨13, fun | [d_v] => decide (isV d_v) | _ => false, fun | [d_v] => .bool (smallV (toV d_v) 120 && decide (valE (toV d_v) = 0)) | _ => .inil⟩
open Classical in
theorem ok3013 : EntOk Tryz.prog [0] e3013 := fun ds h => by
  unfold e3013 at h ⊢
  simp only at h ⊢
  split at h
  · rw [decide_eq_true_iff] at h
    obtain ⟨v0, rfl, k0⟩ := h
    simp only [zB2, zA4, zA5]
    exact pc3013 _ k0
  · cases h
theorem pc17 (v w : V) (hv : v.ok) (hw : w.ok) : PureCall Tryz.prog [0] 14 [v.enc, w.enc] (dRet (.bool (decide (cmpV v w = 0)))) := by
  refine zD0 mixed fn17 (Nat.le_of_ble_eq_true rfl) (Nat.lt_of_succ_le (Nat.le_of_ble_eq_true rfl)) (sfOk (.cons ok36 .nil)) TbOk (lv := lv0) fun I F hI hF => ?_
  refine zE2 fun C hC => ?_
  generalize Q0 : v.enc = Z0
  generalize Q1 : w.enc = Z1
  cbv
  subst Q0 Q1
  subst hC
  refine ⟨?_⟩
  simp (maxSteps:=9999999) only [hI, hF, std]
  simp only [smp, smo, lookOk, lookRes, sfOf, ↓reduceIte, Nat.reduceEqDiff, reduceCtorEq, qA, e36]
  simp [qA, hv, hw]
open Classical in
noncomputable def e17 : Ent := ⟨14, fun | [d_v, d_w] => decide (isV d_v ∧ isV d_w) | _ => false, fun | [d_v, d_w] => .bool (decide (cmpV (toV d_v) (toV d_w) = 0)) | _ => .inil⟩
open Classical in
theorem ok17 : EntOk Tryz.prog [0] e17 := fun ds h => by
  unfold e17 at h ⊢
  simp only at h ⊢
  split at h
  · rw [decide_eq_true_iff] at h
    obtain ⟨⟨v0, rfl, k0⟩, ⟨v1, rfl, k1⟩⟩ := h
    simp only [zB2, zA4, zA5]
    exact pc17 _ _ k0 k1
  · cases h
end Go.Proofs.Sx

namespace Go.Proofs.Sx
open Go Go.Proofs Go.Proofs.Am 
variable {gs : List Nat}

open Classical in
noncomputable def e3010b : Ent := ⟨10, fun | [d_o, d_u] => decide (isT d_o ∧ isT d_u) | _ => false, fun | [d_o, d_u] => .bool (sameTB ((toT d_o).getD []) ((toT d_u).getD [])) | _ => .inil⟩
open Classical in
theorem ok3010b : EntOk Tryz.prog [0] e3010b := fun ds h => by
  unfold e3010b at h ⊢
  simp only at h ⊢
  split at h
  · rw [decide_eq_true_iff] at h
    obtain ⟨⟨v0, rfl, k0⟩, ⟨v1, rfl, k1⟩⟩ := h
    simp only [zB2, zA4, zA5, zC2, zC8, zC9]
    exact pc3010b _ _ k0 k1
  · cases h
theorem pc3003 (v : V) (hv : v.ok) : PureCall Tryz.prog [0] 3 [v.enc] (dRet (.bool true)) := by
  refine zD0 mixed fn3003 (Nat.le_of_ble_eq_true rfl) (Nat.lt_of_succ_le (Nat.le_of_ble_eq_true rfl)) (sfOk (.cons ok4 (.cons ok5 (.cons ok11 (.cons ok3006 (.cons ok12 (.cons ok3009 (.cons ok3010b (.cons ok16z (.cons ok3012 (.cons ok3013 (.cons ok17 .nil)))))))))))) TbOk (lv := lv0) fun I F hI hF => ?_
  refine zE2 fun C hC => ?_
  generalize Q0 : v.enc = Z0
  cbv
  subst Q0
  subst hC
  refine ⟨?_⟩
  simp (maxSteps:=9999999) only [hI, hF, std]
  simp only [smp, smo, lookOk, lookRes, sfOf, ↓reduceIte, Nat.reduceEqDiff, reduceCtorEq, qA, qB, e4, e5, e11, e3006, e12, e3009, e3010b, e16z, e3012, e3013, e17]
  simp [qA, hv, own_ok hv]
  intro hlt
  have hs := light_sz hlt
  have hso : (ownV v).sz ≤ 1000 := by rw [own_sz _ v (Nat.lt_succ_self _)]; omega
  have hs1 : v.sz ≤ 1000 := by omega
  have hsame := writes_same v
  have hsb : sameTB (tm sh id (ownV v)) (tm shR hR v) = true := by simpa [sameTB] using hsame
  have hlen := hsame.1
  by_cases hv0 : valE v = 0
  · have hv1 : valE (ownV v) = 0 := (valE_own v).trans hv0
    by_cases hl : 200 < (tm sh id (ownV v)).length
    · have hr : termR (ownV v) = .tup [.snil, .int .i64 2] := by unfold termR; rw [if_neg (not_not_intro hv1), if_pos hl]
      have h1 : (200 : Int) < ((tm shR hR v).length : Int) := by omega
      have h2 : ¬ ((tm shR hR v).length : Int) ≤ 200 := by omega
      simp [hr, tupD, hv0, hso, hs1, h1, h2, isIK, isSlD, lstD, Am.asInt]
    · have hr : termR (ownV v) = .tup [encT (some (tm sh id (ownV v))), .int .i64 0] := by unfold termR; rw [if_neg (not_not_intro hv1), if_neg hl]
      have h1 : ¬ (200 : Int) < ((tm shR hR v).length : Int) := by omega
      have h2 : ((tm shR hR v).length : Int) ≤ 200 := by omega
      have ht1 : okT (some (tm sh id (ownV v))) := tm_okT ownN_sh id_hh (own_ok hv) hso
      have ht2 : okT (some (tm shR hR v)) := tm_okT ownN_shR hR_hh hv hs1
      have hp : plainE (ownV v) = 0 := by
        unfold valE at hv1
        split at hv1
        · exact hv1
        · cases hv1
      have h8 := tm_no8 (ownV v) hp
      rcases Bool.eq_false_or_eq_true (hasBag v) with hb | hb
      · obtain ⟨w, wi, wc, hw⟩ := valR_tup (tm sh id (ownV v)) (valueE ap0 (tm sh id (ownV v)) [])
        simp [hr, tupD, hv0, hso, hs1, h1, h2, isIK, isSlD, lstD, Am.asInt, zC9, zD1, is16_enc, ht1, ht2, hsb, hw, qA, hb]
        exact ⟨h8, rfl, rfl, rfl, rfl⟩
      · obtain ⟨w1, w2, w3⟩ := writes_value v hv0 (by omega) hb
        have wok : (nV (ownV v)).ok := nV_ok _ _ (Nat.lt_succ_self _) (own_ok hv)
        rw [Bool.and_eq_true, decide_eq_true_iff] at w2
        simp [hr, tupD, hv0, hso, hs1, h1, h2, isIK, isSlD, lstD, Am.asInt, zC9, zD1, is16_enc, ht1, ht2, hsb, w1, qA, hb, wok, w2.1, w2.2, w3]
        exact ⟨h8, rfl, rfl, rfl, rfl⟩
  · have hv1 : valE (ownV v) ≠ 0 := by rw [valE_own]; exact hv0
    have hr : termR (ownV v) = .tup [.snil, .int .i64 (valE v)] := by unfold termR; rw [if_pos hv1, valE_own]
    simp [hr, tupD, hv0, hso, isIK, isSlD, lstD, Am.asInt]
end Go.Proofs.Sx

namespace Go.Proofs.Sx
open Go Go.Proofs Go.Proofs.Am 
variable {gs : List Nat}

section
variable {H : Type} {enc : TypeId × Value → H} {w : World} {base : Nat} {sp : Nat → Bool} {held : Bool}
theorem getD_app {α : Type} {l r : List α} {d : α} {i : Nat} (h : i < l.length) : (l ++ r).getD i d = l.getD i d := by simp [List.getD, List.getElem?_append_left h]
theorem getD_app_right {α : Type} {l r : List α} {d : α} {i : Nat} (h : l.length ≤ i) : (l ++ r).getD i d = r.getD (i - l.length) d := by simp [List.getD, List.getElem?_append_right h]
abbrev There (w : World) : Nat → Prop := fun g => g < w.heap.size
structure CRep (w : World) (ds : List DV) (cs : List Value) : Prop where
  len : cs.length = ds.length
  one : ∀ i, i < ds.length → (cs.getD i undef).oneCell' = true
  at_ : ∀ i, i < ds.length → DRep w (There w) (ds.getD i .inil) (cs.getD i undef)
theorem CRep.single {d : DV} {v : Value} (h1 : v.oneCell' = true) (h : DRep w (There w) d v) : CRep w [d] [v] :=
  ⟨rfl, fun i hi => by have : i = 0 := by simpa using hi
                       subst this; exact h1, fun i hi => by have : i = 0 := by simpa using hi
                                                            subst this; exact h⟩
theorem CRep.append {a b : List DV} {x y : List Value} (h : CRep w a x) (k : CRep w b y) : CRep w (a ++ b) (x ++ y) := by
  refine ⟨by simp [h.len, k.len], fun i hi => ?_, fun i hi => ?_⟩
  · by_cases hi2 : i < a.length
    · rw [show (x ++ y).getD i undef = x.getD i undef from getD_app (by rw [h.len]; exact hi2)]; exact h.one i hi2
    · rw [show (x ++ y).getD i undef = y.getD (i - a.length) undef from by rw [getD_app_right (by rw [h.len]; omega), h.len]]; exact k.one _ (by simp at hi; omega)
  · by_cases hi2 : i < a.length
    · rw [show (x ++ y).getD i undef = x.getD i undef from getD_app (by rw [h.len]; exact hi2), show (a ++ b).getD i .inil = a.getD i .inil from getD_app hi2]; exact h.at_ i hi2
    · rw [show (x ++ y).getD i undef = y.getD (i - a.length) undef from by rw [getD_app_right (by rw [h.len]; omega), h.len], show (a ++ b).getD i .inil = b.getD (i - a.length) .inil from getD_app_right (by omega)]; exact k.at_ _ (by simp at hi; omega)
theorem CRep.agg {ds : List DV} {cs : Array Value} (h : CRep w ds cs.toList) : DRep w (There w) (.agg ds) (.agg cs) := by
  have e : ∀ i, cs.getD i undef = cs.toList.getD i undef := fun i => by simp [Array.getD_eq_getD_getElem?, List.getD]
  exact .agg ds cs (by simpa using h.len) (fun i hi => by rw [e]; exact h.one i hi) (fun i hi => by rw [e]; exact h.at_ i hi)
theorem bulk_part {d : DataW H} {l : List (DataW H)} (h : d ∈ l) : _root_.Go.Proofs.YtjmglhioohndhaaGreatDoor.Rows.uptoBulk d ≤ _root_.Go.Proofs.YtjmglhioohndhaaGreatDoor.Rows.uptoBulkAll l := by
  induction l with
  | nil => cases h
  | cons x r ih =>
    simp only [_root_.Go.Proofs.YtjmglhioohndhaaGreatDoor.Rows.uptoBulkAll]
    cases List.mem_cons.1 h with
    | inl e => subst e; omega
    | inr e => have := ih e; omega
theorem bulk_one (d : DataW H) : 1 ≤ _root_.Go.Proofs.YtjmglhioohndhaaGreatDoor.Rows.uptoBulk d := by
  cases d with
  | lit l => cases l <;> simp [_root_.Go.Proofs.YtjmglhioohndhaaGreatDoor.Rows.uptoBulk]
  | nil => simp [_root_.Go.Proofs.YtjmglhioohndhaaGreatDoor.Rows.uptoBulk]
  | ptr d => simp [_root_.Go.Proofs.YtjmglhioohndhaaGreatDoor.Rows.uptoBulk]
  | slice elems spare => simp [_root_.Go.Proofs.YtjmglhioohndhaaGreatDoor.Rows.uptoBulk]
  | agg parts => simp [_root_.Go.Proofs.YtjmglhioohndhaaGreatDoor.Rows.uptoBulk]
  | iface t d => simp [_root_.Go.Proofs.YtjmglhioohndhaaGreatDoor.Rows.uptoBulk]
  | map entries => simp [_root_.Go.Proofs.YtjmglhioohndhaaGreatDoor.Rows.uptoBulk]
  | held h => simp [_root_.Go.Proofs.YtjmglhioohndhaaGreatDoor.Rows.uptoBulk]
theorem bulk_len (l : List (DataW H)) : l.length ≤ _root_.Go.Proofs.YtjmglhioohndhaaGreatDoor.Rows.uptoBulkAll l := by
  induction l with
  | nil => simp [_root_.Go.Proofs.YtjmglhioohndhaaGreatDoor.Rows.uptoBulkAll]
  | cons x r ih => have := bulk_one x; simp only [_root_.Go.Proofs.YtjmglhioohndhaaGreatDoor.Rows.uptoBulkAll, List.length_cons]; omega

theorem mapM_range {α : Type} {g : Nat → Option α} {n : Nat} {l : List α} (h : (List.range n).mapM g = some l) : l.length = n ∧ ∀ i, i < n → g i = l[i]? := by
  obtain ⟨h1, h2⟩ := mapM_some h
  refine ⟨by simpa using h1, fun i hi => ?_⟩
  obtain ⟨y, e1, e2⟩ := h2 i i (by simp [hi])
  rw [e1]; exact e2
theorem cells_get {a : Addr} {n : Nat} {cs : List Value} (h : w.cells? base a n = some cs) : cs.length = n ∧ ∀ i, i < n → w.cell? (a.add i) = some (cs.getD i undef) := by
  unfold World.cells? at h
  split at h
  · obtain ⟨h1, h2⟩ := mapM_range h
    refine ⟨h1, fun i hi => ?_⟩
    rw [h2 i hi]
    simp [List.getD, List.getElem?_eq_getElem (show i < cs.length by omega)]
  · cases h
theorem cell_some {a : Addr} {v : Value} (h : w.cell? a = some v) : a.spot = none ∧ a.block < w.heap.size := by
  unfold World.cell? at h
  split at h
  · rename_i hb
    refine ⟨?_, (Array.getElem?_eq_some_iff.1 hb).1⟩
    split at h
    · cases h
    · rename_i hs; simpa using hs
  · cases h
theorem add_none {c o : Nat} (i : Nat) : (⟨c, o, none⟩ : Addr).add i = ⟨c, o + i, none⟩ := by unfold Addr.add; split <;> simp_all

theorem slice_rep {α : Type} [Inhabited α] {t e es : Nat} (ht : Tryz.prog.underlying t = some (.slice e)) (he : Tryz.prog.cellsOf e = es) (hes : 0 < es) (f : α → DV) (hf : ∀ a, (f a).cells.length = es) (ok : α → Prop)
    {fuel : Nat} {cs : List Value} {x : DataW H × List MemPlace} (h : DataW.trod enc Tryz.prog w base sp held fuel t cs = some x) (hb : _root_.Go.Proofs.YtjmglhioohndhaaGreatDoor.Rows.uptoBulk x.1 ≤ 1048576)
    (conv : ∀ n cs' y, n < fuel → DataW.trod enc Tryz.prog w base sp held n e cs' = some y → _root_.Go.Proofs.YtjmglhioohndhaaGreatDoor.Rows.uptoBulk y.1 ≤ 1048576 → ∃ a, ok a ∧ CRep w (f a).cells cs') :
    ∃ o : Option (List α), ((o.getD []).length ≤ 1048576 ∧ ∀ a ∈ o.getD [], ok a) ∧ CRep w [match o with | none => .snil | some l => .sim (l.map f)] cs := by
  rcases DataW.trod_slice ht h with ⟨rfl, rfl⟩ | ⟨a, len, cap, elems, rest, n, rfl, rfl, rfl, hba, hl, hm, hlen, hel, _, _⟩
  · exact ⟨none, ⟨by simp, by simp⟩, CRep.single rfl .snil⟩
  · simp only [_root_.Go.Proofs.YtjmglhioohndhaaGreatDoor.Rows.uptoBulk] at hb
    have h0 := bulk_len (elems.map (·.1))
    rw [List.length_map] at h0
    rw [he] at hel
    have key : ∀ i, ∃ b : α, i < len → ok b ∧ ∃ ecs : List Value, w.cells? base (a.add (i * es)) es = some ecs ∧ CRep w (f b).cells ecs := fun i => by
      by_cases hi : i < len
      · have h1 := hel i hi
        rw [List.getElem?_eq_getElem (by omega), Option.bind_eq_some_iff] at h1
        obtain ⟨ecs, h2, h3⟩ := h1
        obtain ⟨b, k1, k2⟩ := conv n ecs _ (by omega) h3 (by
          have := bulk_part (d := (elems[i]).1) (l := elems.map (·.1)) (List.mem_map.2 ⟨_, List.getElem_mem _, rfl⟩)
          omega)
        exact ⟨b, fun _ => ⟨k1, ecs, h2, k2⟩⟩
      · exact ⟨default, fun h => absurd h hi⟩
    obtain ⟨g, hg⟩ := Classical.axiomOfChoice key
    have key2 : ∀ i, ∃ ecs : List Value, i < len → w.cells? base (a.add (i * es)) es = some ecs ∧ CRep w (f (g i)).cells ecs := fun i => by
      by_cases hi : i < len
      · obtain ⟨_, ecs, q⟩ := hg i hi; exact ⟨ecs, fun _ => q⟩
      · exact ⟨[], fun h => absurd h hi⟩
    obtain ⟨ec, hec⟩ := Classical.axiomOfChoice key2
    have hL : ((List.range len).map g).length = len := by simp
    have hgd : ∀ j, j < len → (((List.range len).map g).map f).getD j .inil = f (g j) := fun j hj => by simp [List.getD, List.getElem?_map, hj]
    have hcell : ∀ j m, j < len → m < es → w.cell? ((a.add (j * es)).add m) = some ((ec j).getD m undef) := fun j m hj hm => (cells_get (hec j hj).1).2 m hm
    have hspot : 0 < len → a = ⟨a.block, a.off, none⟩ ∧ a.block < w.heap.size := fun hp => by
      have := hcell 0 0 hp hes
      rw [Nat.zero_mul] at this
      have h2 := cell_some (a := a) (by simpa [Addr.add] using this)
      exact ⟨by cases a; simp at h2 ⊢; exact h2.1, h2.2⟩
    refine ⟨some ((List.range len).map g), ⟨by simp; omega, fun b hb => ?_⟩, CRep.single rfl ?_⟩
    · obtain ⟨i, hi, rfl⟩ := List.mem_map.1 hb
      exact (hg i (by simpa using hi)).1
    · have hs := DRep.sim (w := w) (A := There w) (((List.range len).map g).map f) a cap a.block a.off es (fun j m => (ec j).getD m undef) (by simp [big]; omega) (by simpa using hl) (fun hp => hspot (by simpa using hp))
        (fun j hj => by rw [hgd j (by simpa using hj)]; exact hf _)
        (fun j m hj hm => by
          have hj : j < len := by simpa using hj
          have := hcell j m hj hm
          rw [(hspot (by omega)).1, add_none, add_none] at this
          rw [← this])
        (fun j m hj hm => by
          have hj : j < len := by simpa using hj
          have k := (hec j hj).2
          exact k.one m (by rw [hf]; exact hm))
        (fun j m hj hm => by
          have hj : j < len := by simpa using hj
          rw [hgd j hj]
          have k := (hec j hj).2
          exact k.at_ m (by rw [hf]; exact hm))
      rw [show (((List.range len).map g).map f).length = len by simp] at hs
      exact hs
theorem str_rep {fuel t : Nat} {cs : List Value} {x : DataW H × List MemPlace} (ht : Tryz.prog.underlying t = some .string) (h : DataW.trod enc Tryz.prog w base sp held fuel t cs = some x) (hb : _root_.Go.Proofs.YtjmglhioohndhaaGreatDoor.Rows.uptoBulk x.1 ≤ 1048576) :
    ∃ s : ByteArray, s.size ≤ 1048576 ∧ CRep w [.str s] cs := by
  obtain ⟨s, rfl, rfl, hs⟩ := DataW.trod_string ht h
  simp only [_root_.Go.Proofs.YtjmglhioohndhaaGreatDoor.Rows.uptoBulk] at hb
  have : s.size ≤ 1048576 := by have : s.data.toList.length = s.size := by simp
                                omega
  exact ⟨s, this, CRep.single rfl (.str s (by unfold big; omega))⟩
theorem int_rep {fuel t : Nat} {k : IntKind} {cs : List Value} {x : DataW H × List MemPlace} (ht : Tryz.prog.underlying t = some (.int k)) (h : DataW.trod enc Tryz.prog w base sp held fuel t cs = some x) :
    ∃ n : Int, CRep w [.int k n] cs := by
  obtain ⟨n, rfl, rfl, _⟩ := DataW.trod_int ht h
  exact ⟨n, CRep.single rfl (.int k n)⟩
theorem cells3 : Tryz.prog.cellsOf 3 = 1 := by kernel_rfl
theorem cells9 : Tryz.prog.cellsOf 9 = 1 := by kernel_rfl
theorem cells22 : Tryz.prog.cellsOf 22 = 1 := by kernel_rfl
theorem strs_rep {fuel : Nat} {cs : List Value} {x : DataW H × List MemPlace} (h : DataW.trod enc Tryz.prog w base sp held fuel 22 cs = some x) (hb : _root_.Go.Proofs.YtjmglhioohndhaaGreatDoor.Rows.uptoBulk x.1 ≤ 1048576) : ∃ o, okS0 o ∧ CRep w [encS o] cs := by
  haveI : Inhabited ByteArray := ⟨⟨#[]⟩⟩
  obtain ⟨o, h1, h2⟩ := slice_rep Tryz.underlying22 cells9 (by omega) DV.str (fun _ => rfl) (fun s : ByteArray => s.size ≤ 1048576) h hb fun n cs' y _ hy hb' => str_rep Tryz.underlying9 hy hb'
  exact ⟨o, h1, by cases o <;> exact h2⟩
theorem drop_take1 {cs : List Value} {k : Nat} (h : k < cs.length) : (cs.drop k).take 1 = [cs.getD k undef] := by
  rw [List.drop_eq_getElem_cons h, List.take_succ_cons, List.take_zero]; simp [List.getD, h]
end
end Go.Proofs.Sx

namespace Go.Proofs.Sx
open Go Go.Proofs Go.Proofs.Am 
variable {gs : List Nat}

section
variable {H : Type} {enc : TypeId × Value → H} {w : World} {base : Nat} {sp : Nat → Bool} {held : Bool}
theorem okL_of : ∀ {l : List V}, (∀ v ∈ l, v.ok) → okL l
  | [], _ => by rw [okL]; trivial
  | v :: r, h => by rw [okL]; exact ⟨h v (by simp), okL_of fun x hx => h x (by simp [hx])⟩
theorem encO_match (o : Option (List V)) : encO o = match o with | none => .snil | some l => .sim (l.map V.enc) := by cases o <;> simp [encO, encL_map]
theorem cells23 : Tryz.prog.cellsOf 23 = 1 := by kernel_rfl
theorem cells25 : Tryz.prog.cellsOf 25 = 6 := by kernel_rfl
theorem val_rep : ∀ (fuel : Nat) (cs : List Value) (x : DataW H × List MemPlace), DataW.trod enc Tryz.prog w base sp held fuel 25 cs = some x → _root_.Go.Proofs.YtjmglhioohndhaaGreatDoor.Rows.uptoBulk x.1 ≤ 1048576 → ∃ v : V, v.ok ∧ CRep w v.enc.cells cs := by
  intro fuel
  induction fuel using Nat.strongRecOn with
  | _ fuel ih =>
  intro cs x h hb
  obtain ⟨xs, n, rfl, rfl, hl, hxl, hf⟩ := DataW.trod_struct Tryz.underlying25 h
  rw [cells25] at hl
  have hxl : xs.length = 6 := hxl
  simp only [_root_.Go.Proofs.YtjmglhioohndhaaGreatDoor.Rows.uptoBulk] at hb
  have hpart : ∀ i (hi : i < xs.length), _root_.Go.Proofs.YtjmglhioohndhaaGreatDoor.Rows.uptoBulk (xs[i]).1 ≤ 1048576 := fun i hi => by
    have := bulk_part (d := (xs[i]).1) (l := xs.map (·.1)) (List.mem_map.2 ⟨_, List.getElem_mem _, rfl⟩)
    omega
  have f0 : DataW.trod enc Tryz.prog w base sp held n 3 ((cs.drop 0).take (Tryz.prog.cellsOf 3)) = xs[0]? := hf 0 _ rfl
  have f1 : DataW.trod enc Tryz.prog w base sp held n 3 ((cs.drop 1).take (Tryz.prog.cellsOf 3)) = xs[1]? := hf 1 _ rfl
  have f2 : DataW.trod enc Tryz.prog w base sp held n 3 ((cs.drop 2).take (Tryz.prog.cellsOf 3)) = xs[2]? := hf 2 _ rfl
  have f3 : DataW.trod enc Tryz.prog w base sp held n 9 ((cs.drop 3).take (Tryz.prog.cellsOf 9)) = xs[3]? := hf 3 _ rfl
  have f4 : DataW.trod enc Tryz.prog w base sp held n 22 ((cs.drop 4).take (Tryz.prog.cellsOf 22)) = xs[4]? := hf 4 _ rfl
  have f5 : DataW.trod enc Tryz.prog w base sp held n 23 ((cs.drop 5).take (Tryz.prog.cellsOf 23)) = xs[5]? := hf 5 _ rfl
  rw [List.getElem?_eq_getElem (by omega)] at f0 f1 f2 f3 f4 f5
  simp only [cells3, cells9, cells22, cells23] at f0 f1 f2 f3 f4 f5
  rw [drop_take1 (by omega)] at f0 f1 f2 f3 f4 f5
  obtain ⟨k, r0⟩ := int_rep Tryz.underlying3 f0
  obtain ⟨m, r1⟩ := int_rep Tryz.underlying3 f1
  obtain ⟨e, r2⟩ := int_rep Tryz.underlying3 f2
  obtain ⟨s, hs, r3⟩ := str_rep Tryz.underlying9 f3 (hpart 3 (by omega))
  obtain ⟨nm, hnm, r4⟩ := strs_rep f4 (hpart 4 (by omega))
  obtain ⟨it, hit, r5⟩ := slice_rep Tryz.underlying23 cells25 (by omega) V.enc (fun v => by rw [zA0]; rfl) V.ok f5 (hpart 5 (by omega)) fun n' cs' y hn hy hb' => ih n' (by omega) cs' y hy hb'
  have r5 : CRep w [encO it] [cs.getD 5 undef] := by rw [encO_match]; cases it <;> exact r5
  refine ⟨.mk k m e s nm it, ?_, ?_⟩
  · rw [V.ok]
    refine ⟨hs, hnm.1, hnm.2, ?_⟩
    cases it with
    | none => rw [okO]; trivial
    | some l => rw [okO]; exact ⟨hit.1, okL_of hit.2⟩
  · have e1 : cs = [cs.getD 0 undef] ++ ([cs.getD 1 undef] ++ ([cs.getD 2 undef] ++ ([cs.getD 3 undef] ++ ([cs.getD 4 undef] ++ [cs.getD 5 undef])))) := by
      match cs, hl with
      | [a, b, c, d, e, f], _ => rfl
    rw [zA0, e1]
    exact r0.append (r1.append (r2.append (r3.append (r4.append r5))))
theorem val_arg {v : Value} {d : DataW H} {p : List MemPlace} {b0 : Nat} (hval : Value.okWide Tryz.prog w .any b0 25 v) (h : DataW.Trod enc Tryz.prog w base sp held 25 v d p) (hb : _root_.Go.Proofs.YtjmglhioohndhaaGreatDoor.Rows.uptoBulk d ≤ 1048576) : ∃ a : V, a.ok ∧ DRep w (There w) a.enc v := by
  unfold Value.okWide at hval
  rw [Tryz.underlying25] at hval
  obtain ⟨cs, rfl, _⟩ := hval
  obtain ⟨fuel, hf⟩ := h
  obtain ⟨a, h1, h2⟩ := val_rep fuel _ _ hf hb
  exact ⟨a, h1, by rw [enc_eq]; rw [zA0] at h2; exact CRep.agg h2⟩
end
end Go.Proofs.Sx

namespace Go.Proofs.Sx
open Go Go.Proofs Go.Proofs.Am 
variable {gs : List Nat}

end Go.Proofs.Sx
namespace Go.Proofs.YtjmglhioohndhaaGreatDoor.law
open Go Go.Proofs Go.Proofs.Am Go.Proofs.Sx
open Go.ChangeShapes Go.WideShapes Go.ChangeAt Go.RowKit

theorem own : ownKnob Tryz.prog.godebug = none := by kernel_rfl
theorem laidOut : laidOutB Tryz.prog = true := by kernel_rfl
theorem readable25 : Tryz.prog.readableRec 25 = true := by kernel_rfl
theorem types25 : 25 < Tryz.prog.types.size := of_decide_eq_true (by kernel_rfl)
theorem gint {W : World} (h : W.ShapedOpen Tryz.prog) : GInt [0] W := by
  intro g hg
  have : g = 0 := by simpa using hg
  subst this
  obtain ⟨cs, hh, hs, hr⟩ := h.1 0 #[.int .i64 0] 3 (of_decide_eq_true (by kernel_rfl)) (by kernel_rfl)
  obtain ⟨ts, hts, _, hall⟩ := hr (by kernel_rfl)
  rw [show Tryz.prog.cellTypes Tryz.prog.depth 3 = some [3] by kernel_rfl] at hts
  cases hts
  have h1 : 0 < cs.size := by rw [hs]; simp
  obtain ⟨u, hu', hok⟩ := hall 0 cs[0] (by simp [h1])
  have : u = 3 := by simpa using hu'.symm
  subst this
  have hcell : W.cell? ⟨0, 0, none⟩ = some cs[0] := by simp [World.cell?, hh, h1]
  unfold Cell.ok at hok
  rw [Tryz.underlying3] at hok
  cases hv : cs[0] <;> rw [hv] at hok <;> simp only at hok
  obtain ⟨rfl, _⟩ := hok
  exact ⟨_, by rw [hcell, hv]⟩

theorem contract (H : Type) (enc : TypeId × Value → H) (W : World) (base : Nat) (args : Array Value) (ds gs : List (DataW H)) (before : List MemPlace)
    (hval : ∀ (j : Nat) t v, Tryz.f3.params[j]? = some t → args[j]? = some v → Value.okWide Tryz.prog W .any base t v)
    (hW : DataW.Whole enc Tryz.prog Tryz.f3.params.toList Rows.expressionWritesSpec.vars false W args.toList ds gs before)
    (hk : Rows.uptoSmall H (ds ++ gs) = true) (hsh : W.ShapedOpen Tryz.prog) :
    Calls Tryz.prog 3 args W fun e W' => ∃ v, e = .returned v ∧ Rows.expressionWritesSpec.post enc Tryz.prog Tryz.f3 false true false false W args v W' := by
  have hW' := hW
  have hlt := hW.lt
  obtain ⟨p, q, hA0, hV, rfl, hfz, hnd⟩ := hW
  have hA : DataW.TrodAll enc Tryz.prog W 0 (fun _ => true) true Tryz.f3.params.toList args.toList ds p := hA0
  rw [Tryz.params3] at hA hval
  obtain ⟨v0, d0, rfl, rfl, h0⟩ := trodAll_one hA
  obtain ⟨rfl, rfl⟩ := trodVars_none hV
  have hb := of_decide_eq_true hk
  simp only [List.append_nil, _root_.Go.Proofs.YtjmglhioohndhaaGreatDoor.Rows.uptoBulkAll] at hb
  obtain ⟨a, ha, ra⟩ := val_arg (hval 0 25 v0 rfl rfl) h0 (by omega)
  have hc := (pc3003 a ha).2 W (There W) #[v0] (fun g h => h) rfl (fun i hi => by
    match i, hi with
    | 0, _ => exact ra) (gint hsh)
  refine hc.mono fun e W' ⟨v, he, hr⟩ => ?_
  obtain ⟨A', ρ, hbl, _, _, _, hv, _, _, _⟩ := hr.ex
  have hv : ARep W' A' ρ (.d (.bool true)) v := hv
  have : v = .bool true := by
    cases hv with
    | d _ _ h => cases h; rfl
  subst this
  subst he
  simp only [List.append_nil] at hW' hlt
  have q0 := Below.trod laidOut readable25 types25 h0 hbl (fun x hx => hlt x (by simp [hx]))
  exact ⟨_, rfl, _, _, _, [], p, [], hW', trodAll_mk1 (shut_bool Tryz.underlying4 _), trodAll_mk1 q0, rfl, hbl.frame _, fun h => by cases h⟩

noncomputable def zeroArgs : Array Value := #[.agg #[.int .i64 0, .int .i64 0, .int .i64 0, .string ⟨#[]⟩, .slice none 0 0, .slice none 0 0]]
noncomputable def start (os : Os) : World := World.laidAll Tryz.prog os Rows.expressionWritesUptoRow.laid
theorem reads (os : Os) {H : Type} (enc : TypeId × Value → H) : DataW.whole enc Tryz.prog ((start os).forCall (fun _ _ => 0) ⟨#[], zeroArgs, []⟩).memory Tryz.f3.params.toList Rows.expressionWritesSpec.vars false zeroArgs.toList 8 =
    some ([.agg [.lit (.int .i64 0), .lit (.int .i64 0), .lit (.int .i64 0), .lit (.string []), .nil, .nil]], [], []) := by kernel_rfl
set_option maxRecDepth 100000 in
theorem laid_met (os : Os) : laidMetH Tryz.prog Rows.expressionWritesUptoRow.laid ((start os).forCall (fun _ _ => 0) ⟨#[], zeroArgs, []⟩).memory := by
  rw [MakeChecks.laidMetH_plain _ _ _ (by kernel_rfl)]; exact laidMet_laidAll _ (by kernel_rfl) (by kernel_rfl)
set_option maxRecDepth 100000 in
theorem shaped (os : Os) : ((start os).forCall (fun _ _ => 0) ⟨#[], zeroArgs, []⟩).Shaped Tryz.prog := World.shaped_of_ZipB (by kernel_rfl) (by kernel_rfl)
set_option maxRecDepth 100000 in
theorem liftedUpto (os : Os) (started : os.Started) (H : Type) (enc : TypeId × Value → H) (F : Stop.Interp) :
    ReturnsInHanded {} Tryz.checked os 3 .any ((Rows.OpenSpec.upto Rows.expressionWritesSpec).preRow enc Tryz.prog Tryz.f3 Rows.expressionWritesUptoRow.domain false Rows.expressionWritesUptoRow.laid) (((Rows.OpenSpec.upto Rows.expressionWritesSpec).at F).post enc Tryz.prog Tryz.f3 false true false false) := by
  have hok : Input.okWideB Tryz.prog ((start os).forCall (fun _ _ => 0) ⟨#[], zeroArgs, []⟩) 3 ⟨#[], zeroArgs, []⟩ = true := by kernel_rfl
  refine returnsInHanded_of_row (C := Tryz.checked) (s := Rows.OpenSpec.upto Rows.expressionWritesSpec) own started (by kernel_rfl) Tryz.func3
    ⟨start os, fun _ _ => 0, ⟨#[], zeroArgs, []⟩, World.laidAll_os _ _ _, shaped os, (Input.okWide_of_okWideB (base := 0) hok).1, (Input.okWide_of_okWideB hok).2,
      OpenSpec.preRow_of_cond 8 (reads os enc) (by kernel_rfl) (fun k hk => by cases hk; kernel_rfl) (by kernel_rfl) (laid_met os), by
        simp only [Assume.holds]
        exact ⟨by simp, by simp, fun _ => Modest.zero, by simp, by simp⟩⟩ ?_
  intro W base args ds gs before hval hW _ hcond _ _ hsh _
  exact contract H enc W base args ds gs before hval hW (hcond _ rfl) hsh
theorem saidUpto : Rows.ExpressionWritesUptoSaid :=
  OpenClaim.holds_of_cond 3 Tryz.f3 rfl rfl rfl rfl rfl rfl rfl ⟨rfl, rfl, rfl, rfl, rfl⟩ rfl rfl rfl rfl rfl (by kernel_rfl) Tryz.func3 (by kernel_rfl)
    (of_decide_eq_true (by kernel_rfl)) (by unfold Func.isWrapper; first | (rw [if_pos (by decide +kernel)]; kernel_rfl) | (rw [if_neg (by decide +kernel)]; exact ⟨rfl, rfl⟩))
    (fun os started H enc _ F => by rw [OpenClaim.pre_eq_preRow]; exact liftedUpto os started H enc F)
theorem plain (f : FuncId) (fn : Func) (hf : Tryz.pinned.checked.prog.funcNamed "examiner/examinerlaw20.ExpressionWrites" = some f) (hfn : Tryz.pinned.checked.prog.funcs[f]? = some fn) :
    true = Tryz.pinned.checked.prog.looks [] ∧ ∀ (j : Nat) t, fn.params[j]? = some t → Tryz.pinned.checked.prog.wantsStandIn t = false := by
  obtain rfl : f = 3 := Option.some.inj ((show Tryz.prog.funcNamed "examiner/examinerlaw20.ExpressionWrites" = some 3 by kernel_rfl).symm.trans hf) |>.symm
  obtain rfl : fn = Tryz.f3 := (Option.some.inj (Tryz.func3.symm.trans hfn)).symm
  refine ⟨by kernel_rfl, fun j t ht => ?_⟩
  rw [Tryz.params3] at ht
  have hm : t ∈ [25] := by simpa using Array.mem_of_getElem? ht
  have hall : ([25].all fun u => !Tryz.prog.wantsStandIn u) = true := by kernel_rfl
  exact (show Tryz.prog.wantsStandIn t = false by simpa using List.all_eq_true.1 hall t hm)
theorem cardUpto : Rows.ExpressionWritesUptoCardSaid :=
  Claim7.holds_tied_plain_at .later [] _ _ _ _ saidUpto (fun _ h => by cases h) (by kernel_rfl) (fun _ h => by cases h) expressionWritesUpto_row_tie rfl ⟨rfl, rfl⟩ (by kernel_rfl) rfl plain (by kernel_rfl)
#print axioms cardUpto
end Go.Proofs.YtjmglhioohndhaaGreatDoor.law
namespace Go.Proofs.Sx
end Go.Proofs.Sx
