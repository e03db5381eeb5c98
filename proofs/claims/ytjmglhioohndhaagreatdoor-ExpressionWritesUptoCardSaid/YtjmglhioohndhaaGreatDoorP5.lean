/- Same terms. -/
import Derived.Test.YtjmglhioohndhaaGreatDoorP4
import Derived.Test.YtjmglhioohndhaaGreatDoorP3

set_option linter.unusedVariables false
set_option linter.unusedSimpArgs false
set_option maxRecDepth 100000
namespace Go.Proofs.Sx
open Go Go.Proofs Go.Proofs.Am 
variable {gs : List Nat}

def lv3028 : Nat → List Nat × List Nat
  | 4 => ([0, 1, 5], [])
  | _ => ([], [])
theorem eq_of_getD {α : Type} [Inhabited α] {l r : List α} (hl : l.length = r.length) (h : ∀ j, j < l.length → l.getD j default = r.getD j default) : l = r := by
  apply List.ext_getElem hl
  intro i h1 h2
  have := h i h1
  simpa [List.getD, h1, h2] using this
theorem qB : type_of% (And.intro @zB7 (And.intro @zC6 (And.intro @zB8 (And.intro @zC5 (And.intro @zC1 (And.intro @zC3 (And.intro @zC0 (And.intro @zB5 (And.intro @zB9 (And.intro @zB6 (And.intro @zC8 (And.intro @zD2 (And.intro @zC9 (And.intro @zD1 (And.intro @zC2 (And.intro @zC4 @zC7)))))))))))))))) :=
  (And.intro @zB7 (And.intro @zC6 (And.intro @zB8 (And.intro @zC5 (And.intro @zC1 (And.intro @zC3 (And.intro @zC0 (And.intro @zB5 (And.intro @zB9 (And.intro @zB6 (And.intro @zC8 (And.intro @zD2 (And.intro @zC9 (And.intro @zD1 (And.intro @zC2 (And.intro @zC4 @zC7))))))))))))))))
theorem pc3028 (o u : Option (List Int)) (ho : okIs o) (hu : okIs u) : PureCall Tryz.prog [0] 28 [encIs o, encIs u] (dRet (.bool (decide (o.getD [] = u.getD [])))) := by
  generalize hr : decide (o.getD [] = u.getD []) = r
  have hl1 : (o.getD []).length ≤ 1048576 := ho
  have hl2 : (u.getD []).length ≤ 1048576 := hu
  refine zD0 mixed fn3028 (Nat.le_of_ble_eq_true rfl) (Nat.lt_of_succ_le (Nat.le_of_ble_eq_true rfl)) (sfOk .nil) TbOk (lv := lv3028) fun I F hI hF => ?_
  refine zE2 fun C hC => ?_
  generalize Q0 : encIs o = Z0
  generalize Q1 : encIs u = Z1
  generalize Q2 : DV.bool r = Z2
  cbv
  subst Q0 Q1 Q2
  subst hC
  refine ⟨?_⟩
  simp (maxSteps:=9999999) only [hI, hF, std]
  simp only [smp, smo, lookOk, lookRes, sfOf, ↓reduceIte, Nat.reduceEqDiff, reduceCtorEq, qA, qB]
  generalize hL : Sat Tryz.prog [0] _ (Tree.loop _ _ _ _ _ _ _) = L
  simp [- List.getD_eq_getElem?_getD, - Subtype.exists, - Prod.exists, - Bool.exists_bool]
  refine ⟨fun hne => ?_, fun heq => ?_⟩
  · rw [← hr]; simp; intro hc; exact hne (by rw [hc])
  have heq : (o.getD []).length = (u.getD []).length := by omega
  subst hL
  refine zE1 (kend := fun I => kEndF I Tb [.tmp 4]) hI hF (sfOk .nil) TbOk (by exact fun Bk e s h => endF TbOk Bk e s h) (lv := lv3028) 0 (fun i : {i : Nat // i ≤ (o.getD []).length ∧ ∀ j, j < i → (o.getD []).getD j 0 = (u.getD []).getD j 0} => [.d (encIs o), .d (encIs u), .d (.int .i64 (i.1 : Int))]) (fun i : {i : Nat // i ≤ (o.getD []).length ∧ ∀ j, j < i → (o.getD []).getD j 0 = (u.getD []).getD j 0} => []) (fun i : {i : Nat // i ≤ (o.getD []).length ∧ ∀ j, j < i → (o.getD []).getD j 0 = (u.getD []).getD j 0} => (o.getD []).length - i.1) [] (⟨0, by omega, fun j h => by omega⟩ : {i : Nat // i ≤ (o.getD []).length ∧ ∀ j, j < i → (o.getD []).getD j 0 = (u.getD []).getD j 0}) (by rfl) (by rfl) ?_ ?_ fun i => ?_
  · rfl
  · rfl
  obtain ⟨i, hi1, hi2⟩ := i
  refine zE2 fun C hC => ?_
  generalize Q0 : encIs o = Z0
  generalize Q1 : encIs u = Z1
  generalize Q2 : DV.int .i64 (i : Int) = Z2
  generalize Q3 : DV.bool r = Z3
  cbv
  subst Q0 Q1 Q2 Q3
  subst hC
  refine ⟨?_⟩
  simp (maxSteps:=9999999) only [hI, hF, std]
  have w3 := zE6 (n := i) (by omega)
  by_cases hlt : i < (o.getD []).length
  · have g1 := zI0 _ _ hlt
    have hlt2 : i < (u.getD []).length := by omega
    have g2 := zI0 _ _ hlt2
    simp only [smp, smo, lookOk, lookRes, sfOf, ↓reduceIte, Nat.reduceEqDiff, reduceCtorEq, qA, qB, g1, g2]
    simp [- List.getD_eq_getElem?_getD, - Subtype.exists, - Prod.exists, - Bool.exists_bool, hlt, hlt2, w3, g1, g2, qB]
    refine ⟨fun h => ?_, fun h => ⟨⟨i + 1, by omega, fun j hj => ?_⟩, by show (o.getD []).length - (i + 1) < (o.getD []).length - i; omega, rfl⟩⟩
    · rw [← hr]; simp; intro hc; exact h (by rw [hc])
    · by_cases hji : j = i
      · subst hji; exact h
      · exact hi2 j (by omega)
  · simp only [smp, smo, lookOk, lookRes, sfOf, ↓reduceIte, Nat.reduceEqDiff, reduceCtorEq, qA, qB]
    simp [- List.getD_eq_getElem?_getD, - Subtype.exists, - Prod.exists, - Bool.exists_bool, hlt]
    have := eq_of_getD heq (fun j hj => hi2 j (by omega))
    rw [← hr]; simp [this]
open Classical in
noncomputable def e3028 : Ent := ⟨28, fun | [d_o, d_u] => decide (isIs d_o ∧ isIs d_u) | _ => false, fun | [d_o, d_u] => .bool (decide ((toIs d_o).getD [] = (toIs d_u).getD [])) | _ => .inil⟩
open Classical in
theorem ok3028 : EntOk Tryz.prog [0] e3028 := fun ds h => by
  unfold e3028 at h ⊢
  simp only at h ⊢
  split at h
  · rw [decide_eq_true_iff] at h
    obtain ⟨⟨v0, rfl, k0⟩, ⟨v1, rfl, k1⟩⟩ := h
    simp only [zB2, zA4, zA5, zC2, zC8, zC9]
    exact pc3028 _ _ k0 k1
  · cases h
theorem pc3027 (o u : Option (List ByteArray)) (ho : okS0 o) (hu : okS0 u) : PureCall Tryz.prog [0] 27 [encS o, encS u] (dRet (.bool (decide (o.getD [] = u.getD [])))) := by
  generalize hr : decide (o.getD [] = u.getD []) = r
  have hl1 : (o.getD []).length ≤ 1048576 := ho.1
  have hl2 : (u.getD []).length ≤ 1048576 := hu.1
  refine zD0 mixed fn3027 (Nat.le_of_ble_eq_true rfl) (Nat.lt_of_succ_le (Nat.le_of_ble_eq_true rfl)) (sfOk .nil) TbOk (lv := lv3028) fun I F hI hF => ?_
  refine zE2 fun C hC => ?_
  generalize Q0 : encS o = Z0
  generalize Q1 : encS u = Z1
  generalize Q2 : DV.bool r = Z2
  cbv
  subst Q0 Q1 Q2
  subst hC
  refine ⟨?_⟩
  simp (maxSteps:=9999999) only [hI, hF, std]
  simp only [smp, smo, lookOk, lookRes, sfOf, ↓reduceIte, Nat.reduceEqDiff, reduceCtorEq, qA, qB]
  generalize hL : Sat Tryz.prog [0] _ (Tree.loop _ _ _ _ _ _ _) = L
  simp [- List.getD_eq_getElem?_getD, - Subtype.exists, - Prod.exists, - Bool.exists_bool]
  refine ⟨fun hne => ?_, fun heq => ?_⟩
  · rw [← hr]; simp; intro hc; exact hne (by rw [hc])
  have heq : (o.getD []).length = (u.getD []).length := by omega
  subst hL
  refine zE1 (kend := fun I => kEndF I Tb [.tmp 4]) hI hF (sfOk .nil) TbOk (by exact fun Bk e s h => endF TbOk Bk e s h) (lv := lv3028) 0 (fun i : {i : Nat // i ≤ (o.getD []).length ∧ ∀ j, j < i → (o.getD []).getD j ⟨#[]⟩ = (u.getD []).getD j ⟨#[]⟩} => [.d (encS o), .d (encS u), .d (.int .i64 (i.1 : Int))]) (fun i : {i : Nat // i ≤ (o.getD []).length ∧ ∀ j, j < i → (o.getD []).getD j ⟨#[]⟩ = (u.getD []).getD j ⟨#[]⟩} => []) (fun i : {i : Nat // i ≤ (o.getD []).length ∧ ∀ j, j < i → (o.getD []).getD j ⟨#[]⟩ = (u.getD []).getD j ⟨#[]⟩} => (o.getD []).length - i.1) [] (⟨0, by omega, fun j h => by omega⟩ : {i : Nat // i ≤ (o.getD []).length ∧ ∀ j, j < i → (o.getD []).getD j ⟨#[]⟩ = (u.getD []).getD j ⟨#[]⟩}) (by rfl) (by rfl) ?_ ?_ fun i => ?_
  · rfl
  · rfl
  obtain ⟨i, hi1, hi2⟩ := i
  refine zE2 fun C hC => ?_
  generalize Q0 : encS o = Z0
  generalize Q1 : encS u = Z1
  generalize Q2 : DV.int .i64 (i : Int) = Z2
  generalize Q3 : DV.bool r = Z3
  cbv
  subst Q0 Q1 Q2 Q3
  subst hC
  refine ⟨?_⟩
  simp (maxSteps:=9999999) only [hI, hF, std]
  have w3 := zE6 (n := i) (by omega)
  by_cases hlt : i < (o.getD []).length
  · have g1 := zJ7 _ _ hlt
    have hlt2 : i < (u.getD []).length := by omega
    have g2 := zJ7 _ _ hlt2
    simp only [smp, smo, lookOk, lookRes, sfOf, ↓reduceIte, Nat.reduceEqDiff, reduceCtorEq, qA, qB, g1, g2]
    simp [- List.getD_eq_getElem?_getD, - Subtype.exists, - Prod.exists, - Bool.exists_bool, hlt, hlt2, w3, g1, g2, qB, cells_str]
    refine ⟨fun h => ?_, fun h => ⟨⟨i + 1, by omega, fun j hj => ?_⟩, by show (o.getD []).length - (i + 1) < (o.getD []).length - i; omega, rfl⟩⟩
    · rw [← hr]; simp; intro hc; exact h (by rw [hc])
    · by_cases hji : j = i
      · subst hji; exact h
      · exact hi2 j (by omega)
  · simp only [smp, smo, lookOk, lookRes, sfOf, ↓reduceIte, Nat.reduceEqDiff, reduceCtorEq, qA, qB]
    simp [- List.getD_eq_getElem?_getD, - Subtype.exists, - Prod.exists, - Bool.exists_bool, hlt]
    have := eq_of_getD heq (fun j hj => hi2 j (by omega))
    rw [← hr]; simp [this]
open Classical in
noncomputable def e3027 : Ent := ⟨27, fun | [d_o, d_u] => decide (isSs d_o ∧ isSs d_u) | _ => false, fun | [d_o, d_u] => .bool (decide ((toSs d_o).getD [] = (toSs d_u).getD [])) | _ => .inil⟩
open Classical in
theorem ok3027 : EntOk Tryz.prog [0] e3027 := fun ds h => by
  unfold e3027 at h ⊢
  simp only at h ⊢
  split at h
  · rw [decide_eq_true_iff] at h
    obtain ⟨⟨v0, rfl, k0⟩, ⟨v1, rfl, k1⟩⟩ := h
    simp only [zB2, zA4, zA5]
    exact pc3027 _ _ k0 k1
  · cases h
end Go.Proofs.Sx

namespace Go.Proofs.Sx
open Go Go.Proofs Go.Proofs.Am 
variable {gs : List Nat}

def SameN (a b : Nd) : Prop := a.k = b.k ∧ a.n = b.n ∧ a.tx = b.tx ∧ a.names = b.names ∧ a.args = b.args
instance (a b : Nd) : Decidable (SameN a b) := by unfold SameN; exact inferInstance
def SameTm (l r : List Nd) : Prop := l.length = r.length ∧ ∀ j, j < l.length → SameN (l.getD j default) (r.getD j default)
def lv3010 : Nat → List Nat × List Nat
  | 4 => ([0, 1, 5], [])
  | _ => ([], [])
set_option maxHeartbeats 1000000 in
open Classical in
theorem pc3010 (o u : Option (List Nd)) (ho : okT o) (hu : okT u) : PureCall Tryz.prog [0] 10 [encT o, encT u] (dRet (.bool (decide (SameTm (o.getD []) (u.getD []))))) := by
  generalize hr : decide (SameTm (o.getD []) (u.getD [])) = r
  have hl1 := ho.1
  have hl2 := hu.1
  refine zD0 mixed fn3010 (Nat.le_of_ble_eq_true rfl) (Nat.lt_of_succ_le (Nat.le_of_ble_eq_true rfl)) (sfOk (.cons ok3027 (.cons ok3028 .nil))) TbOk (lv := lv3010) fun I F hI hF => ?_
  refine zE2 fun C hC => ?_
  generalize Q0 : encT o = Z0
  generalize Q1 : encT u = Z1
  generalize Q2 : DV.bool r = Z2
  cbv
  subst Q0 Q1 Q2
  subst hC
  refine ⟨?_⟩
  simp (maxSteps:=9999999) only [hI, hF, std]
  simp only [smp, smo, lookOk, lookRes, sfOf, ↓reduceIte, Nat.reduceEqDiff, reduceCtorEq, qA, qB]
  generalize hL : Sat Tryz.prog [0] _ (Tree.loop _ _ _ _ _ _ _) = L
  simp [- List.getD_eq_getElem?_getD, - Subtype.exists, - Prod.exists, - Bool.exists_bool]
  refine ⟨fun hne => ?_, fun heq => ?_⟩
  · rw [← hr]; simp; intro hc; exact hne (by rw [hc.1])
  have heq : (o.getD []).length = (u.getD []).length := by omega
  subst hL
  refine zE1 (kend := fun I => kEndF I Tb [.tmp 4]) hI hF (sfOk (.cons ok3027 (.cons ok3028 .nil))) TbOk (by exact fun Bk e s h => endF TbOk Bk e s h) (lv := lv3010) 0 (fun i : {i : Nat // i ≤ (o.getD []).length ∧ ∀ j, j < i → SameN ((o.getD []).getD j default) ((u.getD []).getD j default)} => [.d (encT o), .d (encT u), .d (.int .i64 (i.1 : Int))]) (fun i : {i : Nat // i ≤ (o.getD []).length ∧ ∀ j, j < i → SameN ((o.getD []).getD j default) ((u.getD []).getD j default)} => []) (fun i : {i : Nat // i ≤ (o.getD []).length ∧ ∀ j, j < i → SameN ((o.getD []).getD j default) ((u.getD []).getD j default)} => (o.getD []).length - i.1) [] (⟨0, by omega, fun j h => by omega⟩ : {i : Nat // i ≤ (o.getD []).length ∧ ∀ j, j < i → SameN ((o.getD []).getD j default) ((u.getD []).getD j default)}) (by rfl) (by rfl) ?_ ?_ fun i => ?_
  · rfl
  · rfl
  obtain ⟨i, hi1, hi2⟩ := i
  refine zE2 fun C hC => ?_
  generalize Q0 : encT o = Z0
  generalize Q1 : encT u = Z1
  generalize Q2 : DV.int .i64 (i : Int) = Z2
  generalize Q3 : DV.bool r = Z3
  cbv
  subst Q0 Q1 Q2 Q3
  subst hC
  refine ⟨?_⟩
  simp (maxSteps:=9999999) only [hI, hF, std]
  have w3 := zE6 (n := i) (by omega)
  by_cases hlt : i < (o.getD []).length
  · have g1 := zI4 _ _ hlt
    have hlt2 : i < (u.getD []).length := by omega
    have g2 := zI4 _ _ hlt2
    have k1 := okT_get ho hlt
    have k2 := okT_get hu hlt2
    simp only [smp, smo, lookOk, lookRes, sfOf, ↓reduceIte, Nat.reduceEqDiff, reduceCtorEq, qA, qB, e3027, e3028, g1, g2]
    generalize hx : (o.getD []).getD i default = x at *
    generalize hy : (u.getD []).getD i default = y at *
    have n1 : x.nm.getD [] = x.names := rfl
    have n2 : y.nm.getD [] = y.names := rfl
    have n3 : x.ar.getD [] = x.args := rfl
    have n4 : y.ar.getD [] = y.args := rfl
    simp [- List.getD_eq_getElem?_getD, - Subtype.exists, - Prod.exists, - Bool.exists_bool, hlt, hlt2, w3, g1, g2, qA, qB, k1.2.1, k1.2.2, k2.2.1, k2.2.2, n1, n2, n3, n4]
    by_cases hs : SameN x y
    · obtain ⟨a1, a2, a3, a4, a5⟩ := id hs
      simp [- Subtype.exists, - Prod.exists, - Bool.exists_bool, a1, a2, a3, a4, a5]
      refine ⟨⟨i + 1, by omega, fun j hj => ?_⟩, by show (o.getD []).length - (i + 1) < (o.getD []).length - i; omega, rfl⟩
      by_cases hji : j = i
      · subst hji; rw [hx, hy]; exact hs
      · exact hi2 j (by omega)
    · have hf : r = false := by
        rw [← hr]; exact decide_eq_false fun hc => hs (by have := hc.2 i hlt; rwa [hx, hy] at this)
      unfold SameN at hs
      by_cases a1 : x.k = y.k <;> by_cases a2 : x.n = y.n <;> by_cases a3 : x.tx = y.tx <;> by_cases a4 : x.names = y.names <;> by_cases a5 : x.args = y.args <;> simp_all
  · simp only [smp, smo, lookOk, lookRes, sfOf, ↓reduceIte, Nat.reduceEqDiff, reduceCtorEq, qA, qB]
    simp [- List.getD_eq_getElem?_getD, - Subtype.exists, - Prod.exists, - Bool.exists_bool, hlt]
    rw [← hr]; simp; exact ⟨heq, fun j hj => hi2 j (by omega)⟩
open Classical in
noncomputable def sameTB (l r : List Nd) : Bool := decide (SameTm l r)
theorem pc3010b (o u : Option (List Nd)) (ho : okT o) (hu : okT u) : PureCall Tryz.prog [0] 10 [encT o, encT u] (dRet (.bool (sameTB (o.getD []) (u.getD [])))) := pc3010 o u ho hu
end Go.Proofs.Sx

namespace Go.Proofs.Sx
open Go Go.Proofs Go.Proofs.Am 
variable {gs : List Nat}

def mkI (l : List Int) : Option (List Int) := if l = [] then none else some l
def sh (d : Int) (x : Nd) : Nd := ⟨x.k, x.n, x.tx, x.nm, x.ar.map (List.map (· + d))⟩
def shR (d : Int) (x : Nd) : Nd := ⟨x.k, x.n, x.tx, some x.names, mkI (x.args.map (· + d))⟩
def hR (o : Option (List ByteArray)) : Option (List ByteArray) := some (o.getD [])
def catP (g : Int → Nd → Nd) : Nat → List (List Nd) → List Nd
  | _, [] => []
  | p, t :: l => t.map (g p) ++ catP g (p + t.length) l
def rts : Nat → List (List Nd) → List Int
  | _, [] => []
  | p, t :: l => (((p + t.length : Nat) : Int) - 1) :: rts (p + t.length) l
def joinT (g : Int → Nd → Nd) (root : Nd) (l : List (List Nd)) : List Nd := catP g 0 l ++ [⟨root.k, root.n, root.tx, root.nm, mkI (rts 0 l)⟩]
def leafK (k : Int) : Bool := decide ((1 ≤ k ∧ k ≤ 6) ∨ k = 14)
def rootV (h : Option (List ByteArray) → Option (List ByteArray)) (k n : Int) (s : ByteArray) (nm : Option (List ByteArray)) : Nd :=
  if k = 1 then ⟨1, n, ⟨#[]⟩, none, none⟩ else if k = 2 then ⟨0, n, ⟨#[]⟩, none, none⟩ else if k = 3 then ⟨5, 0, s, none, none⟩
  else if k = 4 then ⟨3, 0, s, none, none⟩ else if k = 5 then ⟨4, 0, s, none, none⟩ else if k = 6 then ⟨2, 0, s, none, none⟩ else if k = 14 then ⟨6, n, ⟨#[]⟩, none, none⟩
  else if k = 9 then ⟨9, 0, ⟨#[]⟩, h nm, none⟩ else if k = 12 then ⟨11, 0, ⟨#[]⟩, h nm, none⟩ else ⟨10, 0, ⟨#[]⟩, h none, none⟩
mutual
def tm (g : Int → Nd → Nd) (h : Option (List ByteArray) → Option (List ByteArray)) : V → List Nd
  | .mk k n e s nm it => joinT g (rootV h k n s nm) (if leafK k = true then [] else tmO g h it)
def tmO (g : Int → Nd → Nd) (h : Option (List ByteArray) → Option (List ByteArray)) : Option (List V) → List (List Nd)
  | none => []
  | some l => tmL g h l
def tmL (g : Int → Nd → Nd) (h : Option (List ByteArray) → Option (List ByteArray)) : List V → List (List Nd)
  | [] => []
  | v :: r => tm g h v :: tmL g h r
end
theorem tmL_map (g h) : ∀ l, tmL g h l = l.map (tm g h)
  | [] => rfl
  | v :: r => by rw [tmL, tmL_map g h r]; rfl
theorem zI8 (g h) (v : V) : tm g h v = joinT g (rootV h v.k v.n v.s v.nm) (if leafK v.k = true then [] else v.items.map (tm g h)) := by
  obtain ⟨k, n, e, s, nm, it⟩ := v
  rw [tm]
  cases it with
  | none => rfl
  | some l => rw [tmO, tmL_map]; rfl
theorem catP_len (g) : ∀ (l : List (List Nd)) (p q : Nat), (catP g p l).length = (catP g q l).length
  | [], _, _ => rfl
  | t :: l, p, q => by simp only [catP, List.length_append, List.length_map, catP_len g l (p + t.length) (q + t.length)]
theorem rts_len : ∀ (l : List (List Nd)) (p : Nat), (rts p l).length = l.length
  | [], _ => rfl
  | t :: l, p => by simp only [rts, List.length_cons, rts_len l]
theorem catP_bound (g h) : ∀ (l : List V) (p : Nat), (∀ x ∈ l, (tm g h x).length ≤ x.sz) → (catP g p (l.map (tm g h))).length ≤ szL l
  | [], _, _ => Nat.le_refl _
  | v :: r, p, hl => by
    have h1 := hl v (List.mem_cons_self ..)
    have h2 := catP_bound g h r (p + (tm g h v).length) fun x hx => hl x (List.mem_cons_of_mem _ hx)
    simp only [List.map_cons, catP, List.length_append, List.length_map, szL]
    omega
theorem joinT_len (g) (root : Nd) (l) : (joinT g root l).length = (catP g 0 l).length + 1 := by simp [joinT]
theorem tm_len (g h) : ∀ (n : Nat) (v : V), v.sz < n → (tm g h v).length ≤ v.sz
  | 0, v, hn => by omega
  | n + 1, v, hn => by
    have e1 := v.sz_eq
    have := catP_bound g h v.items 0 fun x hx => tm_len g h n x (by have := V.sz_item hx; omega)
    rw [zI8, joinT_len]
    by_cases hk : leafK v.k = true
    · rw [if_pos hk, catP]; simp only [List.length_nil]; omega
    · rw [if_neg hk]; omega
theorem ownN_sh (d : Int) (x : Nd) : ownN (sh d x) = sh d (ownN x) := by
  cases x with | mk k n t nm ar => cases ar <;> rfl
theorem mkS_names (l : List ByteArray) : (mkS l).getD [] = l := by unfold mkS; split <;> simp [*]
theorem mkI_get (l : List Int) : (mkI l).getD [] = l := by unfold mkI; split <;> simp [*]
theorem ownN_shR (d : Int) (x : Nd) : ownN (shR d x) = sh d (ownN x) := by
  show Nd.mk _ _ _ (some x.names) (some ((mkI (x.args.map (· + d))).getD [])) = _
  rw [mkI_get]; rfl
theorem hR_hh : ∀ o : Option (List ByteArray), (hR o).getD [] = o.getD [] := fun _ => rfl
theorem ownN_own (x : Nd) : ownN (ownN x) = ownN x := rfl
theorem catP_own (g) (hg : ∀ d x, ownN (g d x) = sh d (ownN x)) : ∀ (l m : List (List Nd)) (p : Nat), l.map (List.map ownN) = m.map (List.map ownN) → (catP g p l).map ownN = (catP sh p m).map ownN ∧ rts p l = rts p m
  | [], [], _, _ => ⟨rfl, rfl⟩
  | [], _ :: _, _, h => by simp at h
  | _ :: _, [], _, h => by simp at h
  | t :: l, u :: m, p, h => by
    simp only [List.map_cons, List.cons.injEq] at h
    have hlen : t.length = u.length := by have := congrArg List.length h.1; simpa using this
    obtain ⟨i1, i2⟩ := catP_own g hg l m (p + u.length) h.2
    simp only [catP, rts, hlen, i2, List.map_append, i1]
    refine ⟨?_, trivial⟩
    congr 1
    have a : (t.map (g p)).map ownN = (t.map ownN).map (sh p) := by rw [List.map_map, List.map_map]; exact List.map_congr_left fun x _ => hg p x
    have b : (u.map (sh p)).map ownN = (u.map ownN).map (sh p) := by rw [List.map_map, List.map_map]; exact List.map_congr_left fun x _ => ownN_sh p x
    rw [a, b, h.1]
theorem rootV_own (h : Option (List ByteArray) → Option (List ByteArray)) (hh : ∀ o, (h o).getD [] = o.getD []) (k n : Int) (s : ByteArray) (nm) (ar) : ownN ⟨(rootV h k n s nm).k, (rootV h k n s nm).n, (rootV h k n s nm).tx, (rootV h k n s nm).nm, ar⟩ = ownN ⟨(rootV id k n s nm).k, (rootV id k n s nm).n, (rootV id k n s nm).tx, (rootV id k n s nm).nm, ar⟩ := by
  unfold rootV
  repeat' split
  all_goals simp only [ownN, Nd.names, Nd.args, hh, id]
theorem tm_own (g h) (hg : ∀ d x, ownN (g d x) = sh d (ownN x)) (hh : ∀ o, (h o).getD [] = o.getD []) : ∀ (n : Nat) (v : V), v.sz < n → (tm g h v).map ownN = (tm sh id v).map ownN
  | 0, v, hn => by omega
  | n + 1, v, hn => by
    have hi : ∀ x ∈ v.items, (tm g h x).map ownN = (tm sh id x).map ownN := fun x hx => tm_own g h hg hh n x (by have := V.sz_item hx; omega)
    rw [zI8 g h, zI8 sh id]
    have hl : (if leafK v.k = true then [] else v.items.map (tm g h)).map (List.map ownN) = (if leafK v.k = true then [] else v.items.map (tm sh id)).map (List.map ownN) := by
      split
      · rfl
      · rw [List.map_map, List.map_map]; exact List.map_congr_left fun x hx => hi x hx
    obtain ⟨c1, c2⟩ := catP_own g hg _ _ 0 hl
    simp only [joinT, List.map_append, c1, c2, List.map_cons, List.map_nil]
    rw [rootV_own h hh]
theorem sameN_own {a b : Nd} (h : ownN a = ownN b) : SameN a b := by
  simp only [ownN, Nd.mk.injEq, Option.some.injEq] at h
  exact h
theorem tm_same (v : V) : SameTm (tm sh id v) (tm shR hR v) := by
  have h := tm_own shR hR ownN_shR hR_hh _ v (Nat.lt_succ_self _)
  have hlen : (tm sh id v).length = (tm shR hR v).length := by have := congrArg List.length h; simpa using this.symm
  refine ⟨hlen, fun j hj => sameN_own ?_⟩
  have e := congrArg (fun l => l.getD j default) h
  simp only [List.getD_eq_getElem?_getD, List.getElem?_map] at e ⊢
  rw [List.getElem?_eq_getElem hj, List.getElem?_eq_getElem (by omega)] at e ⊢
  simpa using e.symm
theorem sh_sh (a b : Int) (x : Nd) : sh a (sh b x) = sh (b + a) x := by
  cases x with | mk k n t nm ar =>
    cases ar with
    | none => rfl
    | some l =>
      simp only [sh, Option.map_some, List.map_map, Nd.mk.injEq, Option.some.injEq, true_and]
      refine List.map_congr_left fun y _ => ?_
      show y + b + a = y + (b + a)
      omega
theorem catP_sh : ∀ (l : List (List Nd)) (p m : Nat), (catP sh p l).map (sh m) = catP sh (m + p) l
  | [], _, _ => rfl
  | t :: l, p, m => by
    simp only [catP, List.map_append, List.map_map]
    rw [catP_sh l (p + t.length) m, Nat.add_assoc]
    congr 1
    refine List.map_congr_left fun x _ => ?_
    show sh m (sh p x) = _
    rw [sh_sh, show ((p : Int) + (m : Int)) = ((m + p : Nat) : Int) by omega]
theorem rts_sh : ∀ (l : List (List Nd)) (p m : Nat), (rts p l).map (· + (m : Int)) = rts (m + p) l
  | [], _, _ => rfl
  | t :: l, p, m => by
    simp only [rts, List.map_cons, rts_sh l (p + t.length) m, Nat.add_assoc]
    congr 1
    omega
theorem mkI_map (l : List Int) (f : Int → Int) : (mkI l).map (List.map f) = mkI (l.map f) := by
  unfold mkI
  by_cases h : l = []
  · subst h; rfl
  · rw [if_neg h, if_neg (by simpa using h)]; rfl
theorem joinT_sh (root : Nd) (l : List (List Nd)) (m : Nat) : (joinT sh root l).map (sh m) = catP sh m l ++ [⟨root.k, root.n, root.tx, root.nm, mkI (rts m l)⟩] := by
  simp only [joinT, List.map_append, catP_sh, List.map_cons, List.map_nil]
  congr 2
  simp only [sh, Nd.mk.injEq, true_and]
  rw [mkI_map, rts_sh]; rfl
def Seg (t : List Nd) (m : Nat) (u : List Nd) : Prop := ∀ j, j < u.length → m + j < t.length ∧ t.getD (m + j) default = u.getD j default
theorem Seg.app {t u w : List Nd} {m : Nat} (h : Seg t m (u ++ w)) : Seg t m u ∧ Seg t (m + u.length) w := by
  refine ⟨fun j hj => ?_, fun j hj => ?_⟩
  · obtain ⟨h1, h2⟩ := h j (by rw [List.length_append]; omega)
    refine ⟨h1, h2.trans ?_⟩
    simp only [List.getD_eq_getElem?_getD, List.getElem?_append_left hj]
  · obtain ⟨h1, h2⟩ := h (u.length + j) (by rw [List.length_append]; omega)
    rw [← Nat.add_assoc] at h1 h2
    refine ⟨h1, h2.trans ?_⟩
    simp only [List.getD_eq_getElem?_getD, List.getElem?_append_right (Nat.le_add_right _ _), Nat.add_sub_cancel_left]
theorem Seg.self (t : List Nd) : Seg t 0 t := fun j hj => by rw [Nat.zero_add]; exact ⟨hj, rfl⟩
#print axioms tm_same
end Go.Proofs.Sx

namespace Go.Proofs.Sx
open Go Go.Proofs Go.Proofs.Am 
variable {gs : List Nat}

def TbRT : BT := (.node 1000000 ⟨none, .other, [], none⟩ .nil (.node 2000064 ⟨none, .other, [], none⟩ .nil .nil))
def TbR : Nat → Option TRow := orT TbRT.get Tb
theorem TbROk : TabOk Tryz.prog TbR := tabOk_or (zI2 (by kernel_rfl)) TbOk
def lv70 : Nat → List Nat × List Nat
  | 4 => ([0, 1, 12, 13], [])
  | _ => ([], [])
theorem pc70 (a b : Option (List Int)) (ha : okIs a) (hb : okIs b) : PureCall Tryz.prog [0] 64 [encIs a, encIs b] (dRet (.bool (decide (a.getD [] = b.getD [])))) := by
  generalize hr : decide (a.getD [] = b.getD []) = r
  refine zD0 mixed fn70 (Nat.le_of_ble_eq_true rfl) (Nat.lt_of_succ_le (Nat.le_of_ble_eq_true rfl)) (sfOk .nil) TbROk (lv := lv70) fun I F hI hF => ?_
  refine zE2 fun C hC => ?_
  generalize Q0 : encIs a = Z0
  generalize Q1 : encIs b = Z1
  generalize Q2 : DV.bool r = Z2
  cbv
  subst Q0 Q1 Q2
  subst hC
  refine ⟨?_⟩
  simp (maxSteps:=9999999) only [hI, hF, std]
  have la : (a.getD []).length ≤ 1048576 := ha
  have lb : (b.getD []).length ≤ 1048576 := hb
  simp only [smp, smo, lookOk, lookRes, sfOf, ↓reduceIte, Nat.reduceEqDiff, reduceCtorEq, qA, qB]
  simp
  refine ⟨fun h => ?_, fun h => ?_⟩
  · rw [← hr]; exact decide_eq_false fun he => h (by rw [he])
  have h : (a.getD []).length = (b.getD []).length := Int.ofNat.inj h
  refine zE1 (kend := fun I => kEndF I TbR [.tmp 4]) hI hF (sfOk .nil) TbROk (by exact fun Bk e s h => endF TbROk Bk e s h) (lv := lv70) 0 (fun i : {i : Nat // i ≤ (a.getD []).length ∧ ∀ j, j < i → (a.getD []).getD j 0 = (b.getD []).getD j 0} => [.d (encIs a), .d (encIs b), .d (.int .i64 ((a.getD []).length : Int)), .d (.int .i64 (i.1 : Int))]) (fun i : {i : Nat // i ≤ (a.getD []).length ∧ ∀ j, j < i → (a.getD []).getD j 0 = (b.getD []).getD j 0} => []) (fun i : {i : Nat // i ≤ (a.getD []).length ∧ ∀ j, j < i → (a.getD []).getD j 0 = (b.getD []).getD j 0} => (a.getD []).length - i.1) [] (⟨0, by omega, fun j h => by omega⟩ : {i : Nat // i ≤ (a.getD []).length ∧ ∀ j, j < i → (a.getD []).getD j 0 = (b.getD []).getD j 0}) (by rfl) (by rfl) ?_ ?_ fun i => ?_
  · simp
  · rfl
  obtain ⟨i, hi1, hi2⟩ := i
  refine zE2 fun C hC => ?_
  generalize Q0 : encIs a = Z0
  generalize Q1 : encIs b = Z1
  generalize Q2 : DV.int .i64 ((a.getD []).length : Int) = Z2
  generalize Q3 : DV.int .i64 (i : Int) = Z3
  generalize Q4 : DV.bool r = Z4
  cbv
  subst Q0 Q1 Q2 Q3 Q4
  subst hC
  refine ⟨?_⟩
  simp (maxSteps:=9999999) only [hI, hF, std]
  have w3 := zE6 (n := i) (by omega)
  by_cases hlt : i < (a.getD []).length
  · have hlt2 : i < (b.getD []).length := by omega
    have g1 := zI0 _ _ hlt
    have g2 := zI0 _ _ hlt2
    simp only [smp, smo, lookOk, lookRes, sfOf, ↓reduceIte, Nat.reduceEqDiff, reduceCtorEq, qA, qB, g1, g2]
    simp [hlt, hlt2, w3, - List.getD_eq_getElem?_getD]
    refine ⟨fun hne => ?_, fun he => ⟨i + 1, by omega, ⟨by omega, fun j hj => ?_⟩, by simp⟩⟩
    · rw [← hr]; exact decide_eq_false fun he => hne (by rw [he])
    · by_cases hji : j = i
      · subst hji; exact he
      · exact hi2 j (by omega)
  · simp only [smp, smo, lookOk, lookRes, sfOf, ↓reduceIte, Nat.reduceEqDiff, reduceCtorEq, qA, qB]
    simp [hlt, - List.getD_eq_getElem?_getD]
    rw [← hr]
    have hh : a.getD [] = b.getD [] := by
      apply List.ext_getElem (by omega)
      intro j h1 h2
      have := hi2 j (by omega)
      simpa [List.getD, h1, h2] using this
    first | exact decide_eq_true hh | exact (decide_eq_true hh).symm
open Classical in
noncomputable def e70 : Ent := ⟨64, fun | [d_a, d_b] => decide (isIs d_a ∧ isIs d_b) | _ => false, fun | [d_a, d_b] => .bool (decide ((toIs d_a).getD [] = (toIs d_b).getD [])) | _ => .inil⟩
open Classical in
theorem ok70 : EntOk Tryz.prog [0] e70 := fun ds h => by
  unfold e70 at h ⊢
  simp only at h ⊢
  split at h
  · rw [decide_eq_true_iff] at h
    obtain ⟨⟨v0, rfl, k0⟩, ⟨v1, rfl, k1⟩⟩ := h
    simp only [zB2, zA4, zA5, zC2, zC8, zC9]
    exact pc70 _ _ k0 k1
  · cases h
def stepR (roots args : List Int) (i : Int) : Option (List Int) :=
  if args.length ≤ roots.length ∧ args = roots.drop (roots.length - args.length) then some (roots.take (roots.length - args.length) ++ [i]) else none
def rootsF : List Nd → Nat → List Int → Option (List Int)
  | [], _, r => some r
  | x :: l, i, r => match stepR r x.args i with
    | some r' => rootsF l (i + 1) r'
    | none => none
def isTermS (l : List Nd) : Bool := decide (1 ≤ l.length ∧ l.length ≤ 200) && (match rootsF l 0 [] with | some r => decide (r.length = 1) | none => false)
theorem rootsF_step {l : List Nd} {i : Nat} (r : List Int) (h : i < l.length) : rootsF (l.drop i) i r = match stepR r (l.getD i default).args i with | some r' => rootsF (l.drop (i + 1)) (i + 1) r' | none => none := by
  rw [List.drop_eq_getElem_cons h, rootsF]
  simp [List.getD, h]
def lv50 : Nat → List Nat × List Nat
  | 5 => ([3, 14, 15, 16], [10003])
  | _ => ([], [])
def accL (l : List Int) : List AV := (l.map (DV.int .i64)).map .d
def okRoots (l : List Nd) (r : Bool) (i : Nat) (rs : List Int) : Prop := rs.length ≤ i ∧ r = (match rootsF (l.drop i) i rs with | some q => decide (q.length = 1) | none => false)
theorem dec_true {p : Prop} {inst : Decidable p} (h : p) : @decide p inst = true := by
  cases inst with
  | isTrue _ => rfl
  | isFalse h' => exact absurd h h'
set_option maxHeartbeats 2000000 in
theorem pc50 (o : Option (List Nd)) (ho : okT o) : PureCall Tryz.prog [0] 47 [encT o] (dRet (.bool (isTermS (o.getD [])))) := by
  have hl := ho.1
  generalize hr : isTermS (o.getD []) = r
  refine zD0 mixed fn50 (Nat.le_of_ble_eq_true rfl) (Nat.lt_of_succ_le (Nat.le_of_ble_eq_true rfl)) (sfOk (.cons ok70 .nil)) TbROk (lv := lv50) fun I F hI hF => ?_
  refine zE2 fun C hC => ?_
  generalize Q0 : encT o = Z0
  generalize Q1 : DV.bool r = Z1
  cbv
  subst Q0 Q1
  subst hC
  refine ⟨?_⟩
  simp (maxSteps:=9999999) only [hI, hF, std]
  unfold isTermS at hr
  simp only [smp, smo, lookOk, lookRes, sfOf, ↓reduceIte, Nat.reduceEqDiff, reduceCtorEq, qA, qB]
  simp
  refine ⟨fun h => ?_, fun h1 h2 => ?_⟩
  · rw [← hr, decide_eq_false (by omega)]; rfl
  rw [decide_eq_true (by omega), Bool.true_and] at hr
  refine zE1 (kend := fun I => kEndF I TbR [.tmp 2]) hI hF (sfOk (.cons ok70 .nil)) TbROk (by exact fun Bk e s h => endF TbROk Bk e s h) (lv := lv50) 0 (fun i : {i : Bool × Nat × List Int // i.2.1 ≤ (o.getD []).length ∧ (i.1 = false → i.2.2 = []) ∧ okRoots (o.getD []) r i.2.1 i.2.2} => [accA 1 i.1.1 i.1.2.2.length, .d (encT o), .d (.int .i64 ((o.getD []).length : Int)), .d (.int .i64 (i.1.2.1 : Int))]) (fun i : {i : Bool × Nat × List Int // i.2.1 ≤ (o.getD []).length ∧ (i.1 = false → i.2.2 = []) ∧ okRoots (o.getD []) r i.2.1 i.2.2} => [(0, accB 1 3 (accL i.1.2.2) i.1.1)]) (fun i : {i : Bool × Nat × List Int // i.2.1 ≤ (o.getD []).length ∧ (i.1 = false → i.2.2 = []) ∧ okRoots (o.getD []) r i.2.1 i.2.2} => (o.getD []).length - i.1.2.1) [10003] (⟨(false, 0, []), by simp, by simp, by simp, by simpa using hr.symm⟩ : {i : Bool × Nat × List Int // i.2.1 ≤ (o.getD []).length ∧ (i.1 = false → i.2.2 = []) ∧ okRoots (o.getD []) r i.2.1 i.2.2}) (by rfl) (by rfl) ?_ ?_ fun i => ?_
  · simp; rfl
  · rfl
  obtain ⟨⟨b, i, rs⟩, hi1, hi2, hi3⟩ := i
  have hi1 : i ≤ (o.getD []).length := hi1
  have hi2 : b = false → rs = [] := hi2
  have hi3 : okRoots (o.getD []) r i rs := hi3
  have w3 := zE6 (n := i) (by omega)
  cases b with
  | false =>
    cases hi2 rfl
    rw [show accA 1 false ([] : List Int).length = .d .snil from rfl, show accB 1 3 (accL []) false = none from rfl]
    refine zE2 fun C hC => ?_
    generalize Q0 : encT o = Z0
    generalize Q1 : DV.int .i64 ((o.getD []).length : Int) = Z1
    generalize Q2 : DV.int .i64 (i : Int) = Z2
    generalize Q3 : DV.bool r = Z3
    cbv
    subst Q0 Q1 Q2 Q3
    subst hC
    refine ⟨?_⟩
    simp (maxSteps:=9999999) only [hI, hF, std]
    by_cases hlt : i < (o.getD []).length
    · have g1 := zI4 _ _ hlt
      have k1 := okT_get ho hlt
      have e : ((o.getD []).getD i default).ar.getD [] = ((o.getD []).getD i default).args := rfl
      have hi3 : okRoots (o.getD []) r i [] := hi3
      have hst := rootsF_step (i := i) [] hlt
      by_cases ha : ((o.getD []).getD i default).args = []
      · have wz : IntKind.i64.wrap (0 - 0) = 0 := rfl
        have ar0 : okIs none := by show 0 ≤ _; omega
        simp only [smp, smo, lookOk, lookRes, sfOf, ↓reduceIte, Nat.reduceEqDiff, reduceCtorEq, qA, qB, e70, g1, zF5, scalarD_bool, e, ha, List.map_nil, List.length_nil]
        have wz0 : IntKind.i64.wrap 0 = 0 := rfl
        have s1 : slD .snil (some (.int .i64 0)) none = .snil := rfl
        have s2 : slD .snil none (some (.int .i64 0)) = .snil := rfl
        have t0 : toIs .snil = none := zC2 none
        have t1 : isIs .snil = okIs none := zC4 none
        simp [hlt, w3, - List.getD_eq_getElem?_getD, qB, wz0, s1, s2, t0, t1, ar0, k1.2.2, intO, isIntD, loN, hiN, Am.asInt, isSnil]
        refine .inr ⟨i + 1, by omega, [(i : Int)], ⟨rfl, by simp⟩, ⟨by omega, by simp, ?_⟩, rfl⟩
        have := hi3.2
        rw [hst] at this
        rw [this, ha]
        simp [stepR]
      · have hp : 0 < ((o.getD []).getD i default).args.length := List.length_pos_iff.2 ha
        simp only [smp, smo, lookOk, lookRes, sfOf, ↓reduceIte, Nat.reduceEqDiff, reduceCtorEq, qA, qB, e70, g1, zF5, scalarD_bool, e, List.length_map]
        simp [hlt, w3, - List.getD_eq_getElem?_getD, qB, ha]
        intro _
        have := hi3.2
        rw [hst] at this
        have hs : stepR [] ((o.getD []).getD i default).args i = none := by
          unfold stepR; rw [if_neg (fun h => ha (by have := h.1; simpa using this))]
        rw [hs] at this
        exact this
    · simp only [smp, smo, lookOk, lookRes, sfOf, ↓reduceIte, Nat.reduceEqDiff, reduceCtorEq, qA, qB, e70, zF5]
      simp [hlt]
      have hi3 : okRoots (o.getD []) r i [] := hi3
      have hd : (o.getD []).drop i = [] := List.drop_eq_nil_of_le (by omega)
      have := hi3.2
      rw [hd, rootsF] at this
      simpa using this
  | true =>
    obtain ⟨n, hn⟩ : ∃ n, n = rs.length := ⟨_, rfl⟩
    rw [show accA 1 true rs.length = .slc 0 1 0 n from by rw [hn]; rfl, show accB 1 3 (accL rs) true = some ⟨accL rs, 1, 3, true, true⟩ from rfl]
    have hlen : (accL rs).length = rs.length := by simp [accL]
    refine zE2 fun C hC => ?_
    generalize Q0 : encT o = Z0
    generalize Q1 : DV.int .i64 ((o.getD []).length : Int) = Z1
    generalize Q2 : DV.int .i64 (i : Int) = Z2
    generalize Q3 : DV.bool r = Z3
    generalize Q4 : accL rs = Z4
    cbv
    subst Q0 Q1 Q2 Q3 Q4
    subst hC
    refine ⟨?_⟩
    simp (maxSteps:=9999999) only [hI, hF, std]
    by_cases hlt : i < (o.getD []).length
    · have g1 := zI4 _ _ hlt
      have k1 := okT_get ho hlt
      have e : ((o.getD []).getD i default).ar.getD [] = ((o.getD []).getD i default).args := rfl
      have hi3 : okRoots (o.getD []) r i rs := hi3
      have hst := rootsF_step (i := i) rs hlt
      have hr3 := hi3.2
      rw [hst] at hr3
      by_cases ha : ((o.getD []).getD i default).args.length ≤ n
      · obtain ⟨m, hm⟩ : ∃ m, m = n - ((o.getD []).getD i default).args.length := ⟨_, rfl⟩
        have hnl : n ≤ i := by have := hi3.1; omega
        have wm : IntKind.i64.wrap ((n : Int) - (((o.getD []).getD i default).args.length : Int)) = (m : Int) := by
          rw [show ((n : Int) - (((o.getD []).getD i default).args.length : Int)) = (m : Int) from by omega]
          exact wrap_of rfl (by omega)
        simp only [smp, smo, lookOk, lookRes, sfOf, ↓reduceIte, Nat.reduceEqDiff, reduceCtorEq, qA, qB, e70, g1, zF5, scalarD_bool, e, accL, List.length_map]
        simp [hlt, w3, - List.getD_eq_getElem?_getD, qB, ha, wm, k1.2.2, intO, isIntD, loN, hiN, Am.asInt]
        have hdl : (rs.drop m).length = ((o.getD []).getD i default).args.length := by rw [List.length_drop]; omega
        have hst2 : stepR rs ((o.getD []).getD i default).args i = if ((o.getD []).getD i default).args = rs.drop m then some (rs.take m ++ [(i : Int)]) else none := by
          unfold stepR
          rw [← hn, ← hm]
          by_cases he : ((o.getD []).getD i default).args = rs.drop m
          · rw [if_pos ⟨ha, he⟩, if_pos he]
          · rw [if_neg (fun h => he h.2), if_neg he]
        rw [hst2] at hr3
        have hkey : List.take (n - m) (List.drop m (List.map (DV.int IntKind.i64) rs)) = (rs.drop m).map (DV.int IntKind.i64) := by
          rw [← List.map_drop, ← List.map_take, List.take_of_length_le (by rw [List.length_drop]; omega)]
        have hno : ((o.getD []).getD i default).args ≠ rs.drop m → r = false := fun h => by rw [hr3, if_neg h]
        have htail : ((o.getD []).getD i default).args = rs.drop m → okRoots (o.getD []) r (i + 1) (rs.take m ++ [(i : Int)]) := fun h => by
          rw [if_pos h] at hr3
          refine ⟨?_, hr3⟩
          rw [List.length_append, List.length_take, List.length_singleton]; omega
        have htl : (rs.take m ++ [(i : Int)]).length = m + 1 := by rw [List.length_append, List.length_take, List.length_singleton]; omega
        have hbel : ∀ (x : AV), x ∈ List.take m (List.map (AV.d ∘ DV.int IntKind.i64) rs) → bel 0 8 x = true := fun x hx => by
          obtain ⟨y, _, rfl⟩ := List.mem_map.1 (List.mem_of_mem_take hx)
          rfl
        have hL : (rs.map (AV.d ∘ DV.int IntKind.i64)).length = n := by rw [List.length_map, hn]
        have hsim : ∀ l : List Int, l.length ≤ 1048576 → isIs (.sim (l.map (.int .i64))) := fun l h => ⟨some l, rfl, h⟩
        have hto : ∀ l : List Int, toIs (.sim (l.map (.int .i64))) = some l := fun l => zC2 (some l)
        have ht0 : toIs (.sim []) = some [] := hto []
        refine ⟨fun h => absurd h (by omega), by omega, fun hm0 hnm => ⟨⟨some [], rfl, by show 0 ≤ _; omega⟩, fun h => hno (fun h' => h ?_), fun h => ⟨by omega, ⟨?_, by omega⟩, ⟨hbel, rfl⟩, .inr ⟨i + 1, by omega, rs.take m ++ [(i : Int)], ⟨?_, by simp⟩, ⟨by omega, htail ?_⟩, ?_⟩⟩⟩, fun hmn => ⟨⟨by omega, by unfold big; omega⟩, ?_, fun h => hno (fun h' => h ?_), fun h => ⟨by omega, ⟨?_, by omega⟩, ⟨hbel, rfl⟩, .inr ⟨i + 1, by omega, rs.take m ++ [(i : Int)], ⟨?_, by simp⟩, ⟨by omega, htail ?_⟩, ?_⟩⟩⟩⟩
        · rw [ht0, h']; simp; omega
        · revert hL; generalize rs.map _ = L; intro hL; cases L <;> simp at hL ⊢ <;> omega
        · show AV.slc 0 1 0 (m + 1) = AV.slc 0 1 0 _; rw [htl]
        · rw [ht0] at h; rw [h]; simp; omega
        · show some (LB.mk _ 1 3 true true) = some (LB.mk _ 1 3 true true)
          simp
        · refine dec_true ?_
          refine ⟨(zC4 _).symm ▸ k1.2.2, ?_⟩
          rw [show (IntKind.i64.wrap ((n : Int) - (((o.getD []).getD i default).args.length : Int))) = (m : Int) from wm, Int.toNat_natCast, hkey]
          exact hsim _ (by rw [hdl]; exact k1.2.2)
        · rw [hkey, hto, h']; rfl
        · revert hL; generalize rs.map _ = L; intro hL; cases L <;> simp at hL ⊢ <;> omega
        · show AV.slc 0 1 0 (m + 1) = AV.slc 0 1 0 _; rw [htl]
        · rw [hkey, hto] at h; exact h
        · show some (LB.mk _ 1 3 true true) = some (LB.mk _ 1 3 true true)
          simp
      · simp only [smp, smo, lookOk, lookRes, sfOf, ↓reduceIte, Nat.reduceEqDiff, reduceCtorEq, qA, qB, e70, g1, zF5, scalarD_bool, e, accL, List.length_map]
        simp [hlt, w3, - List.getD_eq_getElem?_getD, qB, ha]
        intro _
        have := hst
        rw [show stepR rs ((o.getD []).getD i default).args i = none from by unfold stepR; rw [if_neg (fun h => ha (hn ▸ h.1))]] at hr3
        exact hr3
    · simp only [smp, smo, lookOk, lookRes, sfOf, ↓reduceIte, Nat.reduceEqDiff, reduceCtorEq, qA, qB, e70, zF5]
      simp [hlt]
      have hi3 : okRoots (o.getD []) r i rs := hi3
      have hd : (o.getD []).drop i = [] := List.drop_eq_nil_of_le (by omega)
      have := hi3.2
      rw [hd, rootsF] at this
      rw [this, hn]
      exact decide_eq_decide.2 (by omega)
open Classical in
noncomputable def e50 : Ent := ⟨47, fun | [d_o] => decide (isT d_o) | _ => false, fun | [d_o] => .bool (isTermS ((toT d_o).getD [])) | _ => .inil⟩
open Classical in
theorem ok50 : EntOk Tryz.prog [0] e50 := fun ds h => by
  unfold e50 at h ⊢
  simp only at h ⊢
  split at h
  · rw [decide_eq_true_iff] at h
    obtain ⟨v0, rfl, k0⟩ := h
    simp only [zB2, zA4, zA5, zC2, zC8, zC9]
    exact pc50 _ k0
  · cases h
end Go.Proofs.Sx

namespace Go.Proofs.Sx
open Go Go.Proofs Go.Proofs.Am 
variable {gs : List Nat}

def joinW : List (List UInt8) → List UInt8
  | [] => [32]
  | w :: ws => 32 :: (w ++ joinW ws)
theorem joinW_head (ws : List (List UInt8)) : ∃ r, joinW ws = 32 :: r := by cases ws <;> exact ⟨_, rfl⟩
theorem contains_cons (b : UInt8) (l sub : List UInt8) : Lib.contains (b :: l) sub = true ↔ (sub.isPrefixOf (b :: l) = true ∨ Lib.contains l sub = true) := by
  simp only [Lib.contains, decide_eq_true_eq]
  exact idx_cons b l sub
theorem skip_word {w l x : List UInt8} (hw : (32 : UInt8) ∉ w) : Lib.contains (w ++ l) (32 :: x) = true ↔ Lib.contains l (32 :: x) = true := by
  induction w with
  | nil => rfl
  | cons b w ih =>
    rw [List.cons_append, contains_cons]
    have hb : b ≠ 32 := fun h => hw (by simp [h])
    have hp : ¬ ((32 : UInt8) :: x).isPrefixOf (b :: (w ++ l)) = true := by simp [List.isPrefixOf, Ne.symm hb]
    have := ih (fun h => hw (by simp [h]))
    constructor
    · rintro (h | h)
      · exact absurd h hp
      · exact this.1 h
    · intro h; exact .inr (this.2 h)
theorem prefix_word : ∀ {w x l r : List UInt8}, (32 : UInt8) ∉ w → (32 : UInt8) ∉ x → l = 32 :: r → ((x ++ [32]).isPrefixOf (w ++ l) = true ↔ x = w)
  | [], [], l, r, hw, hx, hl => by subst hl; simp [List.isPrefixOf]
  | [], a :: x, l, r, hw, hx, hl => by
    subst hl
    have : a ≠ 32 := fun h => hx (by simp [h])
    simp [List.isPrefixOf, this]
  | b :: w, [], l, r, hw, hx, hl => by
    have : b ≠ 32 := fun h => hw (by simp [h])
    simp [List.isPrefixOf, Ne.symm this]
  | b :: w, a :: x, l, r, hw, hx, hl => by
    have ih := prefix_word (w := w) (x := x) (l := l) (r := r) (fun h => hw (by simp [h])) (fun h => hx (by simp [h])) hl
    simp only [List.cons_append, List.isPrefixOf, Bool.and_eq_true, beq_iff_eq, List.cons.injEq]
    rw [ih]
theorem contains_words : ∀ {ws : List (List UInt8)} {x : List UInt8}, (∀ w ∈ ws, (32 : UInt8) ∉ w) → (32 : UInt8) ∉ x → x ≠ [] → (Lib.contains (joinW ws) (32 :: (x ++ [32])) = true ↔ x ∈ ws)
  | [], x, h, hx, h0 => by
    cases x with
    | nil => exact absurd rfl h0
    | cons a x =>
      simp only [joinW]
      rw [contains_cons]
      simp [Lib.contains, Lib.index, List.isPrefixOf]
  | w :: ws, x, h, hx, h0 => by
    have ih := contains_words (ws := ws) (x := x) (fun v hv => h v (by simp [hv])) hx h0
    have hw := h w (by simp)
    obtain ⟨r, hr⟩ := joinW_head ws
    have hp := prefix_word hw hx hr
    simp only [joinW]
    rw [contains_cons, skip_word hw, ih]
    have : ((32 : UInt8) :: (x ++ [32])).isPrefixOf (32 :: (w ++ joinW ws)) = (x ++ [32]).isPrefixOf (w ++ joinW ws) := by simp [List.isPrefixOf]
    rw [this, hp]
    simp
end Go.Proofs.Sx

namespace Go.Proofs.Sx
open Go Go.Proofs Go.Proofs.Am 
variable {gs : List Nat}

def TbNT : BT := (.node 1000000 ⟨none, .other, [], none⟩ .nil .nil)
def TbN : Nat → Option TRow := orT TbNT.get Tb
theorem TbNOk : TabOk Tryz.prog TbN := tabOk_or (zI2 (by kernel_rfl)) TbOk
def wIsp : ByteArray := ⟨#[105, 115, 112, 114, 101, 115, 101, 110, 116]⟩
def wIsc : ByteArray := ⟨#[105, 115, 99, 104, 111, 115, 101, 110]⟩
def opsU : List ByteArray := [⟨#[110, 111, 116]⟩, ⟨#[110, 111, 116, 52, 98]⟩, ⟨#[108, 101, 110, 103, 116, 104, 111, 102]⟩, ⟨#[115, 105, 122, 101, 111, 102]⟩, ⟨#[105, 115, 112, 114, 101, 115, 101, 110, 116]⟩, ⟨#[105, 115, 99, 104, 111, 115, 101, 110]⟩, ⟨#[105, 110, 116, 50, 99, 104, 97, 114]⟩, ⟨#[99, 104, 97, 114, 50, 105, 110, 116]⟩, ⟨#[105, 110, 116, 50, 115, 116, 114]⟩, ⟨#[115, 116, 114, 50, 105, 110, 116]⟩, ⟨#[98, 105, 116, 50, 105, 110, 116]⟩, ⟨#[111, 99, 116, 50, 105, 110, 116]⟩, ⟨#[98, 105, 116, 50, 111, 99, 116]⟩, ⟨#[111, 99, 116, 50, 98, 105, 116]⟩, ⟨#[111, 99, 116, 50, 99, 104, 97, 114]⟩, ⟨#[99, 104, 97, 114, 50, 111, 99, 116]⟩]
def opsB : List ByteArray := [⟨#[43]⟩, ⟨#[42]⟩, ⟨#[47]⟩, ⟨#[114, 101, 109]⟩, ⟨#[109, 111, 100]⟩, ⟨#[60]⟩, ⟨#[62]⟩, ⟨#[60, 61]⟩, ⟨#[62, 61]⟩, ⟨#[61, 61]⟩, ⟨#[33, 61]⟩, ⟨#[97, 110, 100]⟩, ⟨#[111, 114]⟩, ⟨#[120, 111, 114]⟩, ⟨#[97, 110, 100, 52, 98]⟩, ⟨#[111, 114, 52, 98]⟩, ⟨#[120, 111, 114, 52, 98]⟩, ⟨#[38]⟩, ⟨#[60, 60]⟩, ⟨#[62, 62]⟩, ⟨#[60, 64]⟩, ⟨#[64, 62]⟩, ⟨#[105, 110, 116, 50, 98, 105, 116]⟩, ⟨#[105, 110, 116, 50, 111, 99, 116]⟩]
def opsP1 : List ByteArray := [⟨#[45]⟩, ⟨#[110, 111, 116]⟩, ⟨#[110, 111, 116, 52, 98]⟩, ⟨#[108, 101, 110, 103, 116, 104, 111, 102]⟩, ⟨#[115, 105, 122, 101, 111, 102]⟩, ⟨#[105, 115, 112, 114, 101, 115, 101, 110, 116]⟩, ⟨#[105, 115, 99, 104, 111, 115, 101, 110]⟩, ⟨#[105, 110, 116, 50, 99, 104, 97, 114]⟩, ⟨#[99, 104, 97, 114, 50, 105, 110, 116]⟩, ⟨#[105, 110, 116, 50, 115, 116, 114]⟩, ⟨#[115, 116, 114, 50, 105, 110, 116]⟩, ⟨#[98, 105, 116, 50, 105, 110, 116]⟩, ⟨#[111, 99, 116, 50, 105, 110, 116]⟩, ⟨#[98, 105, 116, 50, 111, 99, 116]⟩, ⟨#[111, 99, 116, 50, 98, 105, 116]⟩, ⟨#[111, 99, 116, 50, 99, 104, 97, 114]⟩, ⟨#[99, 104, 97, 114, 50, 111, 99, 116]⟩]
def opsP2 : List ByteArray := [⟨#[43]⟩, ⟨#[45]⟩, ⟨#[42]⟩, ⟨#[47]⟩, ⟨#[114, 101, 109]⟩, ⟨#[109, 111, 100]⟩, ⟨#[60]⟩, ⟨#[62]⟩, ⟨#[60, 61]⟩, ⟨#[62, 61]⟩, ⟨#[61, 61]⟩, ⟨#[33, 61]⟩, ⟨#[97, 110, 100]⟩, ⟨#[111, 114]⟩, ⟨#[120, 111, 114]⟩, ⟨#[97, 110, 100, 52, 98]⟩, ⟨#[111, 114, 52, 98]⟩, ⟨#[120, 111, 114, 52, 98]⟩, ⟨#[38]⟩, ⟨#[60, 60]⟩, ⟨#[62, 62]⟩, ⟨#[60, 64]⟩, ⟨#[64, 62]⟩, ⟨#[105, 110, 116, 50, 98, 105, 116]⟩, ⟨#[105, 110, 116, 50, 111, 99, 116]⟩]
def opsW3 : ByteArray := ⟨#[115, 117, 98, 115, 116, 114]⟩
def opsW4 : ByteArray := ⟨#[114, 101, 112, 108, 97, 99, 101]⟩
def opStr (k : Int) : ByteArray := if k = 1 then ⟨#[32, 45, 32, 110, 111, 116, 32, 110, 111, 116, 52, 98, 32, 108, 101, 110, 103, 116, 104, 111, 102, 32, 115, 105, 122, 101, 111, 102, 32, 105, 115, 112, 114, 101, 115, 101, 110, 116, 32, 105, 115, 99, 104, 111, 115, 101, 110, 32, 105, 110, 116, 50, 99, 104, 97, 114, 32, 99, 104, 97, 114, 50, 105, 110, 116, 32, 105, 110, 116, 50, 115, 116, 114, 32, 115, 116, 114, 50, 105, 110, 116, 32, 98, 105, 116, 50, 105, 110, 116, 32, 111, 99, 116, 50, 105, 110, 116, 32, 98, 105, 116, 50, 111, 99, 116, 32, 111, 99, 116, 50, 98, 105, 116, 32, 111, 99, 116, 50, 99, 104, 97, 114, 32, 99, 104, 97, 114, 50, 111, 99, 116, 32]⟩ else if k = 2 then ⟨#[32, 43, 32, 45, 32, 42, 32, 47, 32, 114, 101, 109, 32, 109, 111, 100, 32, 60, 32, 62, 32, 60, 61, 32, 62, 61, 32, 61, 61, 32, 33, 61, 32, 97, 110, 100, 32, 111, 114, 32, 120, 111, 114, 32, 97, 110, 100, 52, 98, 32, 111, 114, 52, 98, 32, 120, 111, 114, 52, 98, 32, 38, 32, 60, 60, 32, 62, 62, 32, 60, 64, 32, 64, 62, 32, 105, 110, 116, 50, 98, 105, 116, 32, 105, 110, 116, 50, 111, 99, 116, 32]⟩ else if k = 3 then ⟨#[32, 115, 117, 98, 115, 116, 114, 32]⟩ else if k = 4 then ⟨#[32, 114, 101, 112, 108, 97, 99, 101, 32]⟩ else ⟨#[]⟩
open Classical in
noncomputable def opsOf (s : ByteArray) : List Int := if s ∈ opsU then [1] else if s = ⟨#[45]⟩ then [1, 2] else if s ∈ opsB then [2] else if s = opsW3 then [3] else if s = opsW4 then [4] else []
theorem pc95 (k : Int) : PureCall Tryz.prog [0] 94 [.int .i64 k] (dRet (.str (opStr k))) := by
  refine zD0 mixed fn95 (Nat.le_of_ble_eq_true rfl) (Nat.lt_of_succ_le (Nat.le_of_ble_eq_true rfl)) (sfOk .nil) TbNOk (lv := lv0) fun I F hI hF => ?_
  refine zE2 fun C hC => ?_
  generalize Q0 : DV.int .i64 k = Z0
  cbv
  subst Q0
  subst hC
  refine ⟨?_⟩
  simp (maxSteps:=9999999) only [hI, hF, std]
  simp only [smp, smo, lookOk, lookRes, sfOf, ↓reduceIte, Nat.reduceEqDiff, reduceCtorEq, qA]
  unfold opStr
  by_cases h1 : k = 1
  · subst h1; simp
  by_cases h2 : k = 2
  · subst h2; simp
  by_cases h3 : k = 3
  · subst h3; simp
  by_cases h4 : k = 4
  · subst h4; simp
  simp [h1, h2, h3, h4]
noncomputable def e95 : Ent := ⟨94, fun | [.int .i64 _] => true | _ => false, fun | [.int .i64 k] => .str (opStr k) | _ => .inil⟩
open Classical in
theorem ok95 : EntOk Tryz.prog [0] e95 := fun ds h => by
  unfold e95 at h ⊢
  simp only at h ⊢
  split at h
  · exact pc95 _
  · cases h
def spc : ByteArray := ⟨#[32]⟩
def hasS (l w : ByteArray) : Bool := !decide (w = ⟨#[]⟩) && (!Lib.contains w.data.toList [32] && Lib.contains l.data.toList (32 :: (w.data.toList ++ [32])))
theorem binV_sadd (a b : ByteArray) (h : a.size + b.size ≤ 4294967296) : binV .add (.str a) (.str b) = some (.str (a ++ b)) := by simp [binV, strOp, big, h]
theorem pc94 (l w : ByteArray) (h : l.size ≤ 1048576 ∧ w.size ≤ 1048576) : PureCall Tryz.prog [0] 93 [.str l, .str w] (dRet (.bool (hasS l w))) := by
  refine zD0 mixed fn94 (Nat.le_of_ble_eq_true rfl) (Nat.lt_of_succ_le (Nat.le_of_ble_eq_true rfl)) (sfOk (.cons ok39 .nil)) TbNOk (lv := lv0) fun I F hI hF => ?_
  refine zE2 fun C hC => ?_
  generalize Q0 : DV.str l = Z0
  generalize Q1 : DV.str w = Z1
  cbv
  subst Q0 Q1
  subst hC
  refine ⟨?_⟩
  simp (maxSteps:=9999999) only [hI, hF, std]
  have h1 : w.size < 4294967281 := by omega
  have h2 : l.size < 4294967281 := by omega
  have a1 : (spc ++ w).size = 1 + w.size := ByteArray.size_append
  have a2 : (spc ++ w ++ spc).size = 1 + w.size + 1 := by rw [ByteArray.size_append, a1]; rfl
  have b1 : binV .add (.str ⟨⟨[32]⟩⟩) (.str w) = some (.str (spc ++ w)) := binV_sadd _ _ (by show 1 + w.size ≤ _; omega)
  have b2 : binV .add (.str (spc ++ w)) (.str ⟨⟨[32]⟩⟩) = some (.str (spc ++ w ++ spc)) := binV_sadd _ _ (by show (spc ++ w).size + 1 ≤ _; omega)
  have dl : (spc ++ w ++ spc).data.toList = 32 :: (w.data.toList ++ [32]) := by simp [spc, ByteArray.data_append]
  have h3 : (spc ++ w ++ spc).size < 4294967281 := by omega
  simp only [smp, smo, lookOk, lookRes, sfOf, ↓reduceIte, Nat.reduceEqDiff, reduceCtorEq, qA, e39, b1, b2, dl, h1, h2, h3]
  simp [hasS]
  rw [Bool.and_assoc]
open Classical in
noncomputable def e94 : Ent := ⟨93, fun | [.str l, .str w] => decide (l.size ≤ 1048576 ∧ w.size ≤ 1048576) | _ => false, fun | [.str l, .str w] => .bool (hasS l w) | _ => .inil⟩
open Classical in
theorem ok94 : EntOk Tryz.prog [0] e94 := fun ds h => by
  unfold e94 at h ⊢
  simp only at h ⊢
  split at h
  · exact pc94 _ _ (of_decide_eq_true h)
  · cases h
theorem contains_mem (b : UInt8) : ∀ (l : List UInt8), Lib.contains l [b] = true ↔ b ∈ l
  | [] => by simp [Lib.contains, Lib.index, List.isPrefixOf]
  | a :: l => by
    rw [contains_cons, contains_mem b l]
    simp [List.isPrefixOf]
theorem ba_eq {a b : ByteArray} (h : a.data.toList = b.data.toList) : a = b := by
  obtain ⟨⟨a⟩⟩ := a; obtain ⟨⟨b⟩⟩ := b
  simp only at h; rw [h]
theorem hasS_words {l w : ByteArray} {ws : List ByteArray} (hl : l.data.toList = joinW (ws.map fun x => x.data.toList)) (hs : ws.all (fun x => !x.data.toList.contains 32 && !x.data.toList.isEmpty) = true) : hasS l w = true ↔ w ∈ ws := by
  have hs' : ∀ x ∈ ws, (32 : UInt8) ∉ x.data.toList ∧ x.data.toList ≠ [] := fun x hx => by
    have := List.all_eq_true.1 hs x hx
    simpa using this
  have key : (32 : UInt8) ∉ w.data.toList → w.data.toList ≠ [] → (Lib.contains l.data.toList (32 :: (w.data.toList ++ [32])) = true ↔ w ∈ ws) := fun h1 h2 => by
    rw [hl, contains_words (fun x hx => by obtain ⟨y, hy, rfl⟩ := List.mem_map.1 hx; exact (hs' y hy).1) h1 h2]
    constructor
    · intro h; obtain ⟨y, hy, he⟩ := List.mem_map.1 h; rw [← ba_eq he]; exact hy
    · intro h; exact List.mem_map.2 ⟨w, h, rfl⟩
  simp only [hasS, Bool.and_eq_true, Bool.not_eq_true', decide_eq_false_iff_not]
  constructor
  · rintro ⟨h1, h2, h3⟩
    have h2 : ¬ Lib.contains w.data.toList [32] = true := by rw [h2]; simp
    rw [contains_mem] at h2
    exact (key h2 fun h => h1 (ba_eq h)).1 h3
  · intro h
    have q := hs' w h
    refine ⟨fun hc => q.2 (by rw [hc]), ?_, (key q.1 q.2).2 h⟩
    have : ¬ Lib.contains w.data.toList [32] = true := by rw [contains_mem]; exact q.1
    simpa using this
theorem mem_opsP1 (w : ByteArray) : w ∈ opsP1 ↔ w = ⟨#[45]⟩ ∨ w ∈ opsU := by
  have : opsP1 = ⟨#[45]⟩ :: opsU := rfl
  rw [this, List.mem_cons]
theorem mem_opsP2 (w : ByteArray) : w ∈ opsP2 ↔ w = ⟨#[45]⟩ ∨ w ∈ opsB := by
  have h1 : opsP2 = ⟨#[43]⟩ :: ⟨#[45]⟩ :: opsB.tail := rfl
  have h2 : opsB = ⟨#[43]⟩ :: opsB.tail := rfl
  rw [h1]; conv => rhs; rw [h2]
  simp only [List.mem_cons]
  constructor
  · rintro (h | h | h) <;> simp [h]
  · rintro (h | h | h) <;> simp [h]
theorem apart_ops {l r : List ByteArray} (h : (l.all fun x => r.all fun y => !decide (x = y)) = true) {w : ByteArray} (h1 : w ∈ l) : w ∉ r := fun h2 => by
  have := List.all_eq_true.1 (List.all_eq_true.1 h w h1) w h2
  simp at this
theorem apUB : (opsU.all fun x => opsB.all fun y => !decide (x = y)) = true := by kernel_rfl
theorem apMU : (([⟨#[45]⟩] : List ByteArray).all fun x => (opsU ++ opsB).all fun y => !decide (x = y)) = true := by kernel_rfl
theorem apS : (([opsW3, opsW4] : List ByteArray).all fun x => (⟨#[45]⟩ :: (opsU ++ opsB)).all fun y => !decide (x = y)) = true := by kernel_rfl
theorem has_opsOf (k : Int) (w : ByteArray) : hasS (opStr k) w = true ↔ k ∈ opsOf w := by
  have a1 : ∀ x, x ∈ opsU → x ∉ opsB := fun x h => apart_ops apUB h
  have a2 : (⟨#[45]⟩ : ByteArray) ∉ opsU ++ opsB := apart_ops apMU (by simp)
  have a3 : opsW3 ∉ (⟨#[45]⟩ :: (opsU ++ opsB) : List ByteArray) := apart_ops apS (by simp)
  have a4 : opsW4 ∉ (⟨#[45]⟩ :: (opsU ++ opsB) : List ByteArray) := apart_ops apS (by simp)
  have a5 : opsW3 ≠ opsW4 := by decide
  simp only [List.mem_append, List.mem_cons, not_or] at a2 a3 a4
  have e : k ∈ opsOf w ↔ (k = 1 ∧ (w = ⟨#[45]⟩ ∨ w ∈ opsU)) ∨ (k = 2 ∧ (w = ⟨#[45]⟩ ∨ w ∈ opsB)) ∨ (k = 3 ∧ w = opsW3) ∨ (k = 4 ∧ w = opsW4) := by
    unfold opsOf
    by_cases c1 : w ∈ opsU
    · have c2 := a1 w c1
      have c3 : w ≠ ⟨#[45]⟩ := fun h => a2.1 (h ▸ c1)
      have c4 : w ≠ opsW3 := fun h => a3.2.1 (h ▸ c1)
      have c5 : w ≠ opsW4 := fun h => a4.2.1 (h ▸ c1)
      simp [c1, c2, c3, c4, c5]
    by_cases c2 : w = ⟨#[45]⟩
    · subst c2
      have c4 : (⟨#[45]⟩ : ByteArray) ≠ opsW3 := fun h => a3.1 h.symm
      have c5 : (⟨#[45]⟩ : ByteArray) ≠ opsW4 := fun h => a4.1 h.symm
      simp [a2, c4, c5]
    by_cases c3 : w ∈ opsB
    · have c4 : w ≠ opsW3 := fun h => a3.2.2 (h ▸ c3)
      have c5 : w ≠ opsW4 := fun h => a4.2.2 (h ▸ c3)
      simp [c1, c2, c3, c4, c5]
    by_cases c4 : w = opsW3
    · subst c4; simp [c1, c2, c3, a5]
    by_cases c5 : w = opsW4
    · subst c5; simp [c1, c2, c3, c4]
    simp [c1, c2, c3, c4, c5]
  rw [e, ← mem_opsP1, ← mem_opsP2]
  by_cases h1 : k = 1
  · subst h1
    rw [hasS_words (ws := opsP1) (by kernel_rfl) (by kernel_rfl)]; simp
  by_cases h2 : k = 2
  · subst h2
    rw [hasS_words (ws := opsP2) (by kernel_rfl) (by kernel_rfl)]; simp
  by_cases h3 : k = 3
  · subst h3
    rw [hasS_words (ws := [opsW3]) (by kernel_rfl) (by kernel_rfl)]; simp
  by_cases h4 : k = 4
  · subst h4
    rw [hasS_words (ws := [opsW4]) (by kernel_rfl) (by kernel_rfl)]; simp
  have : opStr k = ⟨#[]⟩ := by simp [opStr, h1, h2, h3, h4]
  have hf : hasS ⟨#[]⟩ w = false := by simp [hasS, Lib.contains, Lib.index]
  rw [this, hf]
  simp [h1, h2, h3, h4]
def asksS (x : Nd) : Bool := decide (x.k = 8) && (decide (x.tx = wIsp) || decide (x.tx = wIsc))
theorem pc97 (x : Nd) (hx : okN x) : PureCall Tryz.prog [0] 97 [encN x] (dRet (.bool (asksS x))) := by
  refine zD0 mixed fn97 (Nat.le_of_ble_eq_true rfl) (Nat.lt_of_succ_le (Nat.le_of_ble_eq_true rfl)) (sfOk .nil) TbNOk (lv := lv0) fun I F hI hF => ?_
  refine zE2 fun C hC => ?_
  generalize Q0 : encN x = Z0
  cbv
  subst Q0
  subst hC
  refine ⟨?_⟩
  simp (maxSteps:=9999999) only [hI, hF, std]
  simp only [smp, smo, lookOk, lookRes, sfOf, ↓reduceIte, Nat.reduceEqDiff, reduceCtorEq, qA, qB]
  simp [asksS, wIsp, wIsc]
  rfl
open Classical in
noncomputable def e97 : Ent := ⟨97, fun | [d_x] => decide (isN d_x) | _ => false, fun | [d_x] => .bool (asksS (toN d_x)) | _ => .inil⟩
open Classical in
theorem ok97 : EntOk Tryz.prog [0] e97 := fun ds h => by
  unfold e97 at h ⊢
  simp only at h ⊢
  split at h
  · rw [decide_eq_true_iff] at h
    obtain ⟨v0, rfl, k0⟩ := h
    simp only [zB2, zA4, zA5, zC2, zC8, zC9]
    exact pc97 _ k0
  · cases h
def zeroV : V := .mk 0 0 0 ⟨#[]⟩ none none
def litV (x : Nd) : V :=
  if x.k = 0 then .mk 2 x.n 0 ⟨#[]⟩ none none else if x.k = 1 then .mk 1 x.n 0 ⟨#[]⟩ none none else if x.k = 6 then .mk 14 x.n 0 ⟨#[]⟩ none none
  else if x.k = 2 then .mk 6 0 0 x.tx none none else if x.k = 3 then .mk 4 0 0 x.tx none none else if x.k = 4 then .mk 5 0 0 x.tx none none else if x.k = 5 then .mk 3 0 0 x.tx none none else zeroV
theorem pc74 (x : Nd) (hx : okN x) : PureCall Tryz.prog [0] 69 [encN x] (dRet (.tup [(litV x).enc, .bool (decide (0 ≤ x.k ∧ x.k ≤ 6))])) := by
  generalize hr : litV x = r
  generalize hr2 : decide (0 ≤ x.k ∧ x.k ≤ 6) = r2
  refine zD0 mixed fn74 (Nat.le_of_ble_eq_true rfl) (Nat.lt_of_succ_le (Nat.le_of_ble_eq_true rfl)) (sfOk .nil) TbNOk (lv := lv0) fun I F hI hF => ?_
  refine zE2 fun C hC => ?_
  generalize Q0 : encN x = Z0
  generalize Q1 : r.enc = Z1
  generalize Q2 : DV.bool r2 = Z2
  cbv
  subst Q0 Q1 Q2
  subst hC
  refine ⟨?_⟩
  simp (maxSteps:=9999999) only [hI, hF, std]
  simp only [smp, smo, lookOk, lookRes, sfOf, ↓reduceIte, Nat.reduceEqDiff, reduceCtorEq, qA, qB]
  simp
  subst hr hr2
  unfold litV zeroV
  by_cases h0 : x.k = 0
  · simp [h0, V.enc, encS, encO]
  by_cases h1 : x.k = 1
  · simp [h1, V.enc, encS, encO]
  by_cases h2 : x.k = 6
  · simp [h2, V.enc, encS, encO]
  by_cases h3 : x.k = 2
  · simp [h3, V.enc, encS, encO]
  by_cases h4 : x.k = 3
  · simp [h4, V.enc, encS, encO]
  by_cases h5 : x.k = 4
  · simp [h5, V.enc, encS, encO]
  by_cases h6 : x.k = 5
  · simp [h6, V.enc, encS, encO]
  simp [h0, h1, h2, h3, h4, h5, h6, V.enc, encS, encO]
  try omega
open Classical in
noncomputable def e74 : Ent := ⟨69, fun | [d_x] => decide (isN d_x) | _ => false, fun | [d_x] => .tup [(litV (toN d_x)).enc, .bool (decide (0 ≤ (toN d_x).k ∧ (toN d_x).k ≤ 6))] | _ => .inil⟩
open Classical in
theorem ok74 : EntOk Tryz.prog [0] e74 := fun ds h => by
  unfold e74 at h ⊢
  simp only at h ⊢
  split at h
  · rw [decide_eq_true_iff] at h
    obtain ⟨v0, rfl, k0⟩ := h
    simp only [zB2, zA4, zA5, zC2, zC8, zC9]
    exact pc74 _ k0
  · cases h
theorem pc91 (s : ByteArray) (hs : s.size ≤ 1048576) : PureCall Tryz.prog [0] 90 [.str s] (dRet (.bool (!nameOk s))) := by
  refine zD0 mixed fn91 (Nat.le_of_ble_eq_true rfl) (Nat.lt_of_succ_le (Nat.le_of_ble_eq_true rfl)) (sfOk (.cons ok21 .nil)) TbNOk (lv := lv0) fun I F hI hF => ?_
  refine zE2 fun C hC => ?_
  generalize Q0 : DV.str s = Z0
  cbv
  subst Q0
  subst hC
  refine ⟨?_⟩
  simp (maxSteps:=9999999) only [hI, hF, std]
  simp only [smp, smo, lookOk, lookRes, sfOf, ↓reduceIte, Nat.reduceEqDiff, reduceCtorEq, qA, e21]
  simp [hs]
open Classical in
noncomputable def e91 : Ent := ⟨90, fun | [.str s] => decide (s.size ≤ 1048576) | _ => false, fun | [.str s] => .bool (!nameOk s) | _ => .inil⟩
open Classical in
theorem ok91 : EntOk Tryz.prog [0] e91 := fun ds h => by
  unfold e91 at h ⊢
  simp only at h ⊢
  split at h
  · exact pc91 _ (of_decide_eq_true h)
  · cases h
theorem pc83b (o : Option (List ByteArray)) (ho : okS0 o) : PureCall Tryz.prog [0] 105 [encS o, .fn 90 []] (dRet (.int .i64 (idxN (o.getD [])))) := by
  have hl := ho.1
  refine zD0 mixed fn83 (Nat.le_of_ble_eq_true rfl) (Nat.lt_of_succ_le (Nat.le_of_ble_eq_true rfl)) (sfOk (.cons ok91 .nil)) TbNOk (lv := lv83) fun I F hI hF => ?_
  refine zE2 fun C hC => ?_
  generalize Q0 : encS o = Z0
  cbv
  subst Q0
  subst hC
  refine ⟨?_⟩
  simp (maxSteps:=9999999) only [hI, hF, std]
  simp only [smp, smo, lookOk, lookRes, sfOf, ↓reduceIte, Nat.reduceEqDiff, reduceCtorEq, qA]
  refine zE1 (kend := fun I => kEndF I TbN [.tmp 4]) hI hF (sfOk (.cons ok91 .nil)) TbNOk (by exact fun Bk e s h => endF TbNOk Bk e s h) (lv := lv83) 0 (fun i : {i : Nat // i ≤ (o.getD []).length ∧ ∀ j, j < i → nameOk ((o.getD []).getD j ⟨#[]⟩) = true} => [.d (encS o), .d (.fn 90 []), .d (.int .i64 ((o.getD []).length : Int)), .d (.int .i64 (i.1 : Int))]) (fun i : {i : Nat // i ≤ (o.getD []).length ∧ ∀ j, j < i → nameOk ((o.getD []).getD j ⟨#[]⟩) = true} => []) (fun i : {i : Nat // i ≤ (o.getD []).length ∧ ∀ j, j < i → nameOk ((o.getD []).getD j ⟨#[]⟩) = true} => (o.getD []).length - i.1) [] (⟨0, by omega, fun j h => by omega⟩ : {i : Nat // i ≤ (o.getD []).length ∧ ∀ j, j < i → nameOk ((o.getD []).getD j ⟨#[]⟩) = true}) (by rfl) (by rfl) ?_ ?_ fun i => ?_
  · simp
  · rfl
  obtain ⟨i, hi1, hi2⟩ := i
  refine zE2 fun C hC => ?_
  generalize Q0 : encS o = Z0
  generalize Q1 : DV.int .i64 ((o.getD []).length : Int) = Z1
  generalize Q2 : DV.int .i64 (i : Int) = Z2
  cbv
  subst Q0 Q1 Q2
  subst hC
  refine ⟨?_⟩
  simp (maxSteps:=9999999) only [hI, hF, std]
  have w3 := zE6 (n := i) (by omega)
  by_cases hlt : i < (o.getD []).length
  · have g1 := zJ7 _ _ hlt
    have k1 := okS0_get ho hlt
    simp only [smp, smo, lookOk, lookRes, sfOf, ↓reduceIte, Nat.reduceEqDiff, reduceCtorEq, qA, e91, g1]
    simp [hlt, w3, - List.getD_eq_getElem?_getD, k1]
    refine ⟨fun h => (idxN_some hlt h hi2).symm, fun h => ⟨i + 1, by omega, ⟨by omega, fun j hj => ?_⟩, by simp⟩⟩
    by_cases hji : j = i
    · subst hji; exact h
    · exact hi2 j (by omega)
  · simp only [smp, smo, lookOk, lookRes, sfOf, ↓reduceIte, Nat.reduceEqDiff, reduceCtorEq, qA, e91]
    simp [hlt, - List.getD_eq_getElem?_getD]
    exact (idxN_none fun j hj => hi2 j (by omega)).symm
open Classical in
noncomputable def e83b : Ent := ⟨105, fun | [d_o, .fn 90 []] => decide (isSs d_o) | _ => false, fun | [d_o, .fn 90 []] => .int .i64 (idxN ((toSs d_o).getD [])) | _ => .inil⟩
open Classical in
theorem ok83b : EntOk Tryz.prog [0] e83b := fun ds h => by
  unfold e83b at h ⊢
  simp only at h ⊢
  split at h
  · rw [decide_eq_true_iff] at h
    obtain ⟨v0, rfl, k0⟩ := h
    simp only [zB2, zA4, zA5]
    exact pc83b _ k0
  · cases h
theorem pc64b (o : Option (List ByteArray)) (ho : okS0 o) : PureCall Tryz.prog [0] 79 [encS o, .fn 90 []] (dRet (.bool (decide (0 ≤ idxN (o.getD []))))) := by
  refine zD0 mixed fn64 (Nat.le_of_ble_eq_true rfl) (Nat.lt_of_succ_le (Nat.le_of_ble_eq_true rfl)) (sfOk (.cons ok83b .nil)) TbNOk (lv := lv0) fun I F hI hF => ?_
  refine zE2 fun C hC => ?_
  generalize Q0 : encS o = Z0
  cbv
  subst Q0
  subst hC
  refine ⟨?_⟩
  simp (maxSteps:=9999999) only [hI, hF, std]
  simp only [smp, smo, lookOk, lookRes, sfOf, ↓reduceIte, Nat.reduceEqDiff, reduceCtorEq, qA, e83b]
  simp [ho, qA]
open Classical in
noncomputable def e64b : Ent := ⟨79, fun | [d_o, .fn 90 []] => decide (isSs d_o) | _ => false, fun | [d_o, .fn 90 []] => .bool (decide (0 ≤ idxN ((toSs d_o).getD []))) | _ => .inil⟩
open Classical in
theorem ok64b : EntOk Tryz.prog [0] e64b := fun ds h => by
  unfold e64b at h ⊢
  simp only at h ⊢
  split at h
  · rw [decide_eq_true_iff] at h
    obtain ⟨v0, rfl, k0⟩ := h
    simp only [zB2, zA4, zA5]
    exact pc64b _ k0
  · cases h
theorem opStr_size (k : Int) : (opStr k).size ≤ 1048576 := by unfold opStr; repeat (first | split | decide)
theorem pc93 (k : Int) (x : Nd) (hx : okN x) : PureCall Tryz.prog [0] 92 [.int .i64 k, .pim [encN x] 0 0] (dRet (.bool (hasS (opStr k) x.tx))) := by
  refine zD0 mixed fn93 (Nat.le_of_ble_eq_true rfl) (Nat.lt_of_succ_le (Nat.le_of_ble_eq_true rfl)) (sfOk (.cons ok94 (.cons ok95 .nil))) TbNOk (lv := lv0) fun I F hI hF => ?_
  refine zE2 fun C hC => ?_
  generalize Q0 : DV.int .i64 k = Z0
  generalize Q1 : encN x = Z1
  cbv
  subst Q0 Q1
  subst hC
  refine ⟨?_⟩
  simp (maxSteps:=9999999) only [hI, hF, std]
  have h1 := opStr_size k
  simp only [smp, smo, lookOk, lookRes, sfOf, ↓reduceIte, Nat.reduceEqDiff, reduceCtorEq, qA, qB, e94, e95]
  simp [h1, hx.1]
open Classical in
noncomputable def e93 : Ent := ⟨92, fun | [.int .i64 k, .pim [d_x] 0 0] => decide (isN d_x) | _ => false, fun | [.int .i64 k, .pim [d_x] 0 0] => .bool (hasS (opStr k) (toN d_x).tx) | _ => .inil⟩
open Classical in
theorem ok93 : EntOk Tryz.prog [0] e93 := fun ds h => by
  unfold e93 at h ⊢
  simp only at h ⊢
  split at h
  · rw [decide_eq_true_iff] at h
    obtain ⟨v0, rfl, k0⟩ := h
    simp only [zB2, zA4, zA5, zC2, zC8, zC9]
    exact pc93 _ _ k0
  · cases h
def idxP (p : Int → Bool) : List Int → Int
  | [] => -1
  | x :: l => if p x = true then 0 else if idxP p l < 0 then -1 else idxP p l + 1
theorem idxP_none {p : Int → Bool} : ∀ {l : List Int}, (∀ i, i < l.length → p (l.getD i 0) = false) → idxP p l = -1
  | [], _ => rfl
  | x :: l, h => by
    have h0 := h 0 (by simp)
    have ih := idxP_none (l := l) fun i hi => h (i + 1) (by simpa using hi)
    simp only [idxP]
    rw [if_neg (by simpa using h0), ih, if_pos (by omega)]
theorem idxP_some {p : Int → Bool} : ∀ {l : List Int} {i : Nat}, i < l.length → p (l.getD i 0) = true → (∀ j, j < i → p (l.getD j 0) = false) → idxP p l = i
  | x :: l, 0, h, h1, h2 => by simp only [idxP]; rw [if_pos (by simpa using h1)]; rfl
  | x :: l, i + 1, h, h1, h2 => by
    have h0 := h2 0 (by omega)
    have ih := idxP_some (l := l) (i := i) (by simpa using h) (by simpa using h1) fun j hj => h2 (j + 1) (by omega)
    simp only [idxP]
    rw [if_neg (by simpa using h0), ih, if_neg (by omega)]; simp
theorem idxP_iff (p : Int → Bool) : ∀ (l : List Int), 0 ≤ idxP p l ↔ ∃ x ∈ l, p x = true
  | [] => by simp [idxP]
  | x :: l => by
    have ih := idxP_iff p l
    have hge : -1 ≤ idxP p l := by
      clear ih
      induction l with
      | nil => simp [idxP]
      | cons y l ih => simp only [idxP]; split <;> (try split) <;> omega
    simp only [idxP, List.mem_cons, exists_eq_or_imp]
    by_cases hx : p x = true
    · simp [hx]
    · rw [if_neg hx]
      by_cases h : idxP p l < 0
      · rw [if_pos h, ← ih]; simp [hx]; omega
      · rw [if_neg h, ← ih]; simp [hx]; omega
def lv111 : Nat → List Nat × List Nat
  | 2 => ([0, 1, 7, 8], [])
  | _ => ([], [])
theorem pc111 (o : Option (List Int)) (x : Nd) (ho : okIs o) (hx : okN x) : PureCall Tryz.prog [0] 113 [encIs o, .fn 92 [.pim [encN x] 0 0]] (dRet (.int .i64 (idxP (fun k => hasS (opStr k) x.tx) (o.getD [])))) := by
  have hl : (o.getD []).length ≤ 1048576 := ho
  refine zD0 mixed fn111 (Nat.le_of_ble_eq_true rfl) (Nat.lt_of_succ_le (Nat.le_of_ble_eq_true rfl)) (sfOk (.cons ok93 .nil)) TbNOk (lv := lv111) fun I F hI hF => ?_
  refine zE2 fun C hC => ?_
  generalize Q0 : encIs o = Z0
  generalize Q1 : encN x = Z1
  cbv
  subst Q0 Q1
  subst hC
  refine ⟨?_⟩
  simp (maxSteps:=9999999) only [hI, hF, std]
  simp only [smp, smo, lookOk, lookRes, sfOf, ↓reduceIte, Nat.reduceEqDiff, reduceCtorEq, qA, qB]
  refine zE1 (kend := fun I => kEndF I TbN [.tmp 4]) hI hF (sfOk (.cons ok93 .nil)) TbNOk (by exact fun Bk e s h => endF TbNOk Bk e s h) (lv := lv111) 0 (fun i : {i : Nat // i ≤ (o.getD []).length ∧ ∀ j, j < i → hasS (opStr ((o.getD []).getD j 0)) x.tx = false} => [.d (encIs o), .d (.fn 92 [.pim [encN x] 0 0]), .d (.int .i64 ((o.getD []).length : Int)), .d (.int .i64 (i.1 : Int))]) (fun i : {i : Nat // i ≤ (o.getD []).length ∧ ∀ j, j < i → hasS (opStr ((o.getD []).getD j 0)) x.tx = false} => []) (fun i : {i : Nat // i ≤ (o.getD []).length ∧ ∀ j, j < i → hasS (opStr ((o.getD []).getD j 0)) x.tx = false} => (o.getD []).length - i.1) [] (⟨0, by omega, fun j h => by omega⟩ : {i : Nat // i ≤ (o.getD []).length ∧ ∀ j, j < i → hasS (opStr ((o.getD []).getD j 0)) x.tx = false}) (by rfl) (by rfl) ?_ ?_ fun i => ?_
  · simp
  · rfl
  obtain ⟨i, hi1, hi2⟩ := i
  refine zE2 fun C hC => ?_
  generalize Q0 : encIs o = Z0
  generalize Q1 : encN x = Z1
  generalize Q2 : DV.int .i64 ((o.getD []).length : Int) = Z2
  generalize Q3 : DV.int .i64 (i : Int) = Z3
  cbv
  subst Q0 Q1 Q2 Q3
  subst hC
  refine ⟨?_⟩
  simp (maxSteps:=9999999) only [hI, hF, std]
  have w3 := zE6 (n := i) (by omega)
  by_cases hlt : i < (o.getD []).length
  · have g1 := zI0 _ _ hlt
    simp only [smp, smo, lookOk, lookRes, sfOf, ↓reduceIte, Nat.reduceEqDiff, reduceCtorEq, qA, qB, e93, g1]
    simp [hlt, w3, - List.getD_eq_getElem?_getD, hx, qB]
    refine ⟨fun h => (idxP_some hlt h hi2).symm, fun h => ⟨i + 1, by omega, ⟨by omega, fun j hj => ?_⟩, by simp⟩⟩
    by_cases hji : j = i
    · subst hji; exact h
    · exact hi2 j (by omega)
  · simp only [smp, smo, lookOk, lookRes, sfOf, ↓reduceIte, Nat.reduceEqDiff, reduceCtorEq, qA, qB, e93]
    simp [hlt, - List.getD_eq_getElem?_getD]
    exact (idxP_none fun j hj => hi2 j (by omega)).symm
open Classical in
noncomputable def e111 : Ent := ⟨113, fun | [d_o, .fn 92 [.pim [d_x] 0 0]] => decide (isIs d_o ∧ isN d_x) | _ => false, fun | [d_o, .fn 92 [.pim [d_x] 0 0]] => .int .i64 (idxP (fun k => hasS (opStr k) (toN d_x).tx) ((toIs d_o).getD [])) | _ => .inil⟩
open Classical in
theorem ok111 : EntOk Tryz.prog [0] e111 := fun ds h => by
  unfold e111 at h ⊢
  simp only at h ⊢
  split at h
  · rw [decide_eq_true_iff] at h
    obtain ⟨⟨v0, rfl, k0⟩, ⟨v1, rfl, k1⟩⟩ := h
    simp only [zB2, zA4, zA5, zC2, zC8, zC9]
    exact pc111 _ _ k0 k1
  · cases h
theorem pc92 (o : Option (List Int)) (x : Nd) (ho : okIs o) (hx : okN x) : PureCall Tryz.prog [0] 91 [encIs o, .fn 92 [.pim [encN x] 0 0]] (dRet (.bool (decide (0 ≤ idxP (fun k => hasS (opStr k) x.tx) (o.getD []))))) := by
  refine zD0 mixed fn92 (Nat.le_of_ble_eq_true rfl) (Nat.lt_of_succ_le (Nat.le_of_ble_eq_true rfl)) (sfOk (.cons ok111 .nil)) TbNOk (lv := lv0) fun I F hI hF => ?_
  refine zE2 fun C hC => ?_
  generalize Q0 : encIs o = Z0
  generalize Q1 : encN x = Z1
  cbv
  subst Q0 Q1
  subst hC
  refine ⟨?_⟩
  simp (maxSteps:=9999999) only [hI, hF, std]
  simp only [smp, smo, lookOk, lookRes, sfOf, ↓reduceIte, Nat.reduceEqDiff, reduceCtorEq, qA, qB, e111]
  simp [ho, hx, qB]
open Classical in
noncomputable def e92 : Ent := ⟨91, fun | [d_o, .fn 92 [.pim [d_x] 0 0]] => decide (isIs d_o ∧ isN d_x) | _ => false, fun | [d_o, .fn 92 [.pim [d_x] 0 0]] => .bool (decide (0 ≤ idxP (fun k => hasS (opStr k) (toN d_x).tx) ((toIs d_o).getD []))) | _ => .inil⟩
open Classical in
theorem ok92 : EntOk Tryz.prog [0] e92 := fun ds h => by
  unfold e92 at h ⊢
  simp only at h ⊢
  split at h
  · rw [decide_eq_true_iff] at h
    obtain ⟨⟨v0, rfl, k0⟩, ⟨v1, rfl, k1⟩⟩ := h
    simp only [zB2, zA4, zA5, zC2, zC8, zC9]
    exact pc92 _ _ k0 k1
  · cases h
theorem sim4 : DV.sim [.int .i64 1, .int .i64 2, .int .i64 3, .int .i64 4] = encIs (some [1, 2, 3, 4]) := rfl
open Classical in
noncomputable def nmE (x : Nd) : Int :=
  if ¬ NamesP x.names then 7 else if (x.k = 7 ∨ x.k = 12) ∧ nameOk x.tx = false then 7 else if x.k = 8 ∧ opsOf x.tx = [] then 7 else 0
theorem opsOf_nil (w : ByteArray) : opsOf w = [] ↔ ¬ (0 ≤ idxP (fun k => hasS (opStr k) w) [1, 2, 3, 4]) := by
  rw [idxP_iff]
  have : ∀ k, k ∈ opsOf w → k = 1 ∨ k = 2 ∨ k = 3 ∨ k = 4 := fun k h => by
    unfold opsOf at h
    split at h
    · simp at h; simp [h]
    · split at h
      · simp at h; rcases h with h | h <;> simp [h]
      · split at h
        · simp at h; simp [h]
        · split at h
          · simp at h; simp [h]
          · split at h
            · simp at h; simp [h]
            · cases h
  constructor
  · rintro h ⟨k, _, hk⟩
    rw [has_opsOf, h] at hk; cases hk
  · intro h
    apply List.eq_nil_iff_forall_not_mem.2
    intro k hk
    refine h ⟨k, ?_, (has_opsOf k w).2 hk⟩
    rcases this k hk with h | h | h | h <;> simp [h]
theorem pc71 (x : Nd) (hx : okN x) : PureCall Tryz.prog [0] 65 [encN x] (dRet (.int .i64 (nmE x))) := by
  generalize hr : nmE x = r
  refine zD0 mixed fn71 (Nat.le_of_ble_eq_true rfl) (Nat.lt_of_succ_le (Nat.le_of_ble_eq_true rfl)) (sfOk (.cons ok64b (.cons ok21 (.cons ok92 .nil)))) TbNOk (lv := lv0) fun I F hI hF => ?_
  refine zE2 fun C hC => ?_
  generalize Q0 : encN x = Z0
  generalize Q1 : DV.int .i64 r = Z1
  cbv
  subst Q0 Q1
  subst hC
  refine ⟨?_⟩
  simp (maxSteps:=9999999) only [hI, hF, std]
  have i4 : okIs (some [1, 2, 3, 4]) := by show 4 ≤ _; omega
  simp only [smp, smo, lookOk, lookRes, sfOf, ↓reduceIte, Nat.reduceEqDiff, reduceCtorEq, qA, qB, e64b, e21, e92, sim4]
  simp [hx, hx.1, hx.2.1, qB, qA, i4]
  have e : x.nm.getD [] = x.names := rfl
  have q : idxP (fun k => hasS (opStr k) x.tx) [1, 2, 3, 4] < 0 ↔ opsOf x.tx = [] := by rw [opsOf_nil]; omega
  have q2 : 0 ≤ idxP (fun k => hasS (opStr k) x.tx) [1, 2, 3, 4] ↔ ¬ opsOf x.tx = [] := by rw [← q]; omega
  simp only [e, zH9, idxN_lt, q, q2]
  subst hr
  unfold nmE
  clear hI hF q q2 i4 e hx
  grind
open Classical in
noncomputable def e71 : Ent := ⟨65, fun | [d_x] => decide (isN d_x) | _ => false, fun | [d_x] => .int .i64 (nmE (toN d_x)) | _ => .inil⟩
open Classical in
theorem ok71 : EntOk Tryz.prog [0] e71 := fun ds h => by
  unfold e71 at h ⊢
  simp only at h ⊢
  split at h
  · rw [decide_eq_true_iff] at h
    obtain ⟨v0, rfl, k0⟩ := h
    simp only [zB2, zA4, zA5, zC2, zC8, zC9]
    exact pc71 _ k0
  · cases h
noncomputable def arOk (x : Nd) : Bool := by
  classical
  exact decide (if x.k = 8 then (x.args.length : Int) ∈ opsOf x.tx else if x.k = 9 then x.args.length = x.names.length else if x.k = 10 then True else if x.k = 11 then x.args.length = 1 ∧ x.names.length = 1 else if x.k = 12 then x.args.length = 1 else if x.k = 13 then x.args.length = 2 else x.args.length = 0)
theorem pc72 (x : Nd) (hx : okN x) : PureCall Tryz.prog [0] 66 [encN x] (dRet (.int .i64 (if arOk x then 0 else 26))) := by
  generalize hr : (if arOk x then (0 : Int) else 26) = r
  refine zD0 mixed fn72 (Nat.le_of_ble_eq_true rfl) (Nat.lt_of_succ_le (Nat.le_of_ble_eq_true rfl)) (sfOk (.cons ok94 (.cons ok95 .nil))) TbNOk (lv := lv0) fun I F hI hF => ?_
  refine zE2 fun C hC => ?_
  generalize Q0 : encN x = Z0
  generalize Q1 : DV.int .i64 r = Z1
  cbv
  subst Q0 Q1
  subst hC
  refine ⟨?_⟩
  simp (maxSteps:=9999999) only [hI, hF, std]
  have e : x.nm.getD [] = x.names := rfl
  have e2 : x.ar.getD [] = x.args := rfl
  have h1 := opStr_size x.args.length
  simp only [smp, smo, lookOk, lookRes, sfOf, ↓reduceIte, Nat.reduceEqDiff, reduceCtorEq, qA, qB, e94, e95, e, e2, List.length_map]
  simp [hx.1, h1]
  have q1 : hasS (opStr x.args.length) x.tx = true ↔ (x.args.length : Int) ∈ opsOf x.tx := has_opsOf _ _
  have q0 : hasS (opStr x.args.length) x.tx = false ↔ ¬ (x.args.length : Int) ∈ opsOf x.tx := by rw [← q1]; simp
  simp only [q0, q1]
  subst hr
  unfold arOk
  simp only [decide_eq_true_eq]
  clear hI hF q0 q1 e e2 h1 hx
  grind
open Classical in
noncomputable def e72 : Ent := ⟨66, fun | [d_x] => decide (isN d_x) | _ => false, fun | [d_x] => .int .i64 (if arOk (toN d_x) then 0 else 26) | _ => .inil⟩
open Classical in
theorem ok72 : EntOk Tryz.prog [0] e72 := fun ds h => by
  unfold e72 at h ⊢
  simp only at h ⊢
  split at h
  · rw [decide_eq_true_iff] at h
    obtain ⟨v0, rfl, k0⟩ := h
    simp only [zB2, zA4, zA5, zC2, zC8, zC9]
    exact pc72 _ k0
  · cases h
theorem pc96 (a : Int) (o : Option (List Nd)) (ho : okT o) (ha : 0 ≤ a ∧ a < (o.getD []).length) : PureCall Tryz.prog [0] 96 [.int .i64 a, .pim [encT o] 0 0] (dRet (.bool (decide (((o.getD []).getD a.toNat default).k = 14)))) := by
  refine zD0 mixed fn96 (Nat.le_of_ble_eq_true rfl) (Nat.lt_of_succ_le (Nat.le_of_ble_eq_true rfl)) (sfOk .nil) TbNOk (lv := lv0) fun I F hI hF => ?_
  refine zE2 fun C hC => ?_
  generalize Q0 : DV.int .i64 a = Z0
  generalize Q1 : encT o = Z1
  cbv
  subst Q0 Q1
  subst hC
  refine ⟨?_⟩
  simp (maxSteps:=9999999) only [hI, hF, std]
  have hlt : a.toNat < (o.getD []).length := (Int.toNat_lt ha.1).2 ha.2
  have g1 := zI4 _ _ hlt
  simp only [smp, smo, lookOk, lookRes, sfOf, ↓reduceIte, Nat.reduceEqDiff, reduceCtorEq, qA, qB, g1]
  simp [- List.getD_eq_getElem?_getD, ha, hlt, qB, g1]
open Classical in
noncomputable def e96 : Ent := ⟨96, fun | [.int .i64 a, .pim [d_o] 0 0] => decide (isT d_o ∧ 0 ≤ a ∧ a < ((toT d_o).getD []).length) | _ => false, fun | [.int .i64 a, .pim [d_o] 0 0] => .bool (decide ((((toT d_o).getD []).getD a.toNat default).k = 14)) | _ => .inil⟩
open Classical in
theorem ok96 : EntOk Tryz.prog [0] e96 := fun ds h => by
  unfold e96 at h ⊢
  simp only at h ⊢
  split at h
  · rw [decide_eq_true_iff] at h
    obtain ⟨⟨v0, rfl, k0⟩, kx⟩ := h
    simp only [zB2, zA4, zA5, zC2, zC8, zC9] at kx ⊢
    exact pc96 _ _ k0 kx
  · cases h
def InT (n : Nat) (l : List Int) : Prop := ∀ a ∈ l, 0 ≤ a ∧ a < n
theorem InT.get {n : Nat} {l : List Int} (h : InT n l) {i : Nat} (hi : i < l.length) : 0 ≤ l.getD i 0 ∧ l.getD i 0 < n := by
  refine h _ ?_
  simp [List.getD, hi]
def kAt (l : List Nd) (a : Int) : Int := (l.getD a.toNat default).k
theorem pc111b (o : Option (List Int)) (t : Option (List Nd)) (ho : okIs o) (ht : okT t) (hin : InT (t.getD []).length (o.getD [])) : PureCall Tryz.prog [0] 113 [encIs o, .fn 96 [.pim [encT t] 0 0]] (dRet (.int .i64 (idxP (fun k => decide (kAt (t.getD []) k = 14)) (o.getD [])))) := by
  have hl : (o.getD []).length ≤ 1048576 := ho
  refine zD0 mixed fn111 (Nat.le_of_ble_eq_true rfl) (Nat.lt_of_succ_le (Nat.le_of_ble_eq_true rfl)) (sfOk (.cons ok96 .nil)) TbNOk (lv := lv111) fun I F hI hF => ?_
  refine zE2 fun C hC => ?_
  generalize Q0 : encIs o = Z0
  generalize Q1 : encT t = Z1
  cbv
  subst Q0 Q1
  subst hC
  refine ⟨?_⟩
  simp (maxSteps:=9999999) only [hI, hF, std]
  simp only [smp, smo, lookOk, lookRes, sfOf, ↓reduceIte, Nat.reduceEqDiff, reduceCtorEq, qA, qB]
  refine zE1 (kend := fun I => kEndF I TbN [.tmp 4]) hI hF (sfOk (.cons ok96 .nil)) TbNOk (by exact fun Bk e s h => endF TbNOk Bk e s h) (lv := lv111) 0 (fun i : {i : Nat // i ≤ (o.getD []).length ∧ ∀ j, j < i → decide (kAt (t.getD []) ((o.getD []).getD j 0) = 14) = false} => [.d (encIs o), .d (.fn 96 [.pim [encT t] 0 0]), .d (.int .i64 ((o.getD []).length : Int)), .d (.int .i64 (i.1 : Int))]) (fun i : {i : Nat // i ≤ (o.getD []).length ∧ ∀ j, j < i → decide (kAt (t.getD []) ((o.getD []).getD j 0) = 14) = false} => []) (fun i : {i : Nat // i ≤ (o.getD []).length ∧ ∀ j, j < i → decide (kAt (t.getD []) ((o.getD []).getD j 0) = 14) = false} => (o.getD []).length - i.1) [] (⟨0, by omega, fun j h => by omega⟩ : {i : Nat // i ≤ (o.getD []).length ∧ ∀ j, j < i → decide (kAt (t.getD []) ((o.getD []).getD j 0) = 14) = false}) (by rfl) (by rfl) ?_ ?_ fun i => ?_
  · simp
  · rfl
  obtain ⟨i, hi1, hi2⟩ := i
  refine zE2 fun C hC => ?_
  generalize Q0 : encIs o = Z0
  generalize Q1 : encT t = Z1
  generalize Q2 : DV.int .i64 ((o.getD []).length : Int) = Z2
  generalize Q3 : DV.int .i64 (i : Int) = Z3
  cbv
  subst Q0 Q1 Q2 Q3
  subst hC
  refine ⟨?_⟩
  simp (maxSteps:=9999999) only [hI, hF, std]
  have w3 := zE6 (n := i) (by omega)
  by_cases hlt : i < (o.getD []).length
  · have g1 := zI0 _ _ hlt
    have k1 := hin.get hlt
    simp only [smp, smo, lookOk, lookRes, sfOf, ↓reduceIte, Nat.reduceEqDiff, reduceCtorEq, qA, qB, e96, g1]
    simp [hlt, w3, - List.getD_eq_getElem?_getD, ht, qB, k1]
    refine ⟨fun h => (idxP_some hlt (by simpa [kAt] using h) hi2).symm, fun h => ⟨i + 1, by omega, ⟨by omega, fun j hj => ?_⟩, by simp⟩⟩
    by_cases hji : j = i
    · subst hji; simpa [kAt] using h
    · have := hi2 j (by omega); simpa using this
  · simp only [smp, smo, lookOk, lookRes, sfOf, ↓reduceIte, Nat.reduceEqDiff, reduceCtorEq, qA, qB, e96]
    simp [hlt, - List.getD_eq_getElem?_getD]
    exact (idxP_none fun j hj => hi2 j (by omega)).symm
open Classical in
noncomputable def e111b : Ent := ⟨113, fun | [d_o, .fn 96 [.pim [d_t] 0 0]] => decide (isIs d_o ∧ isT d_t ∧ InT ((toT d_t).getD []).length ((toIs d_o).getD [])) | _ => false, fun | [d_o, .fn 96 [.pim [d_t] 0 0]] => .int .i64 (idxP (fun k => decide (kAt ((toT d_t).getD []) k = 14)) ((toIs d_o).getD [])) | _ => .inil⟩
open Classical in
theorem ok111b : EntOk Tryz.prog [0] e111b := fun ds h => by
  unfold e111b at h ⊢
  simp only at h ⊢
  split at h
  · rw [decide_eq_true_iff] at h
    obtain ⟨⟨v0, rfl, k0⟩, ⟨v1, rfl, k1⟩, kx⟩ := h
    simp only [zB2, zA4, zA5, zC2, zC8, zC9] at kx ⊢
    exact pc111b _ _ k0 k1 kx
  · cases h
theorem pc92b (o : Option (List Int)) (t : Option (List Nd)) (ho : okIs o) (ht : okT t) (hin : InT (t.getD []).length (o.getD [])) : PureCall Tryz.prog [0] 91 [encIs o, .fn 96 [.pim [encT t] 0 0]] (dRet (.bool (decide (0 ≤ idxP (fun k => decide (kAt (t.getD []) k = 14)) (o.getD []))))) := by
  refine zD0 mixed fn92 (Nat.le_of_ble_eq_true rfl) (Nat.lt_of_succ_le (Nat.le_of_ble_eq_true rfl)) (sfOk (.cons ok111b .nil)) TbNOk (lv := lv0) fun I F hI hF => ?_
  refine zE2 fun C hC => ?_
  generalize Q0 : encIs o = Z0
  generalize Q1 : encT t = Z1
  cbv
  subst Q0 Q1
  subst hC
  refine ⟨?_⟩
  simp (maxSteps:=9999999) only [hI, hF, std]
  simp only [smp, smo, lookOk, lookRes, sfOf, ↓reduceIte, Nat.reduceEqDiff, reduceCtorEq, qA, qB, e111b]
  simp [ho, ht, qB, hin]
open Classical in
noncomputable def e92b : Ent := ⟨91, fun | [d_o, .fn 96 [.pim [d_t] 0 0]] => decide (isIs d_o ∧ isT d_t ∧ InT ((toT d_t).getD []).length ((toIs d_o).getD [])) | _ => false, fun | [d_o, .fn 96 [.pim [d_t] 0 0]] => .bool (decide (0 ≤ idxP (fun k => decide (kAt ((toT d_t).getD []) k = 14)) ((toIs d_o).getD []))) | _ => .inil⟩
open Classical in
theorem ok92b : EntOk Tryz.prog [0] e92b := fun ds h => by
  unfold e92b at h ⊢
  simp only at h ⊢
  split at h
  · rw [decide_eq_true_iff] at h
    obtain ⟨⟨v0, rfl, k0⟩, ⟨v1, rfl, k1⟩, kx⟩ := h
    simp only [zB2, zA4, zA5, zC2, zC8, zC9] at kx ⊢
    exact pc92b _ _ k0 k1 kx
  · cases h
noncomputable def frmE (l : List Nd) (i : Nat) : Int := by
  classical
  exact
  if (¬ ((l.getD i default).k = 0 ∨ (l.getD i default).k = 1 ∨ (l.getD i default).k = 6) ∧ (l.getD i default).n ≠ 0) ∨
    (¬ ((l.getD i default).k = 2 ∨ (l.getD i default).k = 3 ∨ (l.getD i default).k = 4 ∨ (l.getD i default).k = 5 ∨ (l.getD i default).k = 7 ∨ (l.getD i default).k = 12 ∨ (l.getD i default).k = 8) ∧ (l.getD i default).tx ≠ ⟨#[]⟩) ∨
    (¬ ((l.getD i default).k = 9 ∨ (l.getD i default).k = 11) ∧ (l.getD i default).names ≠ []) then 5
  else if (l.getD i default).k ≠ 9 ∧ (∃ a ∈ (l.getD i default).args, kAt l a = 14) then 5
  else if i + 1 = l.length ∧ (l.getD i default).k = 14 then 5
  else if asksS (l.getD i default) = true ∧ kAt l ((l.getD i default).args.getD 0 0) ≠ 12 then 5 else 0
theorem pc73 (o : Option (List Nd)) (i : Nat) (ho : okT o) (hi : i < (o.getD []).length) (hin : InT (o.getD []).length ((o.getD []).getD i default).args) (hask : asksS ((o.getD []).getD i default) = true → ((o.getD []).getD i default).args ≠ []) :
    PureCall Tryz.prog [0] 68 [encT o, .int .i64 (i : Int)] (dRet (.int .i64 (frmE (o.getD []) i))) := by
  generalize hr : frmE (o.getD []) i = r
  have hl := ho.1
  have hx := okT_get ho hi
  have hg := zI4 _ _ hi
  refine zD0 mixed fn73 (Nat.le_of_ble_eq_true rfl) (Nat.lt_of_succ_le (Nat.le_of_ble_eq_true rfl)) (sfOk (.cons ok92b (.cons ok96 (.cons ok97 .nil)))) TbNOk (lv := lv0) fun I F hI hF => ?_
  refine zE2 fun C hC => ?_
  generalize Q0 : encT o = Z0
  generalize Q1 : DV.int .i64 (i : Int) = Z1
  generalize Q2 : DV.int .i64 r = Z2
  cbv
  subst Q0 Q1 Q2
  subst hC
  refine ⟨?_⟩
  simp (maxSteps:=9999999) only [hI, hF, std]
  have w1 : IntKind.i64.wrap (((o.getD []).length : Int) - 1) = ((o.getD []).length : Int) - 1 := zJ4 (by omega) (by omega)
  have e : ((o.getD []).getD i default).ar.getD [] = ((o.getD []).getD i default).args := rfl
  have e2 : ((o.getD []).getD i default).nm.getD [] = ((o.getD []).getD i default).names := rfl
  have q1 : 0 ≤ idxP (fun k => decide (kAt (o.getD []) k = 14)) ((o.getD []).getD i default).args ↔ ∃ a ∈ ((o.getD []).getD i default).args, kAt (o.getD []) a = 14 := by rw [idxP_iff]; simp
  have q0 : idxP (fun k => decide (kAt (o.getD []) k = 14)) ((o.getD []).getD i default).args < 0 ↔ ¬ ∃ a ∈ ((o.getD []).getD i default).args, kAt (o.getD []) a = 14 := by rw [← q1]; omega
  have ln : 0 < ((o.getD []).getD i default).names.length ↔ ¬ ((o.getD []).getD i default).names = [] := List.length_pos_iff
  have hik : ((i : Int) = ((o.getD []).length : Int) - 1) ↔ i + 1 = (o.getD []).length := by omega
  have ek : ∀ a : Int, ((o.getD []).getD a.toNat default).k = kAt (o.getD []) a := fun a => rfl
  have eb : (⟨⟨[]⟩⟩ : ByteArray) = ⟨#[]⟩ := rfl
  rcases Bool.eq_false_or_eq_true (asksS ((o.getD []).getD i default)) with hA | hA
  · have hp : 0 < ((o.getD []).getD i default).args.length := List.length_pos_iff.2 (hask hA)
    have g0 := zI0 _ _ hp
    have k0 := hin.get hp
    have hlt0 : (((o.getD []).getD i default).args.getD 0 0).toNat < (o.getD []).length := (Int.toNat_lt k0.1).2 k0.2
    have g1 := zI4 _ _ hlt0
    simp only [smp, smo, lookOk, lookRes, sfOf, ↓reduceIte, Nat.reduceEqDiff, reduceCtorEq, qA, qB, hg, e92b, e96, e97, e, e2, g0, g1, w1]
    simp [- List.getD_eq_getElem?_getD, hi, hx, ho, hx.2.2, qB, hin, hA, hp, k0, hlt0, g0, g1, e, e2, w1]
    simp only [q0, q1, ln, hik, ek, eb]
    subst hr
    unfold frmE
    simp only [hA]
    clear q0 q1 g0 g1 hlt0 k0 hg hx hin hl ho hI hF w1 e e2 ek eb hask hik ln
    generalize ((o.getD []).getD i default).k = gk
    generalize ((o.getD []).getD i default).n = gn
    generalize ((o.getD []).getD i default).tx = gt
    generalize ((o.getD []).getD i default).names = gm
    generalize kAt (o.getD []) (((o.getD []).getD i default).args.getD 0 0) = ga
    clear hi
    rcases Classical.em (∃ a, a ∈ ((o.getD []).getD i default).args ∧ kAt (o.getD []) a = 14) with hP | hP <;> rcases Classical.em (i + 1 = (o.getD []).length) with hQ | hQ <;> simp only [hP, hQ, not_true_eq_false, not_false_eq_true, true_and, false_and, and_true, and_false, true_implies, false_implies, if_false, implies_true] <;> clear hP hQ
    all_goals by_cases c1 : ¬gk = 0 ∧ ¬gk = 1 ∧ ¬gk = 6 ∧ ¬gn = 0
    all_goals try (simp [c1]; done)
    all_goals by_cases c2 : ¬gk = 2 ∧ ¬gk = 3 ∧ ¬gk = 4 ∧ ¬gk = 5 ∧ ¬gk = 7 ∧ ¬gk = 12 ∧ ¬gk = 8 ∧ ¬gt = ⟨#[]⟩
    all_goals try (grind; done)
  · simp only [smp, smo, lookOk, lookRes, sfOf, ↓reduceIte, Nat.reduceEqDiff, reduceCtorEq, qA, qB, hg, e92b, e96, e97, e, e2, w1]
    simp [- List.getD_eq_getElem?_getD, hi, hx, ho, hx.2.2, qB, hin, hA, e, e2, w1]
    simp only [q0, q1, ln, hik, ek, eb]
    subst hr
    unfold frmE
    simp only [hA]
    clear q0 q1 hg hx hin hl ho hI hF w1 e e2 ek eb hask hik ln
    generalize ((o.getD []).getD i default).k = gk
    generalize ((o.getD []).getD i default).n = gn
    generalize ((o.getD []).getD i default).tx = gt
    generalize ((o.getD []).getD i default).names = gm
    generalize kAt (o.getD []) (((o.getD []).getD i default).args.getD 0 0) = ga
    clear hi
    rcases Classical.em (∃ a, a ∈ ((o.getD []).getD i default).args ∧ kAt (o.getD []) a = 14) with hP | hP <;> rcases Classical.em (i + 1 = (o.getD []).length) with hQ | hQ <;> simp only [hP, hQ, not_true_eq_false, not_false_eq_true, true_and, false_and, and_true, and_false, true_implies, false_implies, if_false, implies_true] <;> clear hP hQ
    all_goals by_cases c1 : ¬gk = 0 ∧ ¬gk = 1 ∧ ¬gk = 6 ∧ ¬gn = 0
    all_goals try (simp [c1]; done)
    all_goals by_cases c2 : ¬gk = 2 ∧ ¬gk = 3 ∧ ¬gk = 4 ∧ ¬gk = 5 ∧ ¬gk = 7 ∧ ¬gk = 12 ∧ ¬gk = 8 ∧ ¬gt = ⟨#[]⟩
    all_goals try (grind; done)
end Go.Proofs.Sx

namespace Go.Proofs.Sx
open Go Go.Proofs Go.Proofs.Am 
variable {gs : List Nat}

def FrmP (l : List Nd) (i : Int) : Prop := (0 ≤ i ∧ i < l.length) ∧ InT l.length (l.getD i.toNat default).args ∧ (asksS (l.getD i.toNat default) = true → (l.getD i.toNat default).args ≠ [])
theorem pc73' (o : Option (List Nd)) (i : Int) (ho : okT o) (h : FrmP (o.getD []) i) : PureCall Tryz.prog [0] 68 [encT o, .int .i64 i] (dRet (.int .i64 (frmE (o.getD []) i.toNat))) := by
  obtain ⟨⟨h1, h2⟩, h3, h4⟩ := h
  obtain ⟨n, rfl⟩ := Int.eq_ofNat_of_zero_le h1
  have := pc73 o n ho (by omega) h3 h4
  simpa using this
open Classical in
noncomputable def e73' : Ent := ⟨68, fun | [d_o, .int .i64 i] => decide (isT d_o ∧ FrmP ((toT d_o).getD []) i) | _ => false, fun | [d_o, .int .i64 i] => .int .i64 (frmE ((toT d_o).getD []) i.toNat) | _ => .inil⟩
open Classical in
theorem ok73' : EntOk Tryz.prog [0] e73' := fun ds h => by
  unfold e73' at h ⊢
  simp only at h ⊢
  split at h
  · rw [decide_eq_true_iff] at h
    obtain ⟨⟨v0, rfl, k0⟩, kx⟩ := h
    simp only [zB2, zA4, zA5, zC2, zC8, zC9] at kx ⊢
    exact pc73' _ _ k0 kx
  · cases h
theorem opsOf_isp : opsOf wIsp = [1] := by
  have : wIsp ∈ opsU := by simp [opsU, wIsp]
  unfold opsOf; rw [if_pos this]
theorem opsOf_isc : opsOf wIsc = [1] := by
  have : wIsc ∈ opsU := by simp [opsU, wIsc]
  unfold opsOf; rw [if_pos this]
theorem asks_args {x : Nd} (h : asksS x = true) (ha : arOk x = true) : x.args.length = 1 := by
  simp only [asksS, Bool.and_eq_true, Bool.or_eq_true, decide_eq_true_eq] at h
  unfold arOk at ha
  simp only [decide_eq_true_eq] at ha
  rw [if_pos h.1] at ha
  rcases h.2 with h2 | h2
  · rw [h2, opsOf_isp] at ha; simp at ha; omega
  · rw [h2, opsOf_isc] at ha; simp at ha; omega
theorem litV_ok {x : Nd} (h : okN x) : (litV x).ok := by
  have h1 := h.1
  have z : (0 : Nat) ≤ 1048576 := by omega
  unfold litV zeroV
  repeat (first | (rw [V.ok, okO]; exact ⟨by first | exact h1 | exact z, z, by simp, trivial⟩) | split)
open Classical in
noncomputable def nodeE2 (l : List Nd) (i : Nat) : Int :=
  if DoubleP (l.getD i default).names then 13
  else if frmE l i ≠ 0 then frmE l i
  else if (l.getD i default).k ≤ 6 then valE (litV (l.getD i default))
  else if ((l.getD i default).k = 9 ∧ 16 < (l.getD i default).names.length) ∨ ((l.getD i default).k = 10 ∧ 40 < (l.getD i default).args.length) then 2 else 0
noncomputable def nodeE (l : List Nd) (i : Nat) : Int :=
  if ¬ (0 ≤ (l.getD i default).k ∧ (l.getD i default).k ≤ 14) then 4
  else if nmE (l.getD i default) ≠ 0 then nmE (l.getD i default)
  else if arOk (l.getD i default) = false then 26
  else nodeE2 l i
def lv51 : Nat → List Nat × List Nat
  | 11 => ([0, 1, 5, 36, 37, 38], [0])
  | _ => ([], [])
set_option maxHeartbeats 2000000 in
theorem pc51 (o : Option (List Nd)) (p : Nat) (ho : okT o) (hi : p < (o.getD []).length) (hin : InT (o.getD []).length ((o.getD []).getD p default).args) :
    PureCall Tryz.prog [0] 48 [encT o, .int .i64 (p : Int)] (dRet (.int .i64 (nodeE (o.getD []) p))) := by
  generalize hr : nodeE (o.getD []) p = r
  have hl := ho.1
  have hx := okT_get ho hi
  have hg := zI4 _ _ hi
  have e : ((o.getD []).getD p default).ar.getD [] = ((o.getD []).getD p default).args := rfl
  have e2 : ((o.getD []).getD p default).nm.getD [] = ((o.getD []).getD p default).names := rfl
  refine zD0 mixed fn51 (Nat.le_of_ble_eq_true rfl) (Nat.lt_of_succ_le (Nat.le_of_ble_eq_true rfl)) (sfOk (.cons ok71 (.cons ok72 (.cons ok66 (.cons ok73' (.cons ok74 (.cons ok10 .nil))))))) TbOk (lv := lv51) fun I F hI hF => ?_
  refine zE2 fun C hC => ?_
  generalize Q0 : encT o = Z0
  generalize Q1 : DV.int .i64 (p : Int) = Z1
  generalize Q2 : DV.int .i64 r = Z2
  cbv
  subst Q0 Q1 Q2
  subst hC
  refine ⟨?_⟩
  simp (maxSteps:=9999999) only [hI, hF, std]
  simp only [smp, smo, lookOk, lookRes, sfOf, ↓reduceIte, Nat.reduceEqDiff, reduceCtorEq, qA, qB, hg, e71, e72]
  simp [- List.getD_eq_getElem?_getD, hi, hx, qB, e, e2]
  unfold nodeE at hr
  refine ⟨fun h => ?_, fun k1 k2 => ⟨fun h => ?_, fun h1 => ⟨fun h2 => ?_, fun h2 => ?_⟩⟩⟩
  · rw [← hr, if_pos (by omega)]
  · rw [← hr, if_neg (by omega), if_pos h]
  · rw [h2]
    show (26 : Int) = r
    rw [← hr, if_neg (fun h => h ⟨k1, k2⟩), if_neg (fun h => h h1), if_pos h2]
  rw [if_neg (by omega), if_neg (fun h => h h1), if_neg (by rw [h2]; exact fun h => nomatch h)] at hr
  have hN : ((o.getD []).getD p default).names.length ≤ 1048576 := hx.2.1.1
  have hA : ((o.getD []).getD p default).args.length ≤ 1048576 := hx.2.2
  have hfrm : FrmP (o.getD []) (p : Int) := ⟨⟨by omega, by omega⟩, by rw [Int.toNat_natCast]; exact hin, by
    rw [Int.toNat_natCast]
    intro ha hn
    have := asks_args ha h2
    rw [hn] at this; simp at this⟩
  refine zE1 (kend := fun I => kEndF I Tb [.tmp 4]) hI hF (sfOk (.cons ok71 (.cons ok72 (.cons ok66 (.cons ok73' (.cons ok74 (.cons ok10 .nil))))))) TbOk (by exact fun Bk e s h => endF TbOk Bk e s h) (lv := lv51) 0 (fun i : {i : Nat // i ≤ ((o.getD []).getD p default).names.length ∧ ∀ a b, a < i → b < a → ((o.getD []).getD p default).names.getD b ⟨#[]⟩ ≠ ((o.getD []).getD p default).names.getD a ⟨#[]⟩} => [.d (encT o), .d (.int .i64 (p : Int)), .loc 0 5 0 0, .d (encS ((o.getD []).getD p default).nm), .d (.int .i64 (((o.getD []).getD p default).names.length : Int)), .d (.int .i64 (i.1 : Int))]) (fun i : {i : Nat // i ≤ ((o.getD []).getD p default).names.length ∧ ∀ a b, a < i → b < a → ((o.getD []).getD p default).names.getD b ⟨#[]⟩ ≠ ((o.getD []).getD p default).names.getD a ⟨#[]⟩} => [(0, some ⟨[.d (encN ((o.getD []).getD p default))], 5, 54, true, true⟩)]) (fun i : {i : Nat // i ≤ ((o.getD []).getD p default).names.length ∧ ∀ a b, a < i → b < a → ((o.getD []).getD p default).names.getD b ⟨#[]⟩ ≠ ((o.getD []).getD p default).names.getD a ⟨#[]⟩} => ((o.getD []).getD p default).names.length - i.1) [0] (⟨0, by omega, fun a b h => by omega⟩ : {i : Nat // i ≤ ((o.getD []).getD p default).names.length ∧ ∀ a b, a < i → b < a → ((o.getD []).getD p default).names.getD b ⟨#[]⟩ ≠ ((o.getD []).getD p default).names.getD a ⟨#[]⟩}) (by rfl) (by rfl) ?_ ?_ fun i => ?_
  · simp
  · rfl
  obtain ⟨i, hj1, hj2⟩ := i
  refine zE2 fun C hC => ?_
  generalize Q0 : encT o = Z0
  generalize Q1 : DV.int .i64 (p : Int) = Z1
  generalize Q2 : encS ((o.getD []).getD p default).nm = Z2
  generalize Q3 : encN ((o.getD []).getD p default) = Z3
  generalize Q4 : DV.int .i64 (((o.getD []).getD p default).names.length : Int) = Z4
  generalize Q5 : DV.int .i64 (i : Int) = Z5
  generalize Q6 : DV.int .i64 r = Z6
  cbv
  subst Q0 Q1 Q2 Q3 Q4 Q5 Q6
  subst hC
  refine ⟨?_⟩
  simp (maxSteps:=9999999) only [hI, hF, std]
  have w3 := zE6 (n := i) (by omega)
  have hok : okS0 ((o.getD []).getD p default).nm := hx.2.1
  by_cases hlt : i < ((o.getD []).getD p default).names.length
  · have g1 := zJ7 _ _ hlt
    simp only [smp, smo, lookOk, lookRes, sfOf, ↓reduceIte, Nat.reduceEqDiff, reduceCtorEq, qA, qB, e71, e72, e66, e73', e74, e10, slD_encS, e2, g1, cells_one, intO_none, intO_int, loN_none, hiN_int]
    have hh := idxS_take (s := ((o.getD []).getD p default).names.getD i ⟨#[]⟩) (i := i) (Nat.le_of_lt hlt)
    simp [hlt, w3, - List.getD_eq_getElem?_getD, hok, qA, okS0_take hok, getD_take, e2]
    refine ⟨⟨fun x _ => rfl, by omega⟩, fun h => ?_, fun h => ⟨i + 1, by omega, ⟨by omega, fun a b ha hb => ?_⟩, by simp⟩⟩
    · obtain ⟨j, a, b⟩ := hh.1 h
      rw [← hr]; unfold nodeE2
      rw [if_pos ⟨i, j, a, hlt, b⟩]
    · by_cases hai : a = i
      · subst hai
        intro he
        have := hh.2 ⟨b, hb, he⟩
        clear w3; omega
      · exact hj2 a b (by clear w3; omega) hb
  · simp only [smp, smo, lookOk, lookRes, sfOf, ↓reduceIte, Nat.reduceEqDiff, reduceCtorEq, qA, qB, e71, e72, e66, e73', e74, e10]
    simp [hlt, - List.getD_eq_getElem?_getD, qA, qB, ho, hfrm, litV_ok hx, e, e2, hx, zJ9, zH5, zJ0, zH2, zI9, zA1, zA0, k1, k2, List.getD_cons_zero, List.getD_cons_succ]
    have hdbl : ¬ DoubleP ((o.getD []).getD p default).names := fun ⟨a, b, h1, h2, h3⟩ => hj2 a b (by omega) h1 h3
    unfold nodeE2 at hr
    rw [if_neg hdbl] at hr
    refine ⟨fun h => ?_, fun h => ⟨⟨rfl, rfl, rfl, rfl⟩, rfl, fun h3 => ?_, fun h3 => ⟨fun h4 => ?_, fun h4 h5 => ?_⟩⟩⟩
    · rw [← hr, if_pos h]
    · rw [← hr, if_neg (fun hh => hh h), if_pos h3]
    · rw [← hr, if_neg (fun hh => hh h), if_neg (by omega), if_pos (by omega)]
    · rw [← hr, if_neg (fun hh => hh h), if_neg (by omega), if_neg (by omega)]
theorem pc51' (o : Option (List Nd)) (i : Int) (ho : okT o) (h : (0 ≤ i ∧ i < (o.getD []).length) ∧ InT (o.getD []).length ((o.getD []).getD i.toNat default).args) : PureCall Tryz.prog [0] 48 [encT o, .int .i64 i] (dRet (.int .i64 (nodeE (o.getD []) i.toNat))) := by
  obtain ⟨⟨h1, h2⟩, h3⟩ := h
  obtain ⟨n, rfl⟩ := Int.eq_ofNat_of_zero_le h1
  have := pc51 o n ho (by omega) h3
  simpa using this
open Classical in
noncomputable def e51' : Ent := ⟨48, fun | [d_o, .int .i64 i] => decide (isT d_o ∧ (0 ≤ i ∧ i < ((toT d_o).getD []).length) ∧ InT ((toT d_o).getD []).length (((toT d_o).getD []).getD i.toNat default).args) | _ => false, fun | [d_o, .int .i64 i] => .int .i64 (nodeE ((toT d_o).getD []) i.toNat) | _ => .inil⟩
open Classical in
theorem ok51' : EntOk Tryz.prog [0] e51' := fun ds h => by
  unfold e51' at h ⊢
  simp only at h ⊢
  split at h
  · rw [decide_eq_true_iff] at h
    obtain ⟨⟨v0, rfl, k0⟩, kx⟩ := h
    simp only [zB2, zA4, zA5, zC2, zC8, zC9] at kx ⊢
    exact pc51' _ _ k0 kx
  · cases h
def lv33 : Nat → List Nat × List Nat
  | 4 => ([0, 10, 11], [])
  | _ => ([], [])
open Classical in
noncomputable def chkF (l : List Nd) : Nat → Nat → Int × Int
  | 0, _ => (0, 0)
  | m + 1, i => if nodeE l i ≠ 0 then ((i : Int), nodeE l i) else chkF l m (i + 1)
noncomputable def checkE (l : List Nd) : Int × Int := if isTermS l = true then chkF l l.length 0 else (0, 6)
def Low (rs : List Int) (i : Nat) : Prop := ∀ x ∈ rs, 0 ≤ x ∧ x < i
theorem rootsF_low : ∀ (l : List Nd) (i : Nat) (r q : List Int), Low r i → rootsF l i r = some q → ∀ j, j < l.length → Low (l.getD j default).args (i + j)
  | [], i, r, q, h, hq, j, hj => by simp at hj
  | x :: l, i, r, q, h, hq, j, hj => by
    simp only [rootsF] at hq
    split at hq
    · rename_i r' hr'
      unfold stepR at hr'
      split at hr'
      · rename_i hc
        cases hr'
        have hlow : Low (r.take (r.length - x.args.length) ++ [(i : Int)]) (i + 1) := by
          intro y hy
          rcases List.mem_append.1 hy with hy | hy
          · have := h y (List.mem_of_mem_take hy); omega
          · rw [List.mem_singleton] at hy; omega
        cases j with
        | zero =>
          intro y hy
          have hy : y ∈ x.args := by simpa using hy
          rw [hc.2] at hy
          have := h y (List.mem_of_mem_drop hy)
          omega
        | succ j =>
          have := rootsF_low l (i + 1) _ q hlow hq j (by simpa using hj)
          intro y hy
          have := this y (by simpa using hy)
          omega
      · cases hr'
    · cases hq
theorem isTerm_low {l : List Nd} (h : isTermS l = true) : ∀ j, j < l.length → InT l.length (l.getD j default).args := by
  intro j hj
  unfold isTermS at h
  rw [Bool.and_eq_true] at h
  have h2 := h.2
  split at h2
  · rename_i q hq
    have := rootsF_low l 0 [] q (fun x hx => by cases hx) hq j hj
    intro x hx
    have := this x hx
    omega
  · cases h2
set_option maxHeartbeats 2000000 in
theorem pc33 (o : Option (List Nd)) (ho : okT o) : PureCall Tryz.prog [0] 30 [encT o] (dRet (.tup [.int .i64 (checkE (o.getD [])).1, .int .i64 (checkE (o.getD [])).2])) := by
  have hl := ho.1
  generalize hr : checkE (o.getD []) = r
  refine zD0 mixed fn33 (Nat.le_of_ble_eq_true rfl) (Nat.lt_of_succ_le (Nat.le_of_ble_eq_true rfl)) (sfOk (.cons ok50 (.cons ok51' .nil))) TbOk (lv := lv33) fun I F hI hF => ?_
  refine zE2 fun C hC => ?_
  generalize Q0 : encT o = Z0
  generalize Q1 : DV.int .i64 r.1 = Z1
  generalize Q2 : DV.int .i64 r.2 = Z2
  cbv
  subst Q0 Q1 Q2
  subst hC
  refine ⟨?_⟩
  simp (maxSteps:=9999999) only [hI, hF, std]
  unfold checkE at hr
  simp only [smp, smo, lookOk, lookRes, sfOf, ↓reduceIte, Nat.reduceEqDiff, reduceCtorEq, qA, qB, e50]
  simp [ho, qB]
  refine ⟨fun h => ?_, fun h => ?_⟩
  · rw [← hr, if_neg (by rw [h]; simp)]; exact ⟨rfl, rfl⟩
  rw [if_pos h] at hr
  refine zE1 (kend := fun I => kEndF I Tb [.tmp 2, .tmp 3]) hI hF (sfOk (.cons ok50 (.cons ok51' .nil))) TbOk (by exact fun Bk e s h => endF TbOk Bk e s h) (lv := lv33) 0 (fun i : {i : Nat // i ≤ (o.getD []).length ∧ chkF (o.getD []) ((o.getD []).length - i) i = r} => [.d (encT o), .d (.int .i64 ((o.getD []).length : Int)), .d (.int .i64 (i.1 : Int))]) (fun i : {i : Nat // i ≤ (o.getD []).length ∧ chkF (o.getD []) ((o.getD []).length - i) i = r} => []) (fun i : {i : Nat // i ≤ (o.getD []).length ∧ chkF (o.getD []) ((o.getD []).length - i) i = r} => (o.getD []).length - i.1) [] (⟨0, by omega, hr⟩ : {i : Nat // i ≤ (o.getD []).length ∧ chkF (o.getD []) ((o.getD []).length - i) i = r}) (by rfl) (by rfl) ?_ ?_ fun i => ?_
  · simp
  · rfl
  obtain ⟨i, hi1, hi2⟩ := i
  refine zE2 fun C hC => ?_
  generalize Q0 : encT o = Z0
  generalize Q1 : DV.int .i64 ((o.getD []).length : Int) = Z1
  generalize Q2 : DV.int .i64 (i : Int) = Z2
  generalize Q3 : DV.int .i64 r.1 = Z3
  generalize Q4 : DV.int .i64 r.2 = Z4
  cbv
  subst Q0 Q1 Q2 Q3 Q4
  subst hC
  refine ⟨?_⟩
  simp (maxSteps:=9999999) only [hI, hF, std]
  have w3 := zE6 (n := i) (by omega)
  by_cases hlt : i < (o.getD []).length
  · have hlow := isTerm_low h i hlt
    simp only [smp, smo, lookOk, lookRes, sfOf, ↓reduceIte, Nat.reduceEqDiff, reduceCtorEq, qA, qB, e50, e51']
    simp [hlt, w3, - List.getD_eq_getElem?_getD, qB, ho, hlow]
    rw [show (o.getD []).length - i = ((o.getD []).length - (i + 1)) + 1 from by omega, chkF] at hi2
    refine ⟨fun h => ?_, fun h => ⟨i + 1, by omega, ⟨by omega, ?_⟩, by omega⟩⟩
    · rw [if_pos h] at hi2; rw [← hi2]; exact ⟨rfl, rfl⟩
    · rw [if_neg (fun hh => hh h)] at hi2; exact hi2
  · simp only [smp, smo, lookOk, lookRes, sfOf, ↓reduceIte, Nat.reduceEqDiff, reduceCtorEq, qA, qB, e50, e51']
    simp [hlt, - List.getD_eq_getElem?_getD]
    rw [show (o.getD []).length - i = 0 from by omega, chkF] at hi2
    rw [← hi2]; exact ⟨rfl, rfl⟩
open Classical in
noncomputable def e33 : Ent := ⟨30, fun | [d_o] => decide (isT d_o) | _ => false, fun | [d_o] => .tup [.int .i64 (checkE ((toT d_o).getD [])).1, .int .i64 (checkE ((toT d_o).getD [])).2] | _ => .inil⟩
open Classical in
theorem ok33 : EntOk Tryz.prog [0] e33 := fun ds h => by
  unfold e33 at h ⊢
  simp only at h ⊢
  split at h
  · rw [decide_eq_true_iff] at h
    obtain ⟨v0, rfl, k0⟩ := h
    simp only [zB2, zA4, zA5, zC2, zC8, zC9]
    exact pc33 _ k0
  · cases h
end Go.Proofs.Sx

namespace Go.Proofs.Sx
open Go Go.Proofs Go.Proofs.Am 
variable {gs : List Nat}

structure Own0 (v : V) : Prop where
  kind : (1 ≤ v.k ∧ v.k ≤ 6) ∨ (9 ≤ v.k ∧ v.k ≤ 12) ∨ v.k = 14
  e : v.e = 0
  n : (v.k = 1 ∨ v.k = 2 ∨ v.k = 14) ∨ v.n = 0
  s : (3 ≤ v.k ∧ v.k ≤ 6) ∨ v.s = ⟨#[]⟩
  nm : (v.k = 9 ∨ v.k = 12) ∨ v.names = []
  it : (9 ≤ v.k ∧ v.k ≤ 12) ∨ v.items = []
  len : (v.k = 9 ∨ v.k = 12) → v.names.length = v.items.length
  one : v.k = 12 → v.items.length = 1
  big : v.s.size ≤ 200
  rc : v.k = 9 → v.items.length ≤ 16
  most : v.items.length ≤ 40
  names : NamesP v.names
  dbl : ¬ DoubleP v.names
theorem own0 {v : V} (h : ownE v = 0) : Own0 v := by
  unfold ownE at h
  split at h
  · cases h
  rename_i h1
  split at h
  · cases h
  rename_i h2
  split at h
  · cases h
  rename_i h3
  split at h
  · cases h
  rename_i h4
  split at h
  · cases h
  rename_i h5
  split at h
  · cases h
  rename_i h6
  split at h
  · cases h
  rename_i h7
  split at h
  · cases h
  rename_i h8
  clear h h3 h6
  simp only [not_or, not_and, Decidable.not_not] at h1 h2 h4 h5 h7 h8
  obtain ⟨e1, e2, e3, e4, e5⟩ := h2
  exact {
    kind := by omega
    e := e1
    n := (Classical.em (v.k = 1 ∨ v.k = 2 ∨ v.k = 14)).imp id fun hn => e2 (by simpa only [not_or] using hn)
    s := (Classical.em (3 ≤ v.k ∧ v.k ≤ 6)).imp id fun hn => e3 (fun a b => hn ⟨a, b⟩)
    nm := (Classical.em (v.k = 9 ∨ v.k = 12)).imp id fun hn => e4 ⟨fun a => hn (.inl a), fun a => hn (.inr a)⟩
    it := (Classical.em (9 ≤ v.k ∧ v.k ≤ 12)).imp id fun hn => e5 (fun a b => hn ⟨a, b⟩)
    len := fun hk => by have := h4.1 hk; omega
    one := fun hk => by have := h4.2 hk; omega
    big := by omega
    rc := fun hk => by have := h5.2.1 hk; omega
    most := by omega
    names := Classical.not_not.1 h7.2
    dbl := h8 }
theorem ownE_congr {v w : V} (hk : v.k = w.k) (hn : v.n = w.n) (he : v.e = w.e) (hs : v.s = w.s) (hm : v.names = w.names) (hi : v.items.length = w.items.length) (h11 : v.k = 11 → sortedOk v.items = sortedOk w.items) : ownE v = ownE w := by
  have hc : charsOk v = charsOk w := by
    have hP : CharsP v = CharsP w := by
      unfold CharsP
      rw [hs, hk]
    rw [Bool.eq_iff_iff, charsOk_t, charsOk_t, hP]
  have hz : (v.items = []) = (w.items = []) := by rw [← List.length_eq_zero_iff, ← List.length_eq_zero_iff, hi]
  unfold ownE
  by_cases h : v.k = 11
  · have h' : w.k = 11 := by omega
    have := h11 h
    simp only [ne_eq, hk, hn, he, hs, hm, hi, hc, hz, this]
    congr
  · have h' : ¬ w.k = 11 := by omega
    simp only [ne_eq, hk, hn, he, hs, hm, hi, hc, hz, h', false_and]
    congr
structure NodeG (x : Nd) : Prop where
  k : (0 ≤ x.k ∧ x.k ≤ 6) ∨ (9 ≤ x.k ∧ x.k ≤ 11)
  names : NamesP x.names
  dbl : ¬ DoubleP x.names
  ar : arOk x = true
  n : (x.k = 0 ∨ x.k = 1 ∨ x.k = 6) ∨ x.n = 0
  tx : (2 ≤ x.k ∧ x.k ≤ 5) ∨ x.tx = ⟨#[]⟩
  nm : (x.k = 9 ∨ x.k = 11) ∨ x.names = []
  lit : x.k ≤ 6 → valE (litV x) = 0
  lim : ¬ ((x.k = 9 ∧ 16 < x.names.length) ∨ (x.k = 10 ∧ 40 < x.args.length))
theorem sh_args (d : Int) (x : Nd) : (sh d x).args.length = x.args.length := by
  cases x with | mk k n t nm ar => cases ar <;> simp [sh, Nd.args]
theorem NodeG.sh {x : Nd} (h : NodeG x) (d : Int) : NodeG (sh d x) := by
  have e := sh_args d x
  refine ⟨h.k, h.names, h.dbl, ?_, h.n, h.tx, h.nm, h.lit, ?_⟩
  · have ha := h.ar
    unfold arOk at ha ⊢
    rw [e]; exact ha
  · have hl := h.lim
    rw [e]; exact hl
theorem lim_one (v : V) (h : v.items = []) : smallV v 120 = true := by
  have e1 := v.sz_eq
  have e2 := v.dep_eq
  rw [h] at e1 e2
  rw [szL] at e1
  rw [depL] at e2
  exact (smallV_iff v 120).2 ⟨by omega, by omega⟩
theorem valE_leaf {v w : V} (hw : w.items = []) (hv : ownE v = 0) (h : ownE w = ownE v) : valE w = 0 := by
  unfold valE
  rw [if_pos (lim_one w hw), plainE_eq, h, hv, if_neg (by simp), hw]; rfl
theorem arOk_mk {x : Nd} (h : if x.k = 8 then (x.args.length : Int) ∈ opsOf x.tx else if x.k = 9 then x.args.length = x.names.length else if x.k = 10 then True else if x.k = 11 then x.args.length = 1 ∧ x.names.length = 1 else if x.k = 12 then x.args.length = 1 else if x.k = 13 then x.args.length = 2 else x.args.length = 0) : arOk x = true := by
  unfold arOk
  exact decide_eq_true h
theorem namesP_nil : NamesP [] := fun i hi => by simp at hi
theorem double_nil : ¬ DoubleP [] := fun ⟨i, j, _, h, _⟩ => by simp at h
theorem root_good {v : V} (h : ownE v = 0) (l : List Int) (hl : l.length = if leafK v.k = true then 0 else v.items.length) :
    NodeG ⟨(rootV id v.k v.n v.s v.nm).k, (rootV id v.k v.n v.s v.nm).n, (rootV id v.k v.n v.s v.nm).tx, (rootV id v.k v.n v.s v.nm).nm, mkI l⟩ := by
  have ho := own0 h
  have hlen : ∀ k n t nm, (Nd.mk k n t nm (mkI l)).args.length = l.length := fun k n t nm => by show ((mkI l).getD []).length = _; rw [mkI_get]
  have leaf : leafK v.k = true → v.items = [] ∧ v.names = [] := fun hk => by
    simp only [leafK, decide_eq_true_eq] at hk
    exact ⟨ho.it.resolve_left (by omega), ho.nm.resolve_left (by omega)⟩
  have lf : ∀ (k n : Int) (t : ByteArray), leafK v.k = true → (0 ≤ k ∧ k ≤ 6) → ((k = 0 ∨ k = 1 ∨ k = 6) ∨ n = 0) → ((2 ≤ k ∧ k ≤ 5) ∨ t = ⟨#[]⟩) → (∀ ar, (litV ⟨k, n, t, none, ar⟩).k = v.k ∧ (litV ⟨k, n, t, none, ar⟩).n = v.n ∧ (litV ⟨k, n, t, none, ar⟩).e = 0 ∧ (litV ⟨k, n, t, none, ar⟩).s = v.s ∧ (litV ⟨k, n, t, none, ar⟩).names = [] ∧ (litV ⟨k, n, t, none, ar⟩).items = []) → NodeG ⟨k, n, t, none, mkI l⟩ := by
    intro k n t hk hk6 hn ht hlit
    obtain ⟨l1, l2⟩ := leaf hk
    rw [if_pos hk] at hl
    obtain ⟨a1, a2, a3, a4, a5, a6⟩ := hlit (mkI l)
    refine ⟨.inl hk6, namesP_nil, double_nil, arOk_mk ?_, hn, ht, .inr rfl, fun _ => valE_leaf a6 h (ownE_congr a1 a2 (a3.trans ho.e.symm) a4 (a5.trans l2.symm) (by rw [a6, l1]) fun h11 => ?_), ?_⟩
    · rw [hlen]
      show if k = 8 then _ else if k = 9 then _ else if k = 10 then _ else if k = 11 then _ else if k = 12 then _ else if k = 13 then _ else _
      rw [if_neg (by omega), if_neg (by omega), if_neg (by omega), if_neg (by omega), if_neg (by omega), if_neg (by omega)]
      exact hl
    · rw [a1] at h11
      simp only [leafK, decide_eq_true_eq] at hk
      omega
    · show ¬ ((k = 9 ∧ _) ∨ (k = 10 ∧ _))
      omega
  have hkk := ho.kind
  have fromk : ∀ {k : Int}, v.k = k → (k = 1 ∨ k = 2 ∨ k = 3 ∨ k = 4 ∨ k = 5 ∨ k = 6 ∨ k = 14) → leafK v.k = true := fun {k} hk hq => by
    simp only [leafK, decide_eq_true_eq]; omega
  have hs := ho.s
  have hn := ho.n
  unfold rootV
  by_cases k1 : v.k = 1
  · rw [if_pos k1]
    exact lf 1 v.n ⟨#[]⟩ (fromk k1 (by simp)) (by omega) (by simp) (.inr rfl) fun ar => ⟨k1.symm, rfl, rfl, (hs.resolve_left (by omega)).symm, rfl, rfl⟩
  rw [if_neg k1]
  by_cases k2 : v.k = 2
  · rw [if_pos k2]
    exact lf 0 v.n ⟨#[]⟩ (fromk k2 (by simp)) (by omega) (by simp) (.inr rfl) fun ar => ⟨k2.symm, rfl, rfl, (hs.resolve_left (by omega)).symm, rfl, rfl⟩
  rw [if_neg k2]
  by_cases k3 : v.k = 3
  · rw [if_pos k3]
    exact lf 5 0 v.s (fromk k3 (by simp)) (by omega) (.inr rfl) (.inl (by omega)) fun ar => ⟨k3.symm, (hn.resolve_left (by omega)).symm, rfl, rfl, rfl, rfl⟩
  rw [if_neg k3]
  by_cases k4 : v.k = 4
  · rw [if_pos k4]
    exact lf 3 0 v.s (fromk k4 (by simp)) (by omega) (.inr rfl) (.inl (by omega)) fun ar => ⟨k4.symm, (hn.resolve_left (by omega)).symm, rfl, rfl, rfl, rfl⟩
  rw [if_neg k4]
  by_cases k5 : v.k = 5
  · rw [if_pos k5]
    exact lf 4 0 v.s (fromk k5 (by simp)) (by omega) (.inr rfl) (.inl (by omega)) fun ar => ⟨k5.symm, (hn.resolve_left (by omega)).symm, rfl, rfl, rfl, rfl⟩
  rw [if_neg k5]
  by_cases k6 : v.k = 6
  · rw [if_pos k6]
    exact lf 2 0 v.s (fromk k6 (by simp)) (by omega) (.inr rfl) (.inl (by omega)) fun ar => ⟨k6.symm, (hn.resolve_left (by omega)).symm, rfl, rfl, rfl, rfl⟩
  rw [if_neg k6]
  by_cases k14 : v.k = 14
  · rw [if_pos k14]
    exact lf 6 v.n ⟨#[]⟩ (fromk k14 (by simp)) (by omega) (by simp) (.inr rfl) fun ar => ⟨k14.symm, rfl, rfl, (hs.resolve_left (by omega)).symm, rfl, rfl⟩
  rw [if_neg k14]
  have nl : leafK v.k = false := by simp only [leafK, decide_eq_false_iff_not]; omega
  rw [if_neg (by rw [nl]; exact fun h => nomatch h)] at hl
  have hnm : ∀ k n t, (Nd.mk k n t v.nm (mkI l)).names = v.names := fun _ _ _ => rfl
  by_cases k9 : v.k = 9
  · rw [if_pos k9]
    have q1 := ho.len (.inl k9)
    have q2 := ho.rc k9
    refine ⟨.inr ⟨by show (9 : Int) ≤ 9; omega, by show (9 : Int) ≤ 11; omega⟩, ho.names, ho.dbl, arOk_mk ?_, .inr rfl, .inr rfl, .inl (.inl rfl), fun h6 => ?_, ?_⟩
    · show if (9 : Int) = 8 then _ else if (9 : Int) = 9 then (Nd.mk 9 0 ⟨#[]⟩ v.nm (mkI l)).args.length = (Nd.mk 9 0 ⟨#[]⟩ v.nm (mkI l)).names.length else _
      rw [if_neg (by omega), if_pos rfl, hlen, hnm]; omega
    · have h6 : (9 : Int) ≤ 6 := h6
      omega
    · rintro (⟨_, hq⟩ | ⟨hq, _⟩)
      · have hq : 16 < v.names.length := hq
        omega
      · have hq : (9 : Int) = 10 := hq
        omega
  rw [if_neg k9]
  by_cases k12 : v.k = 12
  · rw [if_pos k12]
    have q1 := ho.len (.inr k12)
    have q2 := ho.one k12
    refine ⟨.inr ⟨by show (9 : Int) ≤ 11; omega, by show (11 : Int) ≤ 11; omega⟩, ho.names, ho.dbl, arOk_mk ?_, .inr rfl, .inr rfl, .inl (.inr rfl), fun h6 => ?_, ?_⟩
    · show if (11 : Int) = 8 then _ else if (11 : Int) = 9 then _ else if (11 : Int) = 10 then _ else if (11 : Int) = 11 then (Nd.mk 11 0 ⟨#[]⟩ v.nm (mkI l)).args.length = 1 ∧ (Nd.mk 11 0 ⟨#[]⟩ v.nm (mkI l)).names.length = 1 else _
      rw [if_neg (by omega), if_neg (by omega), if_neg (by omega), if_pos rfl, hlen, hnm]; omega
    · have h6 : (11 : Int) ≤ 6 := h6
      omega
    · rintro (⟨hq, _⟩ | ⟨hq, _⟩)
      · have hq : (11 : Int) = 9 := hq
        omega
      · have hq : (11 : Int) = 10 := hq
        omega
  rw [if_neg k12]
  have q2 := ho.most
  refine ⟨.inr ⟨by show (9 : Int) ≤ 10; omega, by show (10 : Int) ≤ 11; omega⟩, namesP_nil, double_nil, arOk_mk ?_, .inr rfl, .inr rfl, .inr rfl, fun h6 => ?_, ?_⟩
  · show if (10 : Int) = 8 then _ else if (10 : Int) = 9 then _ else if (10 : Int) = 10 then True else _
    rw [if_neg (by omega), if_neg (by omega), if_pos rfl]; trivial
  · have h6 : (10 : Int) ≤ 6 := h6
    omega
  · rintro (⟨hq, _⟩ | ⟨_, hq⟩)
    · have hq : (10 : Int) = 9 := hq
      omega
    · rw [hlen] at hq
      omega
theorem catP_all {P : Nd → Prop} (hP : ∀ d x, P x → P (sh d x)) : ∀ (l : List (List Nd)) (p : Nat), (∀ t ∈ l, ∀ x ∈ t, P x) → ∀ x ∈ catP sh p l, P x
  | [], _, _, x, hx => by simp [catP] at hx
  | t :: l, p, h, x, hx => by
    rw [catP] at hx
    rcases List.mem_append.1 hx with hx | hx
    · obtain ⟨y, hy, rfl⟩ := List.mem_map.1 hx
      exact hP _ _ (h t (List.mem_cons_self ..) y hy)
    · exact catP_all hP l _ (fun u hu => h u (List.mem_cons_of_mem _ hu)) x hx
theorem plainL_items {l : List V} (h : plainL l = 0) : ∀ x ∈ l, plainE x = 0 := by
  induction l with
  | nil => intro x hx; cases hx
  | cons v l ih =>
    intro x hx
    rw [plainL] at h
    split at h
    · rename_i hn; exact absurd h hn
    · rename_i hn
      rcases List.mem_cons.1 hx with rfl | hx
      · exact Decidable.not_not.1 hn
      · exact ih h x hx
theorem plain0 {v : V} (h : plainE v = 0) : ownE v = 0 ∧ ∀ x ∈ v.items, plainE x = 0 := by
  rw [plainE_eq] at h
  split at h
  · rename_i hn; exact absurd h hn
  · rename_i hn; exact ⟨Decidable.not_not.1 hn, plainL_items h⟩
theorem tm_good : ∀ (n : Nat) (v : V), v.sz < n → plainE v = 0 → ∀ x ∈ tm sh id v, NodeG x
  | 0, v, hn, _ => by omega
  | n + 1, v, hn, hp => by
    obtain ⟨h1, h2⟩ := plain0 hp
    intro x hx
    rw [zI8, joinT] at hx
    rcases List.mem_append.1 hx with hx | hx
    · refine catP_all (P := NodeG) (fun d x h => h.sh d) _ _ (fun t ht y hy => ?_) x hx
      split at ht
      · cases ht
      · obtain ⟨w, hw, rfl⟩ := List.mem_map.1 ht
        exact tm_good n w (by have := V.sz_item hw; omega) (h2 w hw) y hy
    · rw [List.mem_singleton] at hx
      subst hx
      refine root_good h1 _ ?_
      rw [rts_len]
      split <;> simp
def RootAt (t : List Nd) : Prop := ∀ (m : Nat) (r : List Int) (rest : List Nd), rootsF (t.map (sh m) ++ rest) m r = rootsF rest (m + t.length) (r ++ [((m + t.length : Nat) : Int) - 1])
theorem roots_cat : ∀ (l : List (List Nd)) (p : Nat) (r : List Int) (rest : List Nd), (∀ t ∈ l, RootAt t) → rootsF (catP sh p l ++ rest) p r = rootsF rest (p + (catP sh p l).length) (r ++ rts p l)
  | [], p, r, rest, _ => by simp [catP, rts]
  | t :: l, p, r, rest, h => by
    rw [catP, List.append_assoc, h t (List.mem_cons_self ..) p r, roots_cat l _ _ _ fun u hu => h u (List.mem_cons_of_mem _ hu)]
    simp only [rts, List.length_append, List.length_map, List.append_assoc, List.singleton_append, Nat.add_assoc]
theorem tm_root : ∀ (n : Nat) (v : V), v.sz < n → RootAt (tm sh id v)
  | 0, v, hn => by omega
  | n + 1, v, hn => by
    intro m r rest
    have hi : ∀ t ∈ (if leafK v.k = true then [] else v.items.map (tm sh id)), RootAt t := fun t ht => by
      split at ht
      · cases ht
      · obtain ⟨w, hw, rfl⟩ := List.mem_map.1 ht
        exact tm_root n w (by have := V.sz_item hw; omega)
    rw [zI8]
    generalize (if leafK v.k = true then [] else v.items.map (tm sh id)) = l at hi
    rw [joinT_sh, List.append_assoc, roots_cat l _ _ _ hi, joinT_len, catP_len sh l 0 m]
    simp only [List.singleton_append, rootsF]
    have hargs : (Nd.mk (rootV id v.k v.n v.s v.nm).k (rootV id v.k v.n v.s v.nm).n (rootV id v.k v.n v.s v.nm).tx (rootV id v.k v.n v.s v.nm).nm (mkI (rts m l))).args = rts m l := mkI_get _
    rw [hargs]
    have hs : stepR (r ++ rts m l) (rts m l) ((m + (catP sh m l).length : Nat) : Int) = some (r ++ [((m + (catP sh m l).length : Nat) : Int)]) := by
      unfold stepR
      have e : (r ++ rts m l).length - (rts m l).length = r.length := by simp
      rw [e, if_pos ⟨by simp, by simp⟩]
      simp
    rw [hs]
    simp only [Nat.add_assoc]
    congr 2
    simp only [List.cons.injEq, and_true]
    omega
theorem tm_pos (v : V) : 1 ≤ (tm sh id v).length := by rw [zI8, joinT_len]; omega
theorem tm_isTerm (v : V) (h : (tm sh id v).length ≤ 200) : isTermS (tm sh id v) = true := by
  have h0 : (tm sh id v).map (sh (0 : Nat)) = tm sh id v := by
    calc (tm sh id v).map (sh (0 : Nat)) = (tm sh id v).map id := List.map_congr_left fun x _ => by
          cases x with | mk k n t nm ar =>
            cases ar with
            | none => rfl
            | some l => simp [sh]
      _ = _ := List.map_id _
  have := tm_root _ v (Nat.lt_succ_self _) 0 [] []
  rw [h0, List.append_nil] at this
  unfold isTermS
  rw [this]
  have := tm_pos v
  simp [rootsF]
  omega
theorem kAt_good {t : List Nd} (h : ∀ x ∈ t, NodeG x) (a : Int) : kAt t a ≠ 14 := by
  unfold kAt
  rw [List.getD_eq_getElem?_getD]
  by_cases ha : a.toNat < t.length
  · rw [List.getElem?_eq_getElem ha, Option.getD_some]
    have := (h _ (List.getElem_mem ha)).k
    omega
  · rw [List.getElem?_eq_none (by omega), Option.getD_none]
    show (0 : Int) ≠ 14
    omega
theorem nodeE_good {t : List Nd} (h : ∀ x ∈ t, NodeG x) {i : Nat} (hi : i < t.length) : nodeE t i = 0 := by
  have hg : NodeG (t.getD i default) := h _ (by simp [List.getD, List.getElem?_eq_getElem hi])
  have hk := hg.k
  have h8 : asksS (t.getD i default) = false := by
    simp only [asksS, Bool.and_eq_false_iff, decide_eq_false_iff_not]
    exact .inl (by omega)
  have hf : frmE t i = 0 := by
    unfold frmE
    rw [if_neg, if_neg, if_neg, if_neg]
    · rw [h8]; exact fun h => nomatch h.1
    · omega
    · rintro ⟨_, a, _, ha⟩; exact kAt_good h a ha
    · rintro (⟨h1, h2⟩ | ⟨h1, h2⟩ | ⟨h1, h2⟩)
      · exact h2 (hg.n.resolve_left h1)
      · exact h2 (hg.tx.resolve_left (by omega))
      · exact h2 (hg.nm.resolve_left h1)
  have hn : nmE (t.getD i default) = 0 := by
    unfold nmE
    rw [if_neg (not_not_intro hg.names), if_neg (by omega), if_neg (by omega)]
  unfold nodeE nodeE2
  rw [if_neg (not_not_intro (by omega)), if_neg (by rw [hn]; exact fun h => h rfl), if_neg (by rw [hg.ar]; exact fun h => nomatch h), if_neg hg.dbl, if_neg (by rw [hf]; exact fun h => h rfl)]
  split
  · rename_i h6; exact hg.lit h6
  · rw [if_neg hg.lim]
theorem chkF_good {t : List Nd} (h : ∀ i, i < t.length → nodeE t i = 0) : ∀ (m i : Nat), i + m = t.length → chkF t m i = (0, 0)
  | 0, _, _ => rfl
  | m + 1, i, hm => by
    rw [chkF, if_neg (by rw [h i (by omega)]; exact fun h => h rfl)]
    exact chkF_good h m (i + 1) (by omega)
theorem tm_right (v : V) (hp : plainE v = 0) (h : (tm sh id v).length ≤ 200) : checkE (tm sh id v) = (0, 0) := by
  unfold checkE
  rw [if_pos (tm_isTerm v h)]
  exact chkF_good (fun i hi => nodeE_good (tm_good _ v (Nat.lt_succ_self _) hp) hi) _ 0 (by omega)
end Go.Proofs.Sx

namespace Go.Proofs.Sx
open Go Go.Proofs Go.Proofs.Am 
variable {gs : List Nat}

end Go.Proofs.Sx

namespace Go.Proofs.Sx
open Go Go.Proofs Go.Proofs.Am 
variable {gs : List Nat}

def idxG {α : Type} (p : α → Bool) : List α → Int
  | [] => -1
  | x :: l => if p x = true then 0 else if idxG p l < 0 then -1 else idxG p l + 1
theorem idxG_none {α : Type} [Inhabited α] {p : α → Bool} : ∀ {l : List α}, (∀ i, i < l.length → p (l.getD i default) = false) → idxG p l = -1
  | [], _ => rfl
  | x :: l, h => by
    have h0 := h 0 (by simp)
    have ih := idxG_none (p := p) (l := l) fun i hi => h (i + 1) (by simpa using hi)
    simp only [idxG]
    rw [if_neg (by simpa using h0), ih, if_pos (by omega)]
theorem idxG_some {α : Type} [Inhabited α] {p : α → Bool} : ∀ {l : List α} {i : Nat}, i < l.length → p (l.getD i default) = true → (∀ j, j < i → p (l.getD j default) = false) → idxG p l = i
  | x :: l, 0, h, h1, h2 => by simp only [idxG]; rw [if_pos (by simpa using h1)]; rfl
  | x :: l, i + 1, h, h1, h2 => by
    have h0 := h2 0 (by omega)
    have ih := idxG_some (p := p) (l := l) (i := i) (by simpa using h) (by simpa using h1) fun j hj => h2 (j + 1) (by omega)
    simp only [idxG]
    rw [if_neg (by simpa using h0), ih, if_neg (by omega)]; simp
theorem idxG_lt {α : Type} (p : α → Bool) : ∀ (l : List α), idxG p l < l.length
  | [] => by simp [idxG]
  | x :: l => by
    have ih := idxG_lt p l
    simp only [idxG, List.length_cons]
    split
    · omega
    · split <;> omega
end Go.Proofs.Sx

namespace Go.Proofs.Sx
open Go Go.Proofs Go.Proofs.Am 
variable {gs : List Nat}

noncomputable def prims : Prims := fun f => if f = 62 then some (fun l => match l with | [.str a, .str b] => if a.size < 4294967281 then some (dRet (.bool (Lib.contains a.data.toList b.data.toList))) else none | _ => none)
  else if f = 106 then some (fun l => match l with | [.str a, .str b] => some (dRet (.int .i64 (Lib.compareBytes a.data.toList b.data.toList))) | _ => none) else none
theorem primsOk : PrimsOk Tryz.prog [0] prims := by
  intro f g ds p hf hp
  unfold prims at hf
  split at hf
  · rename_i h; subst h
    cases hf
    simp only at hp
    split at hp
    · split at hp
      · rename_i hs; cases hp; exact pc39 _ _ hs
      · cases hp
    · cases hp
  · split at hf
    · rename_i h; subst h
      cases hf
      simp only at hp
      split at hp
      · cases hp; exact pc85 _ _
      · cases hp
    · cases hf
theorem run4 : (runs Tryz.prog prims 100 100).pure 4 [] = some (dRet (.bool true)) := by kernel_rfl
theorem pc4 : PureCall Tryz.prog [0] 4 [] (dRet (.bool true)) := pure_of_run mixed primsOk 100 100 run4
noncomputable def e4 : Ent := ⟨4, fun | [] => true | _ => false, fun | [] => .bool true | _ => .inil⟩
theorem ok4 : EntOk Tryz.prog [0] e4 := fun ds h => by
  unfold e4 at h ⊢
  simp only at h ⊢
  split at h
  · exact pc4
  · cases h
end Go.Proofs.Sx

namespace Go.Proofs.Sx
open Go Go.Proofs Go.Proofs.Am 
variable {gs : List Nat}

structure Ru where
  wants : List (Option (List Int))
  alike : Option (List Int)
  res : Int
def opTab : List (ByteArray × Int × Ru × ByteArray) := [(⟨#[110, 111, 116]⟩, 1, ⟨[some [1]], none, 1⟩, ⟨#[98]⟩), (⟨#[97, 110, 100]⟩, 2, ⟨[some [1], some [1]], none, 1⟩, ⟨#[98, 98]⟩), (⟨#[111, 114]⟩, 2, ⟨[some [1], some [1]], none, 1⟩, ⟨#[98, 98]⟩), (⟨#[120, 111, 114]⟩, 2, ⟨[some [1], some [1]], none, 1⟩, ⟨#[98, 98]⟩), (⟨#[110, 111, 116, 52, 98]⟩, 1, ⟨[some [4, 5]], none, -1⟩, ⟨#[52]⟩), (⟨#[97, 110, 100, 52, 98]⟩, 2, ⟨[some [4, 5], some [4, 5]], some [0, 1], -1⟩, ⟨#[52, 52]⟩), (⟨#[111, 114, 52, 98]⟩, 2, ⟨[some [4, 5], some [4, 5]], some [0, 1], -1⟩, ⟨#[52, 52]⟩), (⟨#[120, 111, 114, 52, 98]⟩, 2, ⟨[some [4, 5], some [4, 5]], some [0, 1], -1⟩, ⟨#[52, 52]⟩), (⟨#[61, 61]⟩, 2, ⟨[none, none], some [0, 1], 1⟩, ⟨#[63, 63]⟩), (⟨#[33, 61]⟩, 2, ⟨[none, none], some [0, 1], 1⟩, ⟨#[63, 63]⟩), (⟨#[60]⟩, 2, ⟨[some [2], some [2]], none, 1⟩, ⟨#[105, 105]⟩), (⟨#[62]⟩, 2, ⟨[some [2], some [2]], none, 1⟩, ⟨#[105, 105]⟩), (⟨#[60, 61]⟩, 2, ⟨[some [2], some [2]], none, 1⟩, ⟨#[105, 105]⟩), (⟨#[62, 61]⟩, 2, ⟨[some [2], some [2]], none, 1⟩, ⟨#[105, 105]⟩), (⟨#[38]⟩, 2, ⟨[some [4, 5, 6, 10], some [4, 5, 6, 10]], some [0, 1], -1⟩, ⟨#[115, 115]⟩), (⟨#[60, 60]⟩, 2, ⟨[some [4, 5], some [2]], none, -1⟩, ⟨#[52, 105]⟩), (⟨#[62, 62]⟩, 2, ⟨[some [4, 5], some [2]], none, -1⟩, ⟨#[52, 105]⟩), (⟨#[60, 64]⟩, 2, ⟨[some [4, 5, 6, 10], some [2]], none, -1⟩, ⟨#[115, 105]⟩), (⟨#[64, 62]⟩, 2, ⟨[some [4, 5, 6, 10], some [2]], none, -1⟩, ⟨#[115, 105]⟩), (⟨#[115, 117, 98, 115, 116, 114]⟩, 3, ⟨[some [4, 5, 6, 10], some [2], some [2]], none, -1⟩, ⟨#[115, 105, 105]⟩), (⟨#[114, 101, 112, 108, 97, 99, 101]⟩, 4, ⟨[some [4, 5, 6, 10], some [2], some [2], some [4, 5, 6, 10]], some [0, 3], -1⟩, ⟨#[115, 105, 105, 115]⟩), (⟨#[108, 101, 110, 103, 116, 104, 111, 102]⟩, 1, ⟨[some [4, 5, 6, 10, 11]], none, 2⟩, ⟨#[108]⟩), (⟨#[115, 105, 122, 101, 111, 102]⟩, 1, ⟨[some [9]], none, 2⟩, ⟨#[114]⟩), (⟨#[99, 104, 97, 114, 50, 105, 110, 116]⟩, 1, ⟨[some [6]], none, 2⟩, ⟨#[99]⟩), (⟨#[115, 116, 114, 50, 105, 110, 116]⟩, 1, ⟨[some [6]], none, 2⟩, ⟨#[99]⟩), (⟨#[98, 105, 116, 50, 105, 110, 116]⟩, 1, ⟨[some [4]], none, 2⟩, ⟨#[120]⟩), (⟨#[111, 99, 116, 50, 105, 110, 116]⟩, 1, ⟨[some [5]], none, 2⟩, ⟨#[111]⟩), (⟨#[105, 110, 116, 50, 99, 104, 97, 114]⟩, 1, ⟨[some [2]], none, 6⟩, ⟨#[105]⟩), (⟨#[105, 110, 116, 50, 115, 116, 114]⟩, 1, ⟨[some [2]], none, 6⟩, ⟨#[105]⟩), (⟨#[111, 99, 116, 50, 99, 104, 97, 114]⟩, 1, ⟨[some [5]], none, 6⟩, ⟨#[111]⟩), (⟨#[98, 105, 116, 50, 111, 99, 116]⟩, 1, ⟨[some [4]], none, 5⟩, ⟨#[120]⟩), (⟨#[99, 104, 97, 114, 50, 111, 99, 116]⟩, 1, ⟨[some [6]], none, 5⟩, ⟨#[99]⟩), (⟨#[111, 99, 116, 50, 98, 105, 116]⟩, 1, ⟨[some [5]], none, 4⟩, ⟨#[111]⟩), (⟨#[105, 110, 116, 50, 98, 105, 116]⟩, 2, ⟨[some [2], some [2]], none, 4⟩, ⟨#[105, 105]⟩), (⟨#[105, 110, 116, 50, 111, 99, 116]⟩, 2, ⟨[some [2], some [2]], none, 5⟩, ⟨#[105, 105]⟩), (⟨#[45]⟩, 1, ⟨[some [2], some [2]], none, 2⟩, ⟨#[105]⟩), (⟨#[45]⟩, 2, ⟨[some [2], some [2]], none, 2⟩, ⟨#[105, 105]⟩), (⟨#[43]⟩, 2, ⟨[some [2], some [2]], none, 2⟩, ⟨#[105, 105]⟩), (⟨#[42]⟩, 2, ⟨[some [2], some [2]], none, 2⟩, ⟨#[105, 105]⟩), (⟨#[47]⟩, 2, ⟨[some [2], some [2]], none, 2⟩, ⟨#[105, 105]⟩), (⟨#[114, 101, 109]⟩, 2, ⟨[some [2], some [2]], none, 2⟩, ⟨#[105, 105]⟩), (⟨#[109, 111, 100]⟩, 2, ⟨[some [2], some [2]], none, 2⟩, ⟨#[105, 105]⟩)]
def alE : List ByteArray := [⟨#[61, 61]⟩, ⟨#[33, 61]⟩, ⟨#[97, 110, 100, 52, 98]⟩, ⟨#[111, 114, 52, 98]⟩, ⟨#[120, 111, 114, 52, 98]⟩, ⟨#[38]⟩]
def inB (l : List ByteArray) (s : ByteArray) : Bool := l.any fun x => decide (s = x)
def alikeS (s : ByteArray) : Option (List Int) := if inB alE s = true then some [0, 1] else if s = ⟨#[114, 101, 112, 108, 97, 99, 101]⟩ then some [0, 3] else none
def rg0 : List ByteArray := [⟨#[110, 111, 116, 52, 98]⟩, ⟨#[115, 117, 98, 115, 116, 114]⟩, ⟨#[60, 60]⟩, ⟨#[62, 62]⟩, ⟨#[60, 64]⟩, ⟨#[64, 62]⟩]
def rgA : List ByteArray := [⟨#[97, 110, 100, 52, 98]⟩, ⟨#[111, 114, 52, 98]⟩, ⟨#[120, 111, 114, 52, 98]⟩, ⟨#[38]⟩, ⟨#[114, 101, 112, 108, 97, 99, 101]⟩]
def rgB : List ByteArray := [⟨#[110, 111, 116]⟩, ⟨#[97, 110, 100]⟩, ⟨#[111, 114]⟩, ⟨#[120, 111, 114]⟩, ⟨#[61, 61]⟩, ⟨#[33, 61]⟩, ⟨#[60]⟩, ⟨#[62]⟩, ⟨#[60, 61]⟩, ⟨#[62, 61]⟩]
def rg6 : List ByteArray := [⟨#[105, 110, 116, 50, 99, 104, 97, 114]⟩, ⟨#[105, 110, 116, 50, 115, 116, 114]⟩, ⟨#[111, 99, 116, 50, 99, 104, 97, 114]⟩]
def rg4 : List ByteArray := [⟨#[105, 110, 116, 50, 98, 105, 116]⟩, ⟨#[111, 99, 116, 50, 98, 105, 116]⟩]
def rg5 : List ByteArray := [⟨#[105, 110, 116, 50, 111, 99, 116]⟩, ⟨#[98, 105, 116, 50, 111, 99, 116]⟩, ⟨#[99, 104, 97, 114, 50, 111, 99, 116]⟩]
def resK (s : ByteArray) (ks : List Int) : Int :=
  if inB rg0 s = true then ks.getD 0 0 else if inB rgA s = true then (if ks.getD 0 0 = -1 then ks.getD (ks.length - 1) 0 else ks.getD 0 0) else if inB rgB s = true then 1
  else if inB rg6 s = true then 6 else if inB rg4 s = true then 4 else if inB rg5 s = true then 5 else 2
theorem resA (s : ByteArray) (l : List Int) (h : (inB rgA s && !inB rg0 s) = true) : resK s l = if l.getD 0 0 = -1 then l.getD (l.length - 1) 0 else l.getD 0 0 := by
  simp only [Bool.and_eq_true, Bool.not_eq_true'] at h
  unfold resK; rw [if_neg (by rw [h.2]; exact fun h => nomatch h), if_pos h.1]
end Go.Proofs.Sx

namespace Go.Proofs.Sx
open Go Go.Proofs Go.Proofs.Am 
variable {gs : List Nat}

end Go.Proofs.Sx

namespace Go.Proofs.Sx
open Go Go.Proofs Go.Proofs.Am 
variable {gs : List Nat}

inductive Ch (bg : List Int) : Int → List Int → Prop where
  | nil : Ch bg 0 []
  | cons {next : Int} {rs : List Int} (h0 : 0 < next) (h1 : next ≤ bg.length) (h2 : 0 ≤ bg.getD (next - 1).toNat 0) (h3 : bg.getD (next - 1).toNat 0 < next) (h : Ch bg (bg.getD (next - 1).toNat 0) rs) : Ch bg next (rs ++ [next - 1])
theorem Ch.zero {bg : List Int} {rs : List Int} (h : Ch bg 0 rs) : rs = [] := by
  generalize hz : (0 : Int) = z at h
  cases h with
  | nil => rfl
  | cons h0 => omega
theorem Ch.pos {bg : List Int} {n : Int} {rs : List Int} (h : Ch bg n rs) (hn : n ≠ 0) : ∃ r', rs = r' ++ [n - 1] ∧ 0 < n ∧ n ≤ bg.length ∧ 0 ≤ bg.getD (n - 1).toNat 0 ∧ bg.getD (n - 1).toNat 0 < n ∧ Ch bg (bg.getD (n - 1).toNat 0) r' := by
  cases h with
  | nil => exact absurd rfl hn
  | cons h0 h1 h2 h3 h => exact ⟨_, rfl, h0, h1, h2, h3, h⟩
theorem Ch.mono {bg : List Int} {x : Int} : ∀ {n : Int} {rs : List Int}, Ch bg n rs → Ch (bg ++ [x]) n rs
  | _, _, .nil => .nil
  | _, _, .cons (next := next) h0 h1 h2 h3 h => by
    have e : (bg ++ [x]).getD (next - 1).toNat 0 = bg.getD (next - 1).toNat 0 := by
      have hn : (next - 1).toNat < bg.length := by omega
      rw [List.getD, List.getD, List.getElem?_append_left hn]
    exact .cons h0 (by simp; omega) (by rw [e]; exact h2) (by rw [e]; exact h3) (by rw [e]; exact h.mono)
theorem Ch.push {bg : List Int} {n : Int} {rs : List Int} (h : Ch bg n rs) (h0 : 0 ≤ n) (h1 : n ≤ bg.length) : Ch (bg ++ [n]) (bg.length + 1) (rs ++ [(bg.length : Int)]) := by
  have e : (bg ++ [n]).getD ((bg.length : Int) + 1 - 1).toNat 0 = n := by simp [List.getD]
  have := Ch.cons (bg := bg ++ [n]) (next := bg.length + 1) (rs := rs) (by omega) (by simp) (by rw [e]; exact h0) (by rw [e]; omega) (by rw [e]; exact h.mono)
  simpa using this
theorem Ch.one {bg : List Int} {n : Int} {rs : List Int} (h : Ch bg n rs) (hn : n ≠ 0) : (rs.length = 1) ↔ bg.getD (n - 1).toNat 0 = 0 := by
  obtain ⟨r', rfl, h0, h1, h2, h3, h4⟩ := h.pos hn
  constructor
  · intro hl
    have : r' = [] := by simpa using hl
    subst this
    generalize hz : bg.getD (n - 1).toNat 0 = z at h4
    generalize he : ([] : List Int) = q at h4
    cases h4 with
    | nil => rfl
    | cons => simp at he
  · intro he
    rw [he] at h4
    rw [h4.zero]; rfl
structure Part (bg roots args : List Int) (k : Nat) (next : Int) : Prop where
  kl : k ≤ args.length
  ml : args.length - k ≤ roots.length
  ch : Ch bg next (roots.take (roots.length - (args.length - k)))
  eq : args.drop k = roots.drop (roots.length - (args.length - k))
theorem Part.begin {bg roots args : List Int} {n : Int} (h : Ch bg n roots) : Part bg roots args args.length n :=
  ⟨Nat.le_refl _, by omega, by rw [Nat.sub_self, Nat.sub_zero, List.take_length]; exact h, by rw [Nat.sub_self, Nat.sub_zero, List.drop_length, List.drop_length]⟩
theorem Part.zero {bg roots args : List Int} {k : Nat} {i : Int} (h : Part bg roots args (k + 1) 0) : stepR roots args i = none := by
  have := h.ch.zero
  have hl := congrArg List.length this
  simp at hl
  have h2 := h.kl
  have h3 := h.ml
  unfold stepR
  rw [if_neg]
  rintro ⟨a, _⟩
  omega
theorem Part.last {bg roots args : List Int} {k : Nat} {next : Int} (h : Part bg roots args (k + 1) next) (hn : next ≠ 0) :
    0 < next ∧ next ≤ bg.length ∧ 0 ≤ bg.getD (next - 1).toNat 0 ∧ bg.getD (next - 1).toNat 0 < next ∧ args.length - k ≤ roots.length ∧ roots.getD (roots.length - (args.length - k)) 0 = next - 1 ∧ Ch bg (bg.getD (next - 1).toNat 0) (roots.take (roots.length - (args.length - k))) := by
  have h2 := h.kl
  have h3 := h.ml
  obtain ⟨r', he, h0, h1, h4, h5, h6⟩ := h.ch.pos hn
  have hl := congrArg List.length he
  simp at hl
  have hk : roots.length - (args.length - (k + 1)) = roots.length - (args.length - k) + 1 := by omega
  rw [hk] at he
  have hlt : roots.length - (args.length - k) < roots.length := by omega
  rw [List.take_add_one, List.getElem?_eq_getElem hlt] at he
  have he' : roots.take (roots.length - (args.length - k)) ++ [roots[roots.length - (args.length - k)]] = r' ++ [next - 1] := he
  obtain ⟨e1, e2⟩ := List.append_inj' he' rfl
  refine ⟨h0, h1, h4, h5, by omega, ?_, by rw [e1]; exact h6⟩
  simp only [List.cons.injEq, and_true] at e2
  simp [List.getD, hlt, e2]
theorem Part.step {bg roots args : List Int} {k : Nat} {next : Int} (h : Part bg roots args (k + 1) next) (hn : next ≠ 0) (he : args.getD k 0 = next - 1) : Part bg roots args k (bg.getD (next - 1).toNat 0) := by
  obtain ⟨_, _, _, _, h5, h6, h7⟩ := h.last hn
  have h2 := h.kl
  have h3 := h.eq
  refine ⟨by omega, h5, h7, ?_⟩
  have hk : k < args.length := by omega
  have hlt : roots.length - (args.length - k) < roots.length := by omega
  rw [List.drop_eq_getElem_cons hk, List.drop_eq_getElem_cons hlt]
  have hs : roots.length - (args.length - (k + 1)) = roots.length - (args.length - k) + 1 := by omega
  rw [hs] at h3
  rw [h3]
  congr 1
  simp [List.getD, hk] at he
  simp [List.getD, hlt] at h6
  rw [he, h6]
theorem Part.done {bg roots args : List Int} {next i : Int} (h : Part bg roots args 0 next) : stepR roots args i = some (roots.take (roots.length - args.length) ++ [i]) ∧ Ch bg next (roots.take (roots.length - args.length)) := by
  have h1 := h.ml
  have h2 := h.eq
  have h3 := h.ch
  simp only [List.drop_zero, Nat.sub_zero] at h1 h2 h3
  exact ⟨by unfold stepR; rw [if_pos ⟨h1, h2⟩], h3⟩
structure IsT (l : List Nd) (r : Bool) (i : Nat) (bg : List Int) (rs : List Int) : Prop where
  il : i ≤ l.length
  bl : bg.length = i
  ch : Ch bg i rs
  ok : okRoots l r i rs
theorem Ch.rng {bg : List Int} {n : Int} {rs : List Int} (h : Ch bg n rs) : 0 ≤ n ∧ n ≤ bg.length := by
  cases h with
  | nil => exact ⟨Int.le_refl _, by omega⟩
  | cons h0 h1 h2 h3 h => exact ⟨by omega, h1⟩
theorem IsT.push {l : List Nd} {r : Bool} {p : Nat} {bg rs : List Int} {next : Int} (h : IsT l r p bg rs) (hp : p < l.length) (hP : Part bg rs (l.getD p default).args 0 next) : ∃ rs', IsT l r (p + 1) (bg ++ [next]) rs' := by
  obtain ⟨e1, e2⟩ := hP.done (i := (p : Int))
  have hr := e2.rng
  have hb := h.bl
  have hpu := e2.push hr.1 hr.2
  rw [hb] at hpu
  have hro := h.ok.2
  rw [rootsF_step rs hp, e1] at hro
  refine ⟨_, ⟨by omega, by rw [List.length_append, hb]; rfl, by rw [show ((p + 1 : Nat) : Int) = (p : Int) + 1 from by omega]; exact hpu, ⟨?_, hro⟩⟩⟩
  have := h.ok.1
  rw [List.length_append, List.length_take, List.length_singleton]; omega
theorem IsT.fail {l : List Nd} {r : Bool} {p : Nat} {bg rs : List Int} (h : IsT l r p bg rs) (hp : p < l.length) (hs : stepR rs (l.getD p default).args p = none) : r = false := by
  have hro := h.ok.2
  rw [rootsF_step rs hp, hs] at hro
  exact hro
theorem IsT.done {l : List Nd} {r : Bool} {p : Nat} {bg rs : List Int} (h : IsT l r p bg rs) (hp : p = l.length) (h0 : p ≠ 0) : r = decide (bg.getD (p - 1) 0 = 0) := by
  have hro := h.ok.2
  rw [List.drop_eq_nil_of_le (by omega), rootsF] at hro
  have h1 := h.ch.one (by omega)
  rw [show ((p : Int) - 1).toNat = p - 1 from by omega] at h1
  rw [hro]
  exact decide_eq_decide.2 h1
end Go.Proofs.Sx

namespace Go.Proofs.Sx
open Go Go.Proofs Go.Proofs.Am 
variable {gs : List Nat}

theorem memI {l : List Int} {i : Nat} (h : i < l.length) : l.getD i 0 ∈ l := by simp [List.getD, h]
end Go.Proofs.Sx

namespace Go.Proofs.Sx
open Go Go.Proofs Go.Proofs.Am 
variable {gs : List Nat}

def lookT (s : ByteArray) (n : Int) : Option (ByteArray × Int × Ru × ByteArray) := opTab.find? fun p => decide (p.1 = s) && decide (p.2.1 = n)
theorem lookT_mem {s : ByteArray} {n : Int} {p : ByteArray × Int × Ru × ByteArray} (h : lookT s n = some p) : p ∈ opTab ∧ p.1 = s ∧ p.2.1 = n := by
  have h1 := List.mem_of_find?_eq_some h
  have h2 := List.find?_some h
  simp only [Bool.and_eq_true, decide_eq_true_eq] at h2
  exact ⟨h1, h2.1, h2.2⟩
structure AppP (t : List Nd) (wk ks : List Int) : Prop where
  ib : ks.length < t.length
  k8 : (t.getD ks.length default).k = 8
  av : asksS (t.getD ks.length default) = true → 0 < (t.getD ks.length default).args.length ∧ 0 ≤ (t.getD ks.length default).args.getD 0 0 ∧ (t.getD ks.length default).args.getD 0 0 < t.length ∧
    0 < (t.getD ((t.getD ks.length default).args.getD 0 0).toNat default).args.length ∧ 0 ≤ (t.getD ((t.getD ks.length default).args.getD 0 0).toNat default).args.getD 0 0 ∧ (t.getD ((t.getD ks.length default).args.getD 0 0).toNat default).args.getD 0 0 < ks.length
  na : asksS (t.getD ks.length default) = false → (lookT (t.getD ks.length default).tx wk.length).isSome = true ∧ 0 < wk.length ∧ (∀ l, alikeS (t.getD ks.length default).tx = some l → l.length = 2 ∧ 0 ≤ l.getD 0 0 ∧ l.getD 0 0 < wk.length ∧ 0 ≤ l.getD 1 0 ∧ l.getD 1 0 < wk.length)
end Go.Proofs.Sx

namespace Go.Proofs.Sx
open Go Go.Proofs Go.Proofs.Am 
variable {gs : List Nat}

def opK (ks : List Int) (x : Nd) : List Int := x.args.map fun a => ks.getD a.toNat 0
structure KinP (t : List Nd) (ks : List Int) : Prop where
  ib : ks.length < t.length
  kk : 0 ≤ (t.getD ks.length default).k ∧ (t.getD ks.length default).k ≤ 14
  ar : InT ks.length (t.getD ks.length default).args
  a12 : (t.getD ks.length default).k = 12 → 0 < (t.getD ks.length default).args.length
  a13 : (t.getD ks.length default).k = 13 → 1 < (t.getD ks.length default).args.length
  a8 : (t.getD ks.length default).k = 8 → AppP t (opK ks (t.getD ks.length default)) ks
  n8 : (t.getD ks.length default).k = 8 → 0 < (t.getD ks.length default).args.length
end Go.Proofs.Sx

namespace Go.Proofs.Sx
open Go Go.Proofs Go.Proofs.Am 
variable {gs : List Nat}

end Go.Proofs.Sx

namespace Go.Proofs.Sx
open Go Go.Proofs Go.Proofs.Am 
variable {gs : List Nat}

end Go.Proofs.Sx

namespace Go.Proofs.Sx
open Go Go.Proofs Go.Proofs.Am 
variable {gs : List Nat}

theorem chkF_zero {l : List Nd} : ∀ (m i : Nat), (chkF l m i).2 = 0 → ∀ j, i ≤ j → j < i + m → nodeE l j = 0
  | 0, i, h, j, h1, h2 => by omega
  | m + 1, i, h, j, h1, h2 => by
    unfold chkF at h
    by_cases he : nodeE l i = 0
    · rw [if_neg (fun hh => hh he)] at h
      by_cases hj : j = i
      · rw [hj]; exact he
      · exact chkF_zero m (i + 1) h j (by omega) (by omega)
    · rw [if_pos he] at h; exact absurd h he
structure RightT (t : List Nd) : Prop where
  tm : isTermS t = true
  nl : 0 < t.length
  ll : t.length ≤ 200
  low : ∀ j, j < t.length → Low (t.getD j default).args j
  kk : ∀ j, j < t.length → 0 ≤ (t.getD j default).k ∧ (t.getD j default).k ≤ 14
  nm : ∀ j, j < t.length → nmE (t.getD j default) = 0
  ar : ∀ j, j < t.length → arOk (t.getD j default) = true
  db : ∀ j, j < t.length → ¬ DoubleP (t.getD j default).names
  fm : ∀ j, j < t.length → frmE t j = 0
  lt : ∀ j, j < t.length → (t.getD j default).k ≤ 6 → valE (litV (t.getD j default)) = 0
  lg : ∀ j, j < t.length → ¬ (((t.getD j default).k = 9 ∧ 16 < (t.getD j default).names.length) ∨ ((t.getD j default).k = 10 ∧ 40 < (t.getD j default).args.length))
theorem nodeE_zero {l : List Nd} {i : Nat} (h : nodeE l i = 0) : (0 ≤ (l.getD i default).k ∧ (l.getD i default).k ≤ 14) ∧ nmE (l.getD i default) = 0 ∧ arOk (l.getD i default) = true ∧ ¬ DoubleP (l.getD i default).names ∧ frmE l i = 0 ∧
    ((l.getD i default).k ≤ 6 → valE (litV (l.getD i default)) = 0) ∧ ¬ (((l.getD i default).k = 9 ∧ 16 < (l.getD i default).names.length) ∨ ((l.getD i default).k = 10 ∧ 40 < (l.getD i default).args.length)) := by
  unfold nodeE at h
  split at h
  · cases h
  rename_i h1
  split at h
  · rename_i h2; exact absurd h h2
  rename_i h2
  split at h
  · cases h
  rename_i h3
  unfold nodeE2 at h
  split at h
  · cases h
  rename_i h4
  split at h
  · rename_i h5; exact absurd h h5
  rename_i h5
  refine ⟨Decidable.not_not.1 h1, Decidable.not_not.1 h2, by simpa using h3, h4, Decidable.not_not.1 h5, fun hk => ?_, fun hc => ?_⟩
  · rw [if_pos hk] at h; exact h
  · rw [if_neg (by omega), if_pos hc] at h; cases h
theorem rightT {t : List Nd} (h : (checkE t).2 = 0) : RightT t := by
  unfold checkE at h
  split at h
  · rename_i ht
    have hz := chkF_zero _ _ h
    have hl : 1 ≤ t.length ∧ t.length ≤ 200 := by
      unfold isTermS at ht
      rw [Bool.and_eq_true] at ht
      exact of_decide_eq_true ht.1
    have low : ∀ j, j < t.length → Low (t.getD j default).args j := by
      intro j hj
      unfold isTermS at ht
      rw [Bool.and_eq_true] at ht
      have h2 := ht.2
      split at h2
      · rename_i q hq
        have := rootsF_low t 0 [] q (fun x hx => by cases hx) hq j hj
        rwa [Nat.zero_add] at this
      · cases h2
    have n := fun j (hj : j < t.length) => nodeE_zero (hz j (by omega) (by omega))
    exact ⟨ht, by omega, by omega, low, fun j hj => (n j hj).1, fun j hj => (n j hj).2.1, fun j hj => (n j hj).2.2.1, fun j hj => (n j hj).2.2.2.1, fun j hj => (n j hj).2.2.2.2.1, fun j hj => (n j hj).2.2.2.2.2.1, fun j hj => (n j hj).2.2.2.2.2.2⟩
  · cases h
/-! ## A node is an operand once -/
theorem rootsF_not {x : Int} : ∀ (l : List Nd) (i : Nat) (r q : List Int), x ∉ r → x < i → rootsF l i r = some q → ∀ j, j < l.length → x ∉ (l.getD j default).args
  | [], i, r, q, h, hx, hq, j, hj => by simp at hj
  | y :: l, i, r, q, h, hx, hq, j, hj => by
    simp only [rootsF] at hq
    split at hq
    · rename_i r' hr'
      unfold stepR at hr'
      split at hr'
      · rename_i hc
        cases hr'
        cases j with
        | zero =>
          intro hm
          have hm : x ∈ y.args := by simpa using hm
          rw [hc.2] at hm
          exact h (List.mem_of_mem_drop hm)
        | succ j =>
          have := rootsF_not l (i + 1) _ q (fun hm => by
            rcases List.mem_append.1 hm with hm | hm
            · exact h (List.mem_of_mem_take hm)
            · rw [List.mem_singleton] at hm; omega) (by omega) hq j (by simpa using hj)
          simpa using this
      · cases hr'
    · cases hq
theorem nodup_take_drop {x : Int} {r : List Int} {n : Nat} (h : r.Nodup) (h1 : x ∈ r.drop n) (h2 : x ∈ r.take n) : False := by
  rw [← List.take_append_drop n r, List.nodup_append] at h
  exact h.2.2 x h2 x h1 rfl
theorem rootsF_one {x : Int} : ∀ (l : List Nd) (i : Nat) (r q : List Int), r.Nodup → Low r i → rootsF l i r = some q → ∀ j k, j < k → k < l.length → x ∈ (l.getD j default).args → x ∉ (l.getD k default).args
  | [], i, r, q, h, hlow, hq, j, k, hj, hk => by simp at hk
  | y :: l, i, r, q, h, hlow, hq, j, k, hj, hk => by
    simp only [rootsF] at hq
    split at hq
    · rename_i r' hr'
      unfold stepR at hr'
      split at hr'
      · rename_i hc
        cases hr'
        cases k with
        | zero => omega
        | succ k =>
          have hk : k < l.length := by simpa using hk
          cases j with
          | zero =>
            intro hm
            have hm : x ∈ y.args := by simpa using hm
            rw [hc.2] at hm
            have hxi := hlow x (List.mem_of_mem_drop hm)
            have := rootsF_not l (i + 1) _ q (x := x) (fun hm2 => by
              rcases List.mem_append.1 hm2 with hm2 | hm2
              · exact nodup_take_drop h hm hm2
              · rw [List.mem_singleton] at hm2; omega) (by omega) hq k hk
            simpa using this
          | succ j =>
            have hlow' : Low (r.take (r.length - y.args.length) ++ [(i : Int)]) (i + 1) := by
              intro z hz
              rcases List.mem_append.1 hz with hz | hz
              · have := hlow z (List.mem_of_mem_take hz); omega
              · rw [List.mem_singleton] at hz; omega
            have hnd : (r.take (r.length - y.args.length) ++ [(i : Int)]).Nodup := by
              rw [List.nodup_append]
              refine ⟨h.sublist (List.take_sublist _ _), by simp, fun a ha b hb => ?_⟩
              rw [List.mem_singleton] at hb
              have := hlow a (List.mem_of_mem_take ha)
              omega
            have := rootsF_one (x := x) l (i + 1) _ q hnd hlow' hq j k (by omega) hk
            simpa using this
      · cases hr'
    · cases hq
theorem RightT.one {t : List Nd} (h : RightT t) {j k : Nat} {x : Int} (hj : j < t.length) (hk : k < t.length) (h1 : x ∈ (t.getD j default).args) (h2 : x ∈ (t.getD k default).args) : j = k := by
  have ht := h.tm
  unfold isTermS at ht
  rw [Bool.and_eq_true] at ht
  have ht := ht.2
  split at ht
  · rename_i q hq
    rcases Nat.lt_trichotomy j k with hlt | heq | hlt
    · exact absurd h2 (rootsF_one t 0 [] q List.nodup_nil (fun x hx => by cases hx) hq j k hlt hk h1)
    · exact heq
    · exact absurd h1 (rootsF_one t 0 [] q List.nodup_nil (fun x hx => by cases hx) hq k j hlt hj h2)
  · cases ht
/-! ## What the parts of the reference ask for -/
theorem tabU : (opsU.all fun s => decide (s = wIsp) || decide (s = wIsc) || (lookT s 1).isSome) = true := by kernel_rfl
theorem tabM : ((lookT ⟨#[45]⟩ 1).isSome && (lookT ⟨#[45]⟩ 2).isSome) = true := by kernel_rfl
theorem tabB : (opsB.all fun s => (lookT s 2).isSome) = true := by kernel_rfl
theorem tabW : ((lookT opsW3 3).isSome && (lookT opsW4 4).isSome) = true := by kernel_rfl
theorem look_opsOf {s : ByteArray} {n : Int} (h : n ∈ opsOf s) (h1 : s ≠ wIsp) (h2 : s ≠ wIsc) : (lookT s n).isSome = true := by
  have hM := tabM
  have hW := tabW
  rw [Bool.and_eq_true] at hM hW
  unfold opsOf at h
  split at h
  · rename_i hs
    have := List.all_eq_true.1 tabU s hs
    simp only [Bool.or_eq_true, decide_eq_true_eq] at this
    rw [List.mem_singleton] at h
    subst h
    rcases this with (this | this) | this
    · exact absurd this h1
    · exact absurd this h2
    · exact this
  split at h
  · rename_i hs
    subst hs
    simp only [List.mem_cons, List.not_mem_nil, or_false] at h
    rcases h with rfl | rfl
    · exact hM.1
    · exact hM.2
  split at h
  · rename_i hs
    rw [List.mem_singleton] at h
    subst h
    exact List.all_eq_true.1 tabB s hs
  split at h
  · rename_i hs
    rw [List.mem_singleton] at h
    subst h hs
    exact hW.1
  split at h
  · rename_i hs
    rw [List.mem_singleton] at h
    subst h hs
    exact hW.2
  · cases h
theorem tabA : (opTab.all fun p => match alikeS p.1 with | none => true | some l => decide (l.length = 2) && decide (0 ≤ l.getD 0 0) && decide (l.getD 0 0 < p.2.1) && decide (0 ≤ l.getD 1 0) && decide (l.getD 1 0 < p.2.1)) = true := by kernel_rfl
theorem opsOf_pos {s : ByteArray} {n : Int} (h : n ∈ opsOf s) : 1 ≤ n := by
  unfold opsOf at h
  repeat (first | (split at h) | (simp at h; omega) | (cases h; done))
theorem RightT.arO {t : List Nd} (h : RightT t) {i : Nat} (hi : i < t.length) : if (t.getD i default).k = 8 then ((t.getD i default).args.length : Int) ∈ opsOf (t.getD i default).tx else if (t.getD i default).k = 9 then (t.getD i default).args.length = (t.getD i default).names.length else if (t.getD i default).k = 10 then True else if (t.getD i default).k = 11 then (t.getD i default).args.length = 1 ∧ (t.getD i default).names.length = 1 else if (t.getD i default).k = 12 then (t.getD i default).args.length = 1 else if (t.getD i default).k = 13 then (t.getD i default).args.length = 2 else (t.getD i default).args.length = 0 := by
  have := h.ar i hi
  unfold arOk at this
  exact of_decide_eq_true this
theorem RightT.a12 {t : List Nd} (h : RightT t) {i : Nat} (hi : i < t.length) (hk : (t.getD i default).k = 12) : (t.getD i default).args.length = 1 := by
  have := h.arO hi
  rw [hk] at this
  simpa using this
theorem RightT.a13 {t : List Nd} (h : RightT t) {i : Nat} (hi : i < t.length) (hk : (t.getD i default).k = 13) : (t.getD i default).args.length = 2 := by
  have := h.arO hi
  rw [hk] at this
  simpa using this
theorem RightT.a8 {t : List Nd} (h : RightT t) {i : Nat} (hi : i < t.length) (hk : (t.getD i default).k = 8) : ((t.getD i default).args.length : Int) ∈ opsOf (t.getD i default).tx := by
  have := h.arO hi
  rw [if_pos hk] at this
  exact this
theorem asks_no {x : Nd} (h : asksS x = false) (hk : x.k = 8) : x.tx ≠ wIsp ∧ x.tx ≠ wIsc := by
  constructor
  · intro he; unfold asksS at h; rw [hk, he] at h; simp at h
  · intro he; unfold asksS at h; rw [hk, he] at h; simp at h
theorem RightT.asks {t : List Nd} (h : RightT t) {i : Nat} (hi : i < t.length) (ha : asksS (t.getD i default) = true) : (t.getD i default).args.length = 1 ∧ kAt t ((t.getD i default).args.getD 0 0) = 12 := by
  refine ⟨asks_args ha (h.ar i hi), ?_⟩
  have hf := h.fm i hi
  unfold frmE at hf
  split at hf
  · cases hf
  split at hf
  · cases hf
  split at hf
  · cases hf
  split at hf
  · cases hf
  · rename_i h4
    by_cases hk : kAt t ((t.getD i default).args.getD 0 0) = 12
    · exact hk
    · exact absurd ⟨ha, hk⟩ h4
theorem Low.get {rs : List Int} {i : Nat} (h : Low rs i) {j : Nat} (hj : j < rs.length) : 0 ≤ rs.getD j 0 ∧ rs.getD j 0 < i := by
  refine h _ ?_
  simp [List.getD, hj]
theorem RightT.app {t : List Nd} (h : RightT t) {wk ks : List Int} (hi : ks.length < t.length) (hk : (t.getD ks.length default).k = 8) (hw : wk.length = (t.getD ks.length default).args.length) : AppP t wk ks := {
  ib := hi
  k8 := hk
  av ha := by
    obtain ⟨h1, h2⟩ := h.asks hi ha
    have h3 := (h.low _ hi).get (j := 0) (by omega)
    have hlt : ((t.getD ks.length default).args.getD 0 0).toNat < t.length := by omega
    have h4 := h.a12 hlt h2
    have h5 := (h.low _ hlt).get (j := 0) (by omega)
    refine ⟨by omega, h3.1, by omega, by omega, h5.1, by omega⟩
  na ha := by
    have h1 := h.a8 hi hk
    obtain ⟨h2, h3⟩ := asks_no ha hk
    have h4 := look_opsOf h1 h2 h3
    have h5 := opsOf_pos h1
    refine ⟨by rw [hw]; exact h4, by omega, fun l hl => ?_⟩
    obtain ⟨p, hp⟩ := Option.isSome_iff_exists.1 h4
    obtain ⟨q1, q2, q3⟩ := lookT_mem hp
    have := List.all_eq_true.1 tabA p q1
    rw [q2, hl, q3] at this
    simp only [Bool.and_eq_true, decide_eq_true_eq] at this
    obtain ⟨⟨⟨⟨b1, b2⟩, b3⟩, b4⟩, b5⟩ := this
    refine ⟨b1, b2, by omega, b4, by omega⟩ }
end Go.Proofs.Sx

namespace Go.Proofs.Sx
open Go Go.Proofs Go.Proofs.Am 
variable {gs : List Nat}

structure Evx where
  t : Option (List Nd)
  en : Option (List B)
  at_ : Int
instance : Inhabited Evx := ⟨⟨none, none, 0⟩⟩
def encE (x : Evx) : DV := .agg [encT x.t, encBs x.en, .int .i64 x.at_]
theorem encE_inj {a b : Evx} (h : encE a = encE b) : a = b := by
  simp only [encE, DV.agg.injEq, List.cons.injEq, DV.int.injEq, true_and, and_true] at h
  obtain ⟨h1, h2, h3⟩ := h
  cases a; cases b
  simp only at h1 h2 h3
  rw [encT_inj h1, encBs_inj h2, h3]
def okE (x : Evx) : Prop := okT x.t ∧ okBs x.en
def isE (d : DV) : Prop := ∃ o, d = encE o ∧ okE o
open Classical in
noncomputable def toE (d : DV) : Evx := if h : ∃ v, d = encE v then Classical.choose h else default
theorem zE7 (v : Evx) : toE (encE v) = v := by
  have h : ∃ w, encE v = encE w := ⟨v, rfl⟩
  unfold toE
  rw [dif_pos h]
  exact encE_inj (Classical.choose_spec h).symm
theorem zF2 (v : Evx) : isE (encE v) = okE v := by
  apply propext
  constructor
  · rintro ⟨w, h1, h2⟩; rw [encE_inj h1]; exact h2
  · intro h; exact ⟨v, rfl, h⟩
theorem zD5 (x : Evx) : (encE x).cells = [encT x.t, encBs x.en, .int .i64 x.at_] := rfl
theorem zD4 (x : Evx) : dIsAgg (encE x) = true := rfl
theorem zE0 (x : Evx) : dlV 3 true (encE x) 0 = encE x := dlV_whole 3 _ rfl
def flt (a c : Int) : DV := .iface 75 (.agg [.int .i64 a, .int .i64 c])
theorem zD6 (a c : Int) : scalarD (flt a c) = true := rfl
def mustO (b : Bool) (a c : Int) : Oc := if b = true then .ok (.tup []) else .pan (flt a c)
theorem zE9 (a c : Int) : mustO true a c = .ok (.tup []) := rfl
theorem zF0 (a c : Int) : mustO false a c = .pan (flt a c) := rfl
theorem zD8 (d : DV) : Oc.isPan (.ok d) = false := rfl
theorem zD7 (d : DV) : Oc.isPan (.pan d) = true := rfl
theorem zF1 (d : DV) : Oc.isOk (.ok d) = true := rfl
theorem zD9 (d : DV) : Oc.isOk (.pan d) = false := rfl
theorem zG1 (d : DV) : Oc.val (.ok d) = d := rfl
theorem zE8 (d : DV) : Oc.val (.pan d) = d := rfl
theorem qD : type_of% (And.intro @zE9 (And.intro @zF0 (And.intro @zD8 (And.intro @zD7 (And.intro @zF1 (And.intro @zD9 (And.intro @zG1 (And.intro @zE8 (And.intro @zD6 (And.intro @zD5 (And.intro @zD4 (And.intro @zD3 (And.intro @zF2 (And.intro @zE7 @zE0)))))))))))))) :=
  (And.intro @zE9 (And.intro @zF0 (And.intro @zD8 (And.intro @zD7 (And.intro @zF1 (And.intro @zD9 (And.intro @zG1 (And.intro @zE8 (And.intro @zD6 (And.intro @zD5 (And.intro @zD4 (And.intro @zD3 (And.intro @zF2 (And.intro @zE7 @zE0))))))))))))))
theorem pc99 (x : Evx) (c : Int) (hx : okE x) : OcCall Tryz.prog [0] 99 [encE x, .int .i64 c] (.pan (flt x.at_ c)) := by
  refine oc_of_tree mixed fn99 (Nat.le_of_ble_eq_true rfl) (Nat.lt_of_succ_le (Nat.le_of_ble_eq_true rfl)) (sfOk .nil) TbOk (lv := lv0) fun I F hI hF => ?_
  refine zE2 fun C hC => ?_
  generalize Q0 : encE x = Z0
  generalize Q1 : DV.int .i64 c = Z1
  cbv
  subst Q0 Q1
  subst hC
  refine ⟨?_⟩
  simp (maxSteps:=9999999) only [hI, hF, std]
  simp only [smp, smo, lookOk, lookRes, sfOf, ↓reduceIte, Nat.reduceEqDiff, reduceCtorEq, qB, qD]
  exact ⟨rfl, rfl, rfl⟩
open Classical in
noncomputable def e99 : Ent := ⟨99, fun | [d_x, .int .i64 c] => decide (isE d_x) && Oc.isOk (.pan (flt (toE d_x).at_ c)) | _ => false, fun | [d_x, .int .i64 c] => Oc.val (.pan (flt (toE d_x).at_ c)) | _ => .inil⟩
open Classical in
noncomputable def p99 : PEnt := ⟨99, fun | [d_x, .int .i64 c] => decide (isE d_x) && (Oc.isPan (.pan (flt (toE d_x).at_ c)) && scalarD (Oc.val (.pan (flt (toE d_x).at_ c)))) | _ => false, fun | [d_x, .int .i64 c] => Oc.val (.pan (flt (toE d_x).at_ c)) | _ => .inil⟩
open Classical in
theorem ok99 : EntOk Tryz.prog [0] e99 := fun ds h => by
  unfold e99 at h ⊢
  simp only at h ⊢
  split at h
  · rw [Bool.and_eq_true, decide_eq_true_iff] at h
    obtain ⟨h, ho⟩ := h
    obtain ⟨v0, rfl, k0⟩ := h
    simp only [zB2, zA4, zA5, zE7] at ho ⊢
    exact oc_ok (pc99 _ _ k0) ho
  · cases h
open Classical in
theorem pk99 : PEntOk Tryz.prog [0] p99 := fun ds h => by
  unfold p99 at h ⊢
  simp only at h ⊢
  split at h
  · rw [Bool.and_eq_true, decide_eq_true_iff] at h
    obtain ⟨h, ho⟩ := h
    obtain ⟨v0, rfl, k0⟩ := h
    simp only [zB2, zA4, zA5, zE7] at ho ⊢
    rw [Bool.and_eq_true] at ho
    exact ⟨oc_pan (pc99 _ _ k0) ho.1, ho.2⟩
  · cases h
def TbP50T : BT := (.node 3000099 ⟨none, .other, [], none⟩ .nil .nil)
def TbP50 : Nat → Option TRow := orT TbP50T.get Tb
theorem TbP50Ok : TabOk Tryz.prog TbP50 := tabOk_or (zI2 (by kernel_rfl)) TbOk
theorem pc76 (x : Evx) (b : Bool) (c : Int) (hx : okE x) : OcCall Tryz.prog [0] 71 [encE x, .bool b, .int .i64 c] (mustO b x.at_ c) := by
  unfold mustO
  refine oc_of_tree mixed fn76 (Nat.le_of_ble_eq_true rfl) (Nat.lt_of_succ_le (Nat.le_of_ble_eq_true rfl)) (sfOkP (.cons ok99 .nil) (.cons pk99 .nil)) TbP50Ok (lv := lv0) fun I F hI hF => ?_
  refine zE2 fun C hC => ?_
  generalize Q0 : encE x = Z0
  generalize Q1 : DV.bool b = Z1
  generalize Q2 : DV.int .i64 c = Z2
  cbv
  subst Q0 Q1 Q2
  subst hC
  refine ⟨?_⟩
  simp (maxSteps:=9999999) only [hI, hF, std]
  simp only [smp, smo, lookPn, lookPd, sfOfP, lookOk, lookRes, sfOf, ↓reduceIte, Nat.reduceEqDiff, reduceCtorEq, qB, qD, e99, p99]
  cases b <;> simp [qD, hx, Oc.isPan, Oc.isOk, Oc.val, zD6]
open Classical in
noncomputable def e76 : Ent := ⟨71, fun | [d_x, .bool b, .int .i64 c] => decide (isE d_x) && Oc.isOk (mustO b (toE d_x).at_ c) | _ => false, fun | [d_x, .bool b, .int .i64 c] => Oc.val (mustO b (toE d_x).at_ c) | _ => .inil⟩
open Classical in
noncomputable def p76 : PEnt := ⟨71, fun | [d_x, .bool b, .int .i64 c] => decide (isE d_x) && (Oc.isPan (mustO b (toE d_x).at_ c) && scalarD (Oc.val (mustO b (toE d_x).at_ c))) | _ => false, fun | [d_x, .bool b, .int .i64 c] => Oc.val (mustO b (toE d_x).at_ c) | _ => .inil⟩
open Classical in
theorem ok76 : EntOk Tryz.prog [0] e76 := fun ds h => by
  unfold e76 at h ⊢
  simp only at h ⊢
  split at h
  · rw [Bool.and_eq_true, decide_eq_true_iff] at h
    obtain ⟨h, ho⟩ := h
    obtain ⟨v0, rfl, k0⟩ := h
    simp only [zB2, zA4, zA5, zE7] at ho ⊢
    exact oc_ok (pc76 _ _ _ k0) ho
  · cases h
open Classical in
theorem pk76 : PEntOk Tryz.prog [0] p76 := fun ds h => by
  unfold p76 at h ⊢
  simp only at h ⊢
  split at h
  · rw [Bool.and_eq_true, decide_eq_true_iff] at h
    obtain ⟨h, ho⟩ := h
    obtain ⟨v0, rfl, k0⟩ := h
    simp only [zB2, zA4, zA5, zE7] at ho ⊢
    rw [Bool.and_eq_true] at ho
    exact ⟨oc_pan (pc76 _ _ _ k0) ho.1, ho.2⟩
  · cases h
end Go.Proofs.Sx

namespace Go.Proofs.Sx
open Go Go.Proofs Go.Proofs.Am 
variable {gs : List Nat}

theorem pc98 (b : B) (s : ByteArray) (hb : okB0 b) : PureCall Tryz.prog [0] 98 [encB b, .pim [.str s] 0 0] (dRet (.bool (decide (b.nm = s)))) := by
  refine zD0 mixed fn98 (Nat.le_of_ble_eq_true rfl) (Nat.lt_of_succ_le (Nat.le_of_ble_eq_true rfl)) (sfOk .nil) TbOk (lv := lv0) fun I F hI hF => ?_
  refine zE2 fun C hC => ?_
  generalize Q0 : encB b = Z0
  generalize Q1 : DV.str s = Z1
  cbv
  subst Q0 Q1
  subst hC
  refine ⟨?_⟩
  simp (maxSteps:=9999999) only [hI, hF, std]
  simp only [smp, smo, lookOk, lookRes, sfOf, ↓reduceIte, Nat.reduceEqDiff, reduceCtorEq, qA, qC]
  simp
open Classical in
noncomputable def e98 : Ent := ⟨98, fun | [d_b, .pim [.str s] 0 0] => decide (isB0 d_b) | _ => false, fun | [d_b, .pim [.str s] 0 0] => .bool (decide ((toB d_b).nm = s)) | _ => .inil⟩
open Classical in
theorem ok98 : EntOk Tryz.prog [0] e98 := fun ds h => by
  unfold e98 at h ⊢
  simp only at h ⊢
  split at h
  · rw [decide_eq_true_iff] at h
    obtain ⟨v0, rfl, k0⟩ := h
    simp only [zB2, zA4, zA5, zG2, zF6]
    exact pc98 _ _ k0
  · cases h
def lv40f : Nat → List Nat × List Nat
  | 2 => ([0, 1, 7, 8], [])
  | _ => ([], [])
theorem pc40f (o : Option (List B)) (s : ByteArray) (ho : okBs o) : PureCall Tryz.prog [0] 63 [encBs o, .fn 98 [.pim [.str s] 0 0]] (dRet (.int .i64 (idxG (fun b => decide (b.nm = s)) (o.getD [])))) := by
  have hl := ho.1
  refine zD0 mixed fn40 (Nat.le_of_ble_eq_true rfl) (Nat.lt_of_succ_le (Nat.le_of_ble_eq_true rfl)) (sfOk (.cons ok98 .nil)) TbOk (lv := lv40f) fun I F hI hF => ?_
  refine zE2 fun C hC => ?_
  generalize Q0 : encBs o = Z0
  generalize Q1 : DV.str s = Z1
  cbv
  subst Q0 Q1
  subst hC
  refine ⟨?_⟩
  simp (maxSteps:=9999999) only [hI, hF, std]
  simp only [smp, smo, lookOk, lookRes, sfOf, ↓reduceIte, Nat.reduceEqDiff, reduceCtorEq, qA, qC]
  refine zE1 (kend := fun I => kEndF I Tb [.tmp 4]) hI hF (sfOk (.cons ok98 .nil)) TbOk (by exact fun Bk e s h => endF TbOk Bk e s h) (lv := lv40f) 0 (fun i : {i : Nat // i ≤ (o.getD []).length ∧ ∀ j, j < i → decide (((o.getD []).getD j default).nm = s) = false} => [.d (encBs o), .d (.fn 98 [.pim [.str s] 0 0]), .d (.int .i64 ((o.getD []).length : Int)), .d (.int .i64 (i.1 : Int))]) (fun i : {i : Nat // i ≤ (o.getD []).length ∧ ∀ j, j < i → decide (((o.getD []).getD j default).nm = s) = false} => []) (fun i : {i : Nat // i ≤ (o.getD []).length ∧ ∀ j, j < i → decide (((o.getD []).getD j default).nm = s) = false} => (o.getD []).length - i.1) [] (⟨0, by omega, fun j h => by omega⟩ : {i : Nat // i ≤ (o.getD []).length ∧ ∀ j, j < i → decide (((o.getD []).getD j default).nm = s) = false}) (by rfl) (by rfl) ?_ ?_ fun i => ?_
  · simp
  · rfl
  obtain ⟨i, hi1, hi2⟩ := i
  refine zE2 fun C hC => ?_
  generalize Q0 : encBs o = Z0
  generalize Q1 : DV.str s = Z1
  generalize Q2 : DV.int .i64 ((o.getD []).length : Int) = Z2
  generalize Q3 : DV.int .i64 (i : Int) = Z3
  cbv
  subst Q0 Q1 Q2 Q3
  subst hC
  refine ⟨?_⟩
  simp (maxSteps:=9999999) only [hI, hF, std]
  have w3 := zE6 (n := i) (by omega)
  by_cases hlt : i < (o.getD []).length
  · have g1 := get_encB _ _ hlt
    have k1 := okBs_get ho hlt
    simp only [smp, smo, lookOk, lookRes, sfOf, ↓reduceIte, Nat.reduceEqDiff, reduceCtorEq, qA, qC, e98, g1]
    simp [hlt, w3, - List.getD_eq_getElem?_getD, k1, qC]
    refine ⟨fun h => (idxG_some hlt (decide_eq_true h) hi2).symm, fun h => ⟨i + 1, by omega, ⟨by omega, fun j hj => ?_⟩, by omega⟩⟩
    by_cases hji : j = i
    · subst hji; exact h
    · have := hi2 j (by omega); exact of_decide_eq_false this
  · simp only [smp, smo, lookOk, lookRes, sfOf, ↓reduceIte, Nat.reduceEqDiff, reduceCtorEq, qA, qC, e98]
    simp [hlt, - List.getD_eq_getElem?_getD]
    exact (idxG_none fun j hj => hi2 j (by omega)).symm
open Classical in
noncomputable def e40f : Ent := ⟨63, fun | [d_o, .fn 98 [.pim [.str s] 0 0]] => decide (isBs d_o) | _ => false, fun | [d_o, .fn 98 [.pim [.str s] 0 0]] => .int .i64 (idxG (fun b => decide (b.nm = s)) ((toBs d_o).getD [])) | _ => .inil⟩
open Classical in
theorem ok40f : EntOk Tryz.prog [0] e40f := fun ds h => by
  unfold e40f at h ⊢
  simp only at h ⊢
  split at h
  · rw [decide_eq_true_iff] at h
    obtain ⟨v0, rfl, k0⟩ := h
    simp only [zB2, zA4, zA5, zG2, zF6]
    exact pc40f _ _ k0
  · cases h
theorem zeroV_enc : zeroV.enc = .agg [.int .i64 0, .int .i64 0, .int .i64 0, .str ⟨#[]⟩, .snil, .snil] := by simp [zeroV, V.enc, encS, encO]
theorem aggV (v : V) : (dIsAgg v.enc = true ∧ v.enc.cells.length = 6) ∧ avOne (.d (v.enc.cells.getD 0 .inil)) = true ∧ avOne (.d (v.enc.cells.getD 1 .inil)) = true ∧ avOne (.d (v.enc.cells.getD 2 .inil)) = true ∧ avOne (.d (v.enc.cells.getD 3 .inil)) = true ∧ avOne (.d (v.enc.cells.getD 4 .inil)) = true ∧ avOne (.d (v.enc.cells.getD 5 .inil)) = true := by
  rw [zA0]
  exact ⟨⟨zA1 _, rfl⟩, rfl, rfl, rfl, rfl, zA9 _, zA8 _⟩
def findB (l : List B) (s : ByteArray) : Option V := if idxG (fun b => decide (b.nm = s)) l < 0 then none else some (l.getD (idxG (fun b => decide (b.nm = s)) l).toNat default).v
theorem pc75 (o : Option (List B)) (s : ByteArray) (ho : okBs o) : PureCall Tryz.prog [0] 70 [encBs o, .str s] (dRet (.tup [((findB (o.getD []) s).getD zeroV).enc, .bool (findB (o.getD []) s).isSome])) := by
  generalize hr : findB (o.getD []) s = r
  refine zD0 mixed fn75 (Nat.le_of_ble_eq_true rfl) (Nat.lt_of_succ_le (Nat.le_of_ble_eq_true rfl)) (sfOk (.cons ok40f .nil)) TbOk (lv := lv0) fun I F hI hF => ?_
  refine zE2 fun C hC => ?_
  generalize Q0 : encBs o = Z0
  generalize Q1 : DV.str s = Z1
  generalize Q2 : (r.getD zeroV).enc = Z2
  generalize Q3 : DV.bool r.isSome = Z3
  cbv
  subst Q0 Q1 Q2 Q3
  subst hC
  refine ⟨?_⟩
  simp (maxSteps:=9999999) only [hI, hF, std]
  simp only [smp, smo, lookOk, lookRes, sfOf, ↓reduceIte, Nat.reduceEqDiff, reduceCtorEq, qA, qC, e40f]
  simp [- List.getD_eq_getElem?_getD, ho, qC]
  have hlt := idxG_lt (fun b : B => decide (b.nm = s)) (o.getD [])
  unfold findB at hr
  refine ⟨fun h => ?_, fun h => ?_⟩
  · rw [if_pos h] at hr; subst hr; exact ⟨zeroV_enc.symm, rfl⟩
  · rw [if_neg (by omega)] at hr
    generalize idxG (fun b : B => decide (b.nm = s)) (o.getD []) = m at *
    have g1 := get_encB (o.getD []) m.toNat ((Int.toNat_lt h).2 hlt)
    simp only [g1, qC, smp, smo, lookOk, lookRes, sfOf, ↓reduceIte, Nat.reduceEqDiff, reduceCtorEq]
    subst hr
    refine ⟨⟨⟨h, hlt⟩, rfl⟩, Nat.le_refl 7, aggV _, ⟨zA1 _, by rw [zA0]; rfl⟩, rfl, rfl⟩
open Classical in
noncomputable def e75 : Ent := ⟨70, fun | [d_o, .str s] => decide (isBs d_o) | _ => false, fun | [d_o, .str s] => .tup [((findB ((toBs d_o).getD []) s).getD zeroV).enc, .bool (findB ((toBs d_o).getD []) s).isSome] | _ => .inil⟩
open Classical in
theorem ok75 : EntOk Tryz.prog [0] e75 := fun ds h => by
  unfold e75 at h ⊢
  simp only at h ⊢
  split at h
  · rw [decide_eq_true_iff] at h
    obtain ⟨v0, rfl, k0⟩ := h
    simp only [zB2, zA4, zA5, zG2, zF6]
    exact pc75 _ _ k0
  · cases h
def fieldV (v : V) (s : ByteArray) : Option V := if idxS v.names s < 0 then none else some (v.items.getD (idxS v.names s).toNat default)
theorem pc79 (v : V) (s : ByteArray) (hv : v.ok) (hi : idxS v.names s < v.items.length) : PureCall Tryz.prog [0] 74 [v.enc, .str s] (dRet (.tup [((fieldV v s).getD zeroV).enc, .bool (fieldV v s).isSome])) := by
  generalize hr : fieldV v s = r
  refine zD0 mixed fn79 (Nat.le_of_ble_eq_true rfl) (Nat.lt_of_succ_le (Nat.le_of_ble_eq_true rfl)) (sfOk (.cons ok84 .nil)) TbOk (lv := lv0) fun I F hI hF => ?_
  refine zE2 fun C hC => ?_
  generalize Q0 : v.enc = Z0
  generalize Q1 : DV.str s = Z1
  generalize Q2 : (r.getD zeroV).enc = Z2
  generalize Q3 : DV.bool r.isSome = Z3
  cbv
  subst Q0 Q1 Q2 Q3
  subst hC
  refine ⟨?_⟩
  simp (maxSteps:=9999999) only [hI, hF, std]
  have e1 : v.nm.getD [] = v.names := rfl
  have e2 : v.it.getD [] = v.items := rfl
  simp only [smp, smo, lookOk, lookRes, sfOf, ↓reduceIte, Nat.reduceEqDiff, reduceCtorEq, qA, e84, e1, e2]
  simp [- List.getD_eq_getElem?_getD, qA, V.ok_nm hv, e1, e2]
  unfold fieldV at hr
  refine ⟨fun h => ?_, fun h => ?_⟩
  · rw [if_pos h] at hr; subst hr; exact ⟨zeroV_enc.symm, rfl⟩
  · rw [if_neg (by omega)] at hr
    have g1 := zH8 v.items (idxS v.names s).toNat ((Int.toNat_lt h).2 hi)
    simp only [g1, qA, smp, smo, lookOk, lookRes, sfOf, ↓reduceIte, Nat.reduceEqDiff, reduceCtorEq]
    subst hr
    exact ⟨⟨⟨h, hi⟩, rfl⟩, Nat.le_refl 6, rfl, rfl, rfl, rfl⟩
open Classical in
noncomputable def e79 : Ent := ⟨74, fun | [d_v, .str s] => decide (isV d_v ∧ idxS (toV d_v).names s < (toV d_v).items.length) | _ => false, fun | [d_v, .str s] => .tup [((fieldV (toV d_v) s).getD zeroV).enc, .bool (fieldV (toV d_v) s).isSome] | _ => .inil⟩
open Classical in
theorem ok79 : EntOk Tryz.prog [0] e79 := fun ds h => by
  unfold e79 at h ⊢
  simp only at h ⊢
  split at h
  · rw [decide_eq_true_iff] at h
    obtain ⟨⟨v0, rfl, k0⟩, kx⟩ := h
    simp only [zB2, zA4, zA5] at kx ⊢
    exact pc79 _ _ k0 kx
  · cases h
def isTextV (v : V) : Bool := decide (4 ≤ v.k ∧ v.k ≤ 6)
theorem pc100 (v : V) (hv : v.ok) : PureCall Tryz.prog [0] 100 [v.enc] (dRet (.bool (isTextV v))) := by
  unfold isTextV
  generalize hr : decide (4 ≤ v.k ∧ v.k ≤ 6) = r
  refine zD0 mixed fn100 (Nat.le_of_ble_eq_true rfl) (Nat.lt_of_succ_le (Nat.le_of_ble_eq_true rfl)) (sfOk .nil) TbOk (lv := lv0) fun I F hI hF => ?_
  refine zE2 fun C hC => ?_
  generalize Q0 : v.enc = Z0
  generalize Q1 : DV.bool r = Z1
  cbv
  subst Q0 Q1
  subst hC
  refine ⟨?_⟩
  simp (maxSteps:=9999999) only [hI, hF, std]
  simp only [smp, smo, lookOk, lookRes, sfOf, ↓reduceIte, Nat.reduceEqDiff, reduceCtorEq, qA]
  simp [- List.getD_eq_getElem?_getD, qA]
  rw [← hr, Bool.eq_iff_iff]
  simp
  omega
open Classical in
noncomputable def e100 : Ent := ⟨100, fun | [d_v] => decide (isV d_v) | _ => false, fun | [d_v] => .bool (isTextV (toV d_v)) | _ => .inil⟩
open Classical in
theorem ok100 : EntOk Tryz.prog [0] e100 := fun ds h => by
  unfold e100 at h ⊢
  simp only at h ⊢
  split at h
  · rw [decide_eq_true_iff] at h
    obtain ⟨v0, rfl, k0⟩ := h
    simp only [zB2, zA4, zA5]
    exact pc100 _ k0
  · cases h
def strV (k : Int) (s : ByteArray) : V := .mk k 0 0 s none none
theorem strV_enc (k : Int) (s : ByteArray) : (strV k s).enc = .agg [.int .i64 k, .int .i64 0, .int .i64 0, .str s, .snil, .snil] := by simp [strV, V.enc, encS, encO]
noncomputable def keptB (v : V) : Bool := smallV v 120 && (decide (v.s.size ≤ 200) && (!decide (v.k = 10) || decide (v.items.length ≤ 40)))
noncomputable def keptO (v : V) (a : Int) : Oc := if keptB v = true then .ok v.enc else .pan (flt a 2)
def TbP51T : BT := (.node 3000071 ⟨none, .other, [], none⟩ .nil .nil)
def TbP51 : Nat → Option TRow := orT TbP51T.get Tb
theorem TbP51Ok : TabOk Tryz.prog TbP51 := tabOk_or (zI2 (by kernel_rfl)) TbOk
set_option maxHeartbeats 1000000 in
theorem pc77 (x : Evx) (v : V) (hx : okE x) (hv : v.ok) : OcCall Tryz.prog [0] 72 [encE x, v.enc] (keptO v x.at_) := by
  generalize hr : keptO v x.at_ = r
  have e2 : v.it.getD [] = v.items := rfl
  refine oc_of_tree mixed fn77 (Nat.le_of_ble_eq_true rfl) (Nat.lt_of_succ_le (Nat.le_of_ble_eq_true rfl)) (sfOkP (.cons ok27 (.cons ok76 .nil)) (.cons pk76 .nil)) TbP51Ok (lv := lv0) fun I F hI hF => ?_
  refine zE2 fun C hC => ?_
  generalize Q0 : encE x = Z0
  generalize Q1 : v.enc = Z1
  generalize Q2 : r = Z2
  cbv
  subst Q0 Q1 Q2
  subst hC
  refine ⟨?_⟩
  simp (maxSteps:=9999999) only [hI, hF, std]
  have hs := V.ok_s hv
  have hil := V.ok_il hv
  subst hr
  unfold keptO keptB
  rcases Bool.eq_false_or_eq_true (smallV v 120) with h1 | h1 <;> by_cases h2 : v.s.size ≤ 200 <;> by_cases h3 : v.k = 10 <;> by_cases h4 : v.items.length ≤ 40
  all_goals (have h2' : ((v.s.size : Nat) : Int) ≤ 200 ↔ v.s.size ≤ 200 := by omega)
  all_goals (have h4' : ((v.items.length : Nat) : Int) ≤ 40 ↔ v.items.length ≤ 40 := by omega)
  all_goals simp only [smp, smo, lookPn, lookPd, sfOfP, lookOk, lookRes, sfOf, ↓reduceIte, Nat.reduceEqDiff, reduceCtorEq, qA, qD, e27, e76, p76, e2]
  all_goals simp [- List.getD_eq_getElem?_getD, qA, qD, hv, hx, e2, h1, h2, h3, h4, h2', h4', zC3]
open Classical in
noncomputable def e77 : Ent := ⟨72, fun | [d_x, d_v] => decide (isE d_x ∧ isV d_v) && Oc.isOk (keptO (toV d_v) (toE d_x).at_) | _ => false, fun | [d_x, d_v] => Oc.val (keptO (toV d_v) (toE d_x).at_) | _ => .inil⟩
open Classical in
noncomputable def p77 : PEnt := ⟨72, fun | [d_x, d_v] => decide (isE d_x ∧ isV d_v) && (Oc.isPan (keptO (toV d_v) (toE d_x).at_) && scalarD (Oc.val (keptO (toV d_v) (toE d_x).at_))) | _ => false, fun | [d_x, d_v] => Oc.val (keptO (toV d_v) (toE d_x).at_) | _ => .inil⟩
open Classical in
theorem ok77 : EntOk Tryz.prog [0] e77 := fun ds h => by
  unfold e77 at h ⊢
  simp only at h ⊢
  split at h
  · rw [Bool.and_eq_true, decide_eq_true_iff] at h
    obtain ⟨h, ho⟩ := h
    obtain ⟨⟨v0, rfl, k0⟩, ⟨v1, rfl, k1⟩⟩ := h
    simp only [zB2, zA4, zA5, zE7] at ho ⊢
    exact oc_ok (pc77 _ _ k0 k1) ho
  · cases h
open Classical in
theorem pk77 : PEntOk Tryz.prog [0] p77 := fun ds h => by
  unfold p77 at h ⊢
  simp only at h ⊢
  split at h
  · rw [Bool.and_eq_true, decide_eq_true_iff] at h
    obtain ⟨h, ho⟩ := h
    obtain ⟨⟨v0, rfl, k0⟩, ⟨v1, rfl, k1⟩⟩ := h
    simp only [zB2, zA4, zA5, zE7] at ho ⊢
    rw [Bool.and_eq_true] at ho
    exact ⟨oc_pan (pc77 _ _ k0 k1) ho.1, ho.2⟩
  · cases h
end Go.Proofs.Sx

namespace Go.Proofs.Sx
open Go Go.Proofs Go.Proofs.Am 
variable {gs : List Nat}

abbrev Ev := Except (Int × Int) V
def evO : Ev → Oc
  | .ok v => .ok v.enc
  | .error p => .pan (flt p.1 p.2)
theorem evO_ok (v : V) : evO (.ok v) = .ok v.enc := rfl
def itemE (v : V) (i a : Int) : Ev :=
  if v.k = 10 ∨ v.k = 11 then (if 0 ≤ i ∧ i < v.items.length then .ok (v.items.getD i.toNat default) else .error (a, 3))
  else if isTextV v = true then (if 0 ≤ i ∧ i < v.s.size then .ok (strV v.k (v.s.extract i.toNat (i.toNat + 1))) else .error (a, 3))
  else .error (a, 17)
def TbP52T : BT := (.node 3000071 ⟨none, .other, [], none⟩ .nil (.node 3000099 ⟨none, .other, [], none⟩ .nil .nil))
def TbP52 : Nat → Option TRow := orT TbP52T.get Tb
theorem TbP52Ok : TabOk Tryz.prog TbP52 := tabOk_or (zI2 (by kernel_rfl)) TbOk
set_option maxHeartbeats 1000000 in
theorem pc80 (x : Evx) (v : V) (i : Int) (hx : okE x) (hv : v.ok) : OcCall Tryz.prog [0] 75 [encE x, v.enc, .int .i64 i] (evO (itemE v i x.at_)) := by
  generalize hr : evO (itemE v i x.at_) = r
  refine oc_of_tree mixed fn80 (Nat.le_of_ble_eq_true rfl) (Nat.lt_of_succ_le (Nat.le_of_ble_eq_true rfl)) (sfOkP (.cons ok100 (.cons ok76 (.cons ok99 .nil))) (.cons pk76 (.cons pk99 .nil))) TbP52Ok (lv := lv0) fun I F hI hF => ?_
  refine zE2 fun C hC => ?_
  generalize Q0 : encE x = Z0
  generalize Q1 : v.enc = Z1
  generalize Q2 : DV.int .i64 i = Z2
  generalize Q3 : r = Z3
  cbv
  subst Q0 Q1 Q2 Q3
  subst hC
  refine ⟨?_⟩
  simp (maxSteps:=9999999) only [hI, hF, std]
  have e2 : v.it.getD [] = v.items := rfl
  have hs := V.ok_s hv
  have hil := V.ok_il hv
  unfold itemE at hr
  have b1 : (bif decide (v.k = 10) then true else decide (v.k = 11)) = decide (v.k = 10 ∨ v.k = 11) := by
    by_cases h : v.k = 10 <;> simp [h]
  have b2 : ∀ n : Nat, (bif decide (0 ≤ i) then decide (i < (n : Int)) else false) = decide (0 ≤ i ∧ i < (n : Int)) := fun n => by
    by_cases h : 0 ≤ i <;> simp [h]
  by_cases c1 : v.k = 10 ∨ v.k = 11
  · rw [if_pos c1] at hr
    by_cases c2 : 0 ≤ i ∧ i < v.items.length
    · have g1 := zH8 v.items i.toNat ((Int.toNat_lt c2.1).2 c2.2)
      rw [if_pos c2] at hr
      simp only [smp, smo, lookPn, lookPd, sfOfP, lookOk, lookRes, sfOf, ↓reduceIte, Nat.reduceEqDiff, reduceCtorEq, qA, qD, e100, e76, p76, e99, p99, e2, b1, b2, List.length_map, decide_eq_true c1, decide_eq_true c2, g1]
      simp [- List.getD_eq_getElem?_getD, qA, qD, hv, hx, c2, zC3]
      exact hr.symm
    · rw [if_neg c2] at hr
      simp only [smp, smo, lookPn, lookPd, sfOfP, lookOk, lookRes, sfOf, ↓reduceIte, Nat.reduceEqDiff, reduceCtorEq, qA, qD, e100, e76, p76, e99, p99, e2, b1, b2, List.length_map, decide_eq_true c1, decide_eq_false c2]
      simp [- List.getD_eq_getElem?_getD, qA, qD, hv, hx, zC3]
      exact hr.symm
  · rw [if_neg c1] at hr
    by_cases c3 : isTextV v = true
    · rw [if_pos c3] at hr
      by_cases c2 : 0 ≤ i ∧ i < v.s.size
      · rw [if_pos c2] at hr
        simp only [smp, smo, lookPn, lookPd, sfOfP, lookOk, lookRes, sfOf, ↓reduceIte, Nat.reduceEqDiff, reduceCtorEq, qA, qD, e100, e76, p76, e99, p99, e2, b1, b2, List.length_map, decide_eq_false c1, decide_eq_true c2, c3]
        simp [- List.getD_eq_getElem?_getD, qA, qD, hv, hx, c2, zC3]
        obtain ⟨j, rfl⟩ : ∃ j : Nat, i = j := ⟨i.toNat, by omega⟩
        rw [zE6 (n := j) (by omega)]
        refine ⟨⟨⟨⟨⟨rfl, rfl⟩, c2.1⟩, ?_⟩, ?_⟩, rfl, ?_⟩
        · show (j : Int) ≤ ((j + 1 : Nat) : Int); omega
        · show ((j + 1 : Nat) : Int) ≤ (v.s.size : Int); omega
        · rw [← hr, evO_ok, strV_enc]; rfl
      · rw [if_neg c2] at hr
        simp only [smp, smo, lookPn, lookPd, sfOfP, lookOk, lookRes, sfOf, ↓reduceIte, Nat.reduceEqDiff, reduceCtorEq, qA, qD, e100, e76, p76, e99, p99, e2, b1, b2, List.length_map, decide_eq_false c1, decide_eq_false c2, c3]
        simp [- List.getD_eq_getElem?_getD, qA, qD, hv, hx, zC3]
        exact hr.symm
    · rw [if_neg c3] at hr
      have c3 : isTextV v = false := by simpa using c3
      simp only [smp, smo, lookPn, lookPd, sfOfP, lookOk, lookRes, sfOf, ↓reduceIte, Nat.reduceEqDiff, reduceCtorEq, qA, qD, e100, e76, p76, e99, p99, e2, b1, b2, List.length_map, decide_eq_false c1, c3]
      simp [- List.getD_eq_getElem?_getD, qA, qD, hv, hx, zC3]
      exact hr.symm
open Classical in
noncomputable def e80 : Ent := ⟨75, fun | [d_x, d_v, .int .i64 i] => decide (isE d_x ∧ isV d_v) && Oc.isOk (evO (itemE (toV d_v) i (toE d_x).at_)) | _ => false, fun | [d_x, d_v, .int .i64 i] => Oc.val (evO (itemE (toV d_v) i (toE d_x).at_)) | _ => .inil⟩
open Classical in
noncomputable def p80 : PEnt := ⟨75, fun | [d_x, d_v, .int .i64 i] => decide (isE d_x ∧ isV d_v) && (Oc.isPan (evO (itemE (toV d_v) i (toE d_x).at_)) && scalarD (Oc.val (evO (itemE (toV d_v) i (toE d_x).at_)))) | _ => false, fun | [d_x, d_v, .int .i64 i] => Oc.val (evO (itemE (toV d_v) i (toE d_x).at_)) | _ => .inil⟩
open Classical in
theorem ok80 : EntOk Tryz.prog [0] e80 := fun ds h => by
  unfold e80 at h ⊢
  simp only at h ⊢
  split at h
  · rw [Bool.and_eq_true, decide_eq_true_iff] at h
    obtain ⟨h, ho⟩ := h
    obtain ⟨⟨v0, rfl, k0⟩, ⟨v1, rfl, k1⟩⟩ := h
    simp only [zB2, zA4, zA5, zE7] at ho ⊢
    exact oc_ok (pc80 _ _ _ k0 k1) ho
  · cases h
open Classical in
theorem pk80 : PEntOk Tryz.prog [0] p80 := fun ds h => by
  unfold p80 at h ⊢
  simp only at h ⊢
  split at h
  · rw [Bool.and_eq_true, decide_eq_true_iff] at h
    obtain ⟨h, ho⟩ := h
    obtain ⟨⟨v0, rfl, k0⟩, ⟨v1, rfl, k1⟩⟩ := h
    simp only [zB2, zA4, zA5, zE7] at ho ⊢
    rw [Bool.and_eq_true] at ho
    exact ⟨oc_pan (pc80 _ _ _ k0 k1) ho.1, ho.2⟩
  · cases h
end Go.Proofs.Sx

namespace Go.Proofs.Sx
open Go Go.Proofs Go.Proofs.Am 
variable {gs : List Nat}

theorem agg_encE (t : Option (List Nd)) (en : Option (List B)) (z : Int) : DV.agg [encT t, encBs en, .int .i64 z] = encE ⟨t, en, z⟩ := rfl
def isX (t : Option (List Nd)) (en : Option (List B)) (d : DV) : Prop := ∃ z, d = encE ⟨t, en, z⟩
theorem isX_enc (t : Option (List Nd)) (en : Option (List B)) (z : Int) : isX t en (encE ⟨t, en, z⟩) := ⟨z, rfl⟩
open Classical in
noncomputable def evEnt (f : Nat) (t : Option (List Nd)) (en : Option (List B)) (D : Int → Prop) (ev : Int → Ev) : Ent := ⟨f, fun | [d, .int .i64 a] => decide (isX t en d ∧ D a) && (evO (ev a)).isOk | _ => false, fun | [_, .int .i64 a] => (evO (ev a)).val | _ => .inil⟩
open Classical in
noncomputable def evPnt (f : Nat) (t : Option (List Nd)) (en : Option (List B)) (D : Int → Prop) (ev : Int → Ev) : PEnt := ⟨f, fun | [d, .int .i64 a] => decide (isX t en d ∧ D a) && ((evO (ev a)).isPan && scalarD (evO (ev a)).val) | _ => false, fun | [_, .int .i64 a] => (evO (ev a)).val | _ => .inil⟩
mutual
def V.nice : V → Prop
  | .mk k _ _ _ nm it => ((k = 9 ∨ k = 12) → (nm.getD []).length = (it.getD []).length) ∧ niceO it
def niceO : Option (List V) → Prop
  | none => True
  | some l => niceL l
def niceL : List V → Prop
  | [] => True
  | v :: r => v.nice ∧ niceL r
end
theorem niceL_mem : ∀ {l : List V}, niceL l → ∀ v ∈ l, v.nice
  | [], _, v, h => by cases h
  | w :: r, hk, v, h => by
    simp only [niceL] at hk
    rcases List.mem_cons.1 h with rfl | h
    · exact hk.1
    · exact niceL_mem hk.2 v h
theorem niceL_all : ∀ {l : List V}, (∀ v ∈ l, v.nice) → niceL l
  | [], _ => by simp only [niceL]
  | v :: l, h => by
    simp only [niceL]
    exact ⟨h v (List.mem_cons_self ..), niceL_all fun w hw => h w (List.mem_cons_of_mem _ hw)⟩
theorem V.nice_len {v : V} (h : v.nice) (hk : v.k = 9 ∨ v.k = 12) : v.names.length = v.items.length := by
  cases v; simp only [V.nice] at h; exact h.1 hk
theorem V.nice_i {v : V} (h : v.nice) : ∀ x ∈ v.items, x.nice := by
  obtain ⟨k, n, e, s, nm, it⟩ := v
  simp only [V.nice] at h
  cases it with
  | none => intro x hx; simp [V.items, V.it] at hx
  | some l => exact niceL_mem h.2
structure CtE (f : Nat) (t : Option (List Nd)) (en : Option (List B)) (D : Int → Prop) (ev : Int → Ev) : Prop where
  call : ∀ z a, D a → OcCall Tryz.prog [0] f [encE ⟨t, en, z⟩, .int .i64 a] (evO (ev a))
  ok : ∀ a v, D a → ev a = .ok v → v.ok
  nc : ∀ a v, D a → ev a = .ok v → v.nice
open Classical in
theorem evEnt_ok {f : Nat} {t : Option (List Nd)} {en : Option (List B)} {D : Int → Prop} {ev : Int → Ev} (h : CtE f t en D ev) : EntOk Tryz.prog [0] (evEnt f t en D ev) := fun ds hk => by
  unfold evEnt at hk ⊢
  simp only at hk ⊢
  split at hk
  · rw [Bool.and_eq_true, decide_eq_true_iff] at hk
    obtain ⟨⟨⟨z, rfl⟩, h1⟩, h3⟩ := hk
    exact oc_ok (h.call z _ h1) h3
  · cases hk
open Classical in
theorem evPnt_ok {f : Nat} {t : Option (List Nd)} {en : Option (List B)} {D : Int → Prop} {ev : Int → Ev} (h : CtE f t en D ev) : PEntOk Tryz.prog [0] (evPnt f t en D ev) := fun ds hk => by
  unfold evPnt at hk ⊢
  simp only at hk ⊢
  split at hk
  · rw [Bool.and_eq_true, decide_eq_true_iff, Bool.and_eq_true] at hk
    obtain ⟨⟨⟨z, rfl⟩, h1⟩, h3, h4⟩ := hk
    exact ⟨oc_pan (h.call z _ h1) h3, h4⟩
  · cases hk
theorem evO_val {e : Ev} : (evO e).isPan = !(evO e).isOk := by cases e <;> rfl
theorem evO_scal {e : Ev} (h : (evO e).isOk = false) : scalarD (evO e).val = true := by cases e <;> first | rfl | cases h
def evV (e : Ev) : V := match e with | .ok v => v | .error _ => default
theorem evV_ok {e : Ev} (h : (evO e).isOk = true) : e = .ok (evV e) := by cases e <;> first | rfl | cases h
theorem evV_val {e : Ev} (h : (evO e).isOk = true) : (evO e).val = (evV e).enc := by cases e <;> first | rfl | cases h
def allE (ev : Int → Ev) : List Int → Except (Int × Int) (List V)
  | [] => .ok []
  | a :: r => match ev a with
    | .error e => .error e
    | .ok v => match allE ev r with
      | .error e => .error e
      | .ok l => .ok (v :: l)
def mkO (l : List V) : Option (List V) := if l = [] then none else some l
def allO (ev : Int → Ev) (l : List Int) : Oc := match allE ev l with
  | .ok l => .ok (encO (mkO l))
  | .error p => .pan (flt p.1 p.2)
theorem allE_okL {ev : Int → Ev} : ∀ {l : List Int}, (∀ a ∈ l, (evO (ev a)).isOk = true) → allE ev l = .ok (l.map fun a => evV (ev a))
  | [], _ => rfl
  | a :: r, h => by
    have h1 := evV_ok (h a (List.mem_cons_self ..))
    have h2 := allE_okL (l := r) fun b hb => h b (List.mem_cons_of_mem _ hb)
    simp only [allE, List.map_cons]
    generalize evV (ev a) = v at *
    rw [h1, h2]
theorem allE_erL {ev : Int → Ev} : ∀ {l : List Int} {i : Nat}, i < l.length → (∀ j, j < i → (evO (ev (l.getD j 0))).isOk = true) → (evO (ev (l.getD i 0))).isOk = false → allO ev l = evO (ev (l.getD i 0))
  | [], i, h, _, _ => by simp at h
  | a :: r, 0, h, h1, h2 => by
    simp only [List.getD_cons_zero] at h2 ⊢
    unfold allO allE
    cases h3 : ev a with
    | error e => rfl
    | ok v => rw [h3] at h2; cases h2
  | a :: r, i + 1, h, h1, h2 => by
    have h0 := evV_ok (h1 0 (by omega))
    have h3 := allE_erL (l := r) (i := i) (by simpa using h) (fun j hj => by simpa using h1 (j + 1) (by omega)) (by simpa using h2)
    simp only [List.getD_cons_succ, List.getD_cons_zero] at *
    rw [← h3]
    unfold allO
    rw [allE]
    generalize evV (ev a) = v at h0
    rw [h0]
    cases h4 : allE ev r with
    | error e => rfl
    | ok l =>
      exfalso
      unfold allO at h3
      rw [h4] at h3
      cases h5 : ev (r.getD i 0) with
      | error e => rw [h5] at h3; cases h3
      | ok v => rw [h5] at h2; cases h2
def vA (ev : Int → Ev) (l : List Int) (i : Nat) : List DV := (l.take i).map fun a => (evV (ev a)).enc
theorem vA_len {ev : Int → Ev} {l : List Int} {i : Nat} (h : i ≤ l.length) : (vA ev l i).length = i := by simp [vA]; omega
theorem vA_succ {ev : Int → Ev} {l : List Int} {i : Nat} (h : i < l.length) : vA ev l (i + 1) = vA ev l i ++ [(evV (ev (l.getD i 0))).enc] := by
  unfold vA
  generalize hf : (fun a => (evV (ev a)).enc) = f
  have hg : (evV (ev (l.getD i 0))).enc = f (l.getD i 0) := by rw [← hf]
  rw [hg, List.take_add_one, List.map_append]
  simp [List.getD, h]
def accA1 (es : Nat) : Bool → Nat → AV
  | false, _ => .d .snil
  | true, n => .slc 1 es 0 n
def TbP54T : BT := (.node 3000050 ⟨none, .other, [], none⟩ .nil .nil)
def TbP54 : Nat → Option TRow := orT TbP54T.get Tb
theorem TbP54Ok : TabOk Tryz.prog TbP54 := tabOk_or (zI2 (by kernel_rfl)) TbOk
def lv78 : Nat → List Nat × List Nat
  | 3 => ([2, 5, 8, 9, 10], [0, 10005])
  | _ => ([], [])
set_option maxHeartbeats 1000000 in
theorem pc78n (x : Evx) (D : Int → Prop) (ev : Int → Ev) (hx : okE x) (h53 : CtE 50 x.t x.en D ev) (o : Option (List Int)) (ho : okIs o) (hN : ∀ a ∈ o.getD [], D a) :
    OcCall Tryz.prog [0] 73 [encE x, encIs o] (allO ev (o.getD [])) := by
  generalize hr : allO ev (o.getD []) = r
  have ok53' := evEnt_ok h53
  have k53' := evPnt_ok h53
  have pk53' := k53'
  have hl : (o.getD []).length ≤ 1048576 := ho
  refine oc_of_treeR mixed fn78 (Nat.le_of_ble_eq_true rfl) (Nat.lt_of_succ_le (Nat.le_of_ble_eq_true rfl)) (sfOkP (.cons ok53' .nil) (.cons pk53' .nil)) TbP54Ok (lv := lv78) fun I F hI hF => ?_
  refine zE2 fun C hC => ?_
  generalize Q0 : encE x = Z0
  generalize Q1 : encIs o = Z1
  generalize Q2 : r = Z2
  cbv
  subst Q0 Q1 Q2
  subst hC
  refine ⟨?_⟩
  simp (maxSteps:=9999999) only [hI, hF, std]
  simp only [smp, smo, lookPn, lookPd, sfOfP, lookOk, lookRes, sfOf, ↓reduceIte, Nat.reduceEqDiff, reduceCtorEq, qA, qD, qB, evEnt, evPnt]
  simp [- List.getD_eq_getElem?_getD, - Subtype.exists, - Prod.exists, - Bool.exists_bool]
  refine zE1 (kend := fun I => kEnd I TbP54 [.tmp 4]) hI hF (sfOkP (.cons ok53' .nil) (.cons pk53' .nil)) TbP54Ok (by exact fun Bk e s h => endOR TbP54Ok Bk e s h) (lv := lv78) 0 (fun i : {i : Bool × Nat // i.2 ≤ (o.getD []).length ∧ (i.1 = true ↔ 0 < i.2) ∧ ∀ j, j < i.2 → (evO (ev ((o.getD []).getD j 0))).isOk = true} => [.loc 0 3 0 0, accA1 6 i.1.1 i.1.2, .d (encIs o), .d (.int .i64 ((o.getD []).length : Int)), .d (.int .i64 (i.1.2 : Int))]) (fun i : {i : Bool × Nat // i.2 ≤ (o.getD []).length ∧ (i.1 = true ↔ 0 < i.2) ∧ ∀ j, j < i.2 → (evO (ev ((o.getD []).getD j 0))).isOk = true} => [(0, some ⟨[.d (encE x)], 3, 78, true, true⟩), (1, accB 6 25 ((vA ev (o.getD []) i.1.2).map .d) i.1.1)]) (fun i : {i : Bool × Nat // i.2 ≤ (o.getD []).length ∧ (i.1 = true ↔ 0 < i.2) ∧ ∀ j, j < i.2 → (evO (ev ((o.getD []).getD j 0))).isOk = true} => (o.getD []).length - i.1.2) [0, 10005] (⟨(false, 0), by simp, by simp, by simp⟩ : {i : Bool × Nat // i.2 ≤ (o.getD []).length ∧ (i.1 = true ↔ 0 < i.2) ∧ ∀ j, j < i.2 → (evO (ev ((o.getD []).getD j 0))).isOk = true}) (by rfl) (by rfl) ?_ ?_ fun i => ?_
  · rfl
  · rfl
  obtain ⟨⟨b, i⟩, hi1, hi2, hi3⟩ := i
  have hi1 : i ≤ (o.getD []).length := hi1
  have hi2 : b = true ↔ 0 < i := hi2
  have hi3 : ∀ j, j < i → (evO (ev ((o.getD []).getD j 0))).isOk = true := hi3
  have w3 := zE6 (n := i) (by omega)
  have hlen := vA_len (ev := ev) hi1
  cases b with
  | false =>
    rw [show accA1 6 false i = .d .snil from rfl, show accB 6 25 ((vA ev (o.getD []) i).map AV.d) false = none from rfl]
    have h0 : i = 0 := by have := mt hi2.2; simp at this; omega
    refine zE2 fun C hC => ?_
    generalize Q0 : encE x = Z0
    generalize Q1 : encIs o = Z1
    generalize Q2 : r = Z2
    generalize Q3 : DV.int .i64 ((o.getD []).length : Int) = Z3
    generalize Q4 : DV.int .i64 (i : Int) = Z4
    cbv
    subst Q0 Q1 Q2 Q3 Q4
    subst hC
    refine ⟨?_⟩
    simp (maxSteps:=9999999) only [hI, hF, std]
    by_cases hlt : i < (o.getD []).length
    · have g1 := zI0 _ _ hlt
      have k1 := hN _ (memI hlt)
      have k2 : isX x.t x.en (encE x) := ⟨x.at_, rfl⟩
      rcases Bool.eq_false_or_eq_true (evO (ev ((o.getD []).getD i 0))).isOk with he | he
      · have hv := evV_val he
        have hp : (evO (ev ((o.getD []).getD i 0))).isPan = false := by rw [evO_val, he]; rfl
        simp only [smp, smo, lookPn, lookPd, sfOfP, lookOk, lookRes, sfOf, ↓reduceIte, Nat.reduceEqDiff, reduceCtorEq, qA, qD, qB, evEnt, evPnt, g1, zF5, he, hv, hp]
        simp [hlt, w3, - List.getD_eq_getElem?_getD, - Subtype.exists, - Prod.exists, - Bool.exists_bool, k1, k2, qA]
        subst h0
        refine ⟨⟨⟨true, 1⟩, by omega, by simp, fun j hj => by rw [show j = 0 by omega]; exact he⟩, by show (o.getD []).length - 1 < (o.getD []).length - 0; omega, ⟨rfl, rfl⟩, ?_⟩
        show _ = accB 6 25 ((vA ev (o.getD []) (0 + 1)).map .d) true
        rw [vA_succ hlt]; rfl
      · have hp : (evO (ev ((o.getD []).getD i 0))).isPan = true := by rw [evO_val, he]; rfl
        have hs := evO_scal he
        simp only [smp, smo, lookPn, lookPd, sfOfP, lookOk, lookRes, sfOf, ↓reduceIte, Nat.reduceEqDiff, reduceCtorEq, qA, qD, qB, evEnt, evPnt, g1, zF5, he, hs, hp]
        simp [hlt, w3, - List.getD_eq_getElem?_getD, - Subtype.exists, - Prod.exists, - Bool.exists_bool, k1, k2, qA]
        rw [← hr, allE_erL hlt hi3 he]
        cases h5 : ev ((o.getD []).getD i 0) with
        | error p => rfl
        | ok v => rw [h5] at he; cases he
    · simp only [smp, smo, lookPn, lookPd, sfOfP, lookOk, lookRes, sfOf, ↓reduceIte, Nat.reduceEqDiff, reduceCtorEq, qA, qD, qB, evEnt, evPnt, zF5]
      simp [hlt, - List.getD_eq_getElem?_getD, - Subtype.exists, - Prod.exists, - Bool.exists_bool]
      have he : o.getD [] = [] := List.length_eq_zero_iff.1 (by omega)
      rw [← hr, he]
      exact ⟨_, rfl, rfl⟩
  | true =>
    rw [show accA1 6 true i = .slc 1 6 0 i from rfl, show accB 6 25 ((vA ev (o.getD []) i).map AV.d) true = some ⟨(vA ev (o.getD []) i).map AV.d, 6, 25, true, true⟩ from rfl]
    refine zE2 fun C hC => ?_
    generalize Q0 : encE x = Z0
    generalize Q1 : encIs o = Z1
    generalize Q2 : r = Z2
    generalize Q3 : DV.int .i64 ((o.getD []).length : Int) = Z3
    generalize Q4 : DV.int .i64 (i : Int) = Z4
    generalize Q5 : (vA ev (o.getD []) i).map AV.d = Z5
    cbv
    subst Q0 Q1 Q2 Q3 Q4 Q5
    subst hC
    refine ⟨?_⟩
    simp (maxSteps:=9999999) only [hI, hF, std]
    by_cases hlt : i < (o.getD []).length
    · have g1 := zI0 _ _ hlt
      have k1 := hN _ (memI hlt)
      have k2 : isX x.t x.en (encE x) := ⟨x.at_, rfl⟩
      rcases Bool.eq_false_or_eq_true (evO (ev ((o.getD []).getD i 0))).isOk with he | he
      · have hv := evV_val he
        have hp : (evO (ev ((o.getD []).getD i 0))).isPan = false := by rw [evO_val, he]; rfl
        simp only [smp, smo, lookPn, lookPd, sfOfP, lookOk, lookRes, sfOf, ↓reduceIte, Nat.reduceEqDiff, reduceCtorEq, qA, qD, qB, evEnt, evPnt, g1, zF5, he, hv, hp]
        simp [hlt, w3, - List.getD_eq_getElem?_getD, - Subtype.exists, - Prod.exists, - Bool.exists_bool, k1, k2, qA]
        refine ⟨⟨by rw [← List.length.eq_def]; simp [hlen], by omega⟩, ⟨fun x hx => ?_, rfl⟩, ⟨⟨true, i + 1⟩, by omega, by simp, fun j hj => ?_⟩, by show (o.getD []).length - (i + 1) < (o.getD []).length - i; omega, ⟨rfl, rfl⟩, ?_⟩
        · have := List.mem_of_mem_take hx
          obtain ⟨d, _, rfl⟩ := List.mem_map.1 this
          rfl
        · by_cases hj2 : j = i
          · rw [hj2]; exact he
          · exact hi3 j (by omega)
        · show _ = accB 6 25 ((vA ev (o.getD []) (i + 1)).map .d) true
          rw [vA_succ hlt, List.take_of_length_le (by simp [hlen]), List.map_append]; rfl
      · have hp : (evO (ev ((o.getD []).getD i 0))).isPan = true := by rw [evO_val, he]; rfl
        have hs := evO_scal he
        simp only [smp, smo, lookPn, lookPd, sfOfP, lookOk, lookRes, sfOf, ↓reduceIte, Nat.reduceEqDiff, reduceCtorEq, qA, qD, qB, evEnt, evPnt, g1, zF5, he, hs, hp]
        simp [hlt, w3, - List.getD_eq_getElem?_getD, - Subtype.exists, - Prod.exists, - Bool.exists_bool, k1, k2, qA]
        rw [← hr, allE_erL hlt hi3 he]
        cases h5 : ev ((o.getD []).getD i 0) with
        | error p => rfl
        | ok v => rw [h5] at he; cases he
    · simp only [smp, smo, lookPn, lookPd, sfOfP, lookOk, lookRes, sfOf, ↓reduceIte, Nat.reduceEqDiff, reduceCtorEq, qA, qD, qB, evEnt, evPnt, zF5]
      simp [hlt, - List.getD_eq_getElem?_getD, - Subtype.exists, - Prod.exists, - Bool.exists_bool]
      have hie : i = (o.getD []).length := by omega
      have hall : allE ev (o.getD []) = .ok ((o.getD []).map fun a => evV (ev a)) := allE_okL fun a ha => by
        obtain ⟨j, hj, rfl⟩ := List.mem_iff_getElem.1 ha
        have := hi3 j (by omega)
        rwa [List.getD_eq_getElem?_getD, List.getElem?_eq_getElem hj, Option.getD_some] at this
      refine ⟨.sim (vA ev (o.getD []) i), ?_, frz_row rfl hlen (by omega)⟩
      rw [← hr]
      unfold allO
      rw [hall]
      have h0 : 0 < i := hi2.1 rfl
      have hne : (o.getD []).map (fun a => evV (ev a)) ≠ [] := fun hc => by
        have := congrArg List.length hc
        simp at this
        rw [this] at hie
        simp at hie; omega
      simp only [mkO, if_neg hne, encO, encL_map, List.map_map]
      unfold vA
      rw [List.take_of_length_le (by omega)]; rfl
theorem allE_ok {ev : Int → Ev} : ∀ {l : List Int} {r : List V}, allE ev l = .ok r → r.length = l.length ∧ ∀ i, i < l.length → ev (l.getD i 0) = .ok (r.getD i default)
  | [], r, h => by cases h; exact ⟨rfl, fun i hi => by simp at hi⟩
  | a :: l, r, h => by
    rw [allE] at h
    split at h
    · cases h
    · rename_i v hv
      split at h
      · cases h
      · rename_i q hq
        cases h
        obtain ⟨h1, h2⟩ := allE_ok hq
        refine ⟨by simp [h1], fun i hi => ?_⟩
        cases i with
        | zero => exact hv
        | succ i => exact h2 i (by simpa using hi)
theorem okL_all : ∀ {l : List V}, (∀ v ∈ l, v.ok) → okL l
  | [], _ => trivial
  | v :: l, h => ⟨h v (List.mem_cons_self ..), okL_all fun w hw => h w (List.mem_cons_of_mem _ hw)⟩
theorem okO_all {ev : Int → Ev} {D : Int → Prop} {l : List Int} {r : List V} (hN : ∀ a ∈ l, D a) (hl : l.length ≤ 1048576) (ho : ∀ a v, D a → ev a = .ok v → v.ok) (h : allE ev l = .ok r) : okO (mkO r) := by
  obtain ⟨h1, h2⟩ := allE_ok h
  unfold mkO
  split
  · trivial
  · refine ⟨by omega, okL_all fun v hv => ?_⟩
    obtain ⟨i, hi, rfl⟩ := List.mem_iff_getElem.1 hv
    have hi2 : i < l.length := by omega
    have := h2 i hi2
    have hm := hN _ (memI hi2)
    refine ho _ _ hm ?_
    rw [this, List.getD_eq_getElem?_getD, List.getElem?_eq_getElem hi, Option.getD_some]
end Go.Proofs.Sx
