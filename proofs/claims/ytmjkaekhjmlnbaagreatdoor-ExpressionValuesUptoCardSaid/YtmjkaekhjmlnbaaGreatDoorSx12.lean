/- Copies of values: they are compared, and have errors, as the values that they are copies of. -/
import Derived.Test.YtmjkaekhjmlnbaaGreatDoorSx11
import Derived.Test.YtmjkaekhjmlnbaaGreatDoorSxBase
import Derived.Test.YtmjkaekhjmlnbaaGreatDoorAmPtr
set_option linter.unusedVariables false
set_option linter.unusedSimpArgs false
set_option maxRecDepth 100000
namespace Go.Proofs.Sx
open Go Go.Proofs Go.Proofs.Am 
variable {gs : List Nat}

mutual
def ownV : V → V
  | .mk k n e s nm it => .mk k n e s (some (nm.getD [])) (ownO it)
def ownO : Option (List V) → Option (List V)
  | none => none
  | some l => ownR l
def ownR : List V → Option (List V)
  | [] => none
  | v :: r => some (ownV v :: ownL r)
def ownL : List V → List V
  | [] => []
  | v :: r => ownV v :: ownL r
end
theorem ownL_map : ∀ (l : List V), ownL l = l.map ownV
  | [] => by simp [ownL]
  | v :: r => by simp [ownL, ownL_map r]
theorem ownR_get (l : List V) : (ownR l).getD [] = l.map ownV := by
  cases l with
  | nil => simp [ownR]
  | cons v r => rw [ownR, ownL_map]; rfl
theorem ownO_get (o : Option (List V)) : (ownO o).getD [] = (o.getD []).map ownV := by
  cases o with
  | none => simp [ownO]
  | some l => rw [ownO, ownR_get]; rfl
theorem ownO_eq (o : Option (List V)) : ownO o = if o.getD [] = [] then none else some ((o.getD []).map ownV) := by
  cases o with
  | none => simp [ownO]
  | some l => cases l with
    | nil => rw [ownO, ownR]; rfl
    | cons v r => rw [ownO, ownR, ownL_map]; rfl
theorem own_k (v : V) : (ownV v).k = v.k := by cases v; rw [ownV]; rfl
theorem own_n (v : V) : (ownV v).n = v.n := by cases v; rw [ownV]; rfl
theorem own_e (v : V) : (ownV v).e = v.e := by cases v; rw [ownV]; rfl
theorem own_s (v : V) : (ownV v).s = v.s := by cases v; rw [ownV]; rfl
theorem own_names (v : V) : (ownV v).names = v.names := by cases v; rw [ownV]; rfl
theorem own_items (v : V) : (ownV v).items = v.items.map ownV := by cases v; rw [ownV]; exact ownO_get _
theorem own_eq (v : V) : ownV v = .mk v.k v.n v.e v.s (some v.names) (ownO v.it) := by cases v; rw [ownV]; rfl
mutual
theorem cmpV_own : ∀ (v w : V), cmpV (ownV v) (ownV w) = cmpV v w
  | .mk k n e s nm it, .mk k' n' e' s' nm' it' => by
    rw [ownV, ownV, cmpV, cmpV, cmpO_eq, cmpO_eq, ownO_get, ownO_get, cmpO_own it it']; rfl
theorem cmpO_own : ∀ (a b : Option (List V)), cmpL ((a.getD []).map ownV) ((b.getD []).map ownV) = cmpL (a.getD []) (b.getD [])
  | none, o => by
    simp only [Option.getD_none, List.map_nil]
    cases h : o.getD [] with
    | nil => rfl
    | cons v r => simp [cmpL]
  | some l, o => cmpL_own l (o.getD [])
theorem cmpL_own : ∀ (a b : List V), cmpL (a.map ownV) (b.map ownV) = cmpL a b
  | [], [] => by simp [cmpL]
  | [], _ :: _ => by simp [cmpL]
  | _ :: _, [] => by simp [cmpL]
  | x :: l, y :: r => by simp only [List.map_cons, cmpL]; rw [cmpV_own x y, cmpL_own l r]
end
theorem get_own {l : List V} {i : Nat} (h : i < l.length) : (l.map ownV).getD i default = ownV (l.getD i default) := by
  simp [List.getD, h]
theorem sorted_own (l : List V) : sortedOk (l.map ownV) = sortedOk l := by
  have : SortedP (l.map ownV) = SortedP l := by
    apply propext
    unfold SortedP
    rw [List.length_map]
    constructor
    · intro h i h1 h2
      have := h i h1 h2
      rwa [get_own h2, get_own (by omega), cmpV_own] at this
    · intro h i h1 h2
      rw [get_own h2, get_own (by omega), cmpV_own]
      exact h i h1 h2
  rw [Bool.eq_iff_iff, sortedOk_t, sortedOk_t, this]
theorem chars_own (v : V) : charsOk (ownV v) = charsOk v := by
  have : CharsP (ownV v) = CharsP v := by unfold CharsP; rw [own_s, own_k]
  rw [Bool.eq_iff_iff, charsOk_t, charsOk_t, this]
theorem ownE_own (v : V) : ownE (ownV v) = ownE v := by
  have h : (v.items.map ownV ≠ []) = (v.items ≠ []) := by simp
  have hd : ∀ (p q : Prop) (a : Decidable p) (c : Decidable q) (x y z : Int), p = q → y = z → (@ite _ p a x y) = (@ite _ q c x z) := fun p q a c x y z h1 h2 => by subst h1 h2; congr
  unfold ownE
  refine hd _ _ _ _ _ _ _ ?_ (hd _ _ _ _ _ _ _ ?_ (hd _ _ _ _ _ _ _ ?_ (hd _ _ _ _ _ _ _ ?_ (hd _ _ _ _ _ _ _ ?_ (hd _ _ _ _ _ _ _ ?_ (hd _ _ _ _ _ _ _ ?_ (hd _ _ _ _ _ _ _ ?_ (hd _ _ _ _ _ _ _ ?_ rfl)))))))) <;> simp only [own_k, own_n, own_e, own_s, own_names, own_items, chars_own, sorted_own, List.length_map, h]
mutual
theorem plainE_own : ∀ (v : V), plainE (ownV v) = plainE v
  | .mk k n e s nm it => by
    have h := ownE_own (.mk k n e s nm it)
    rw [plainE_eq, own_items, h, plainE_eq (.mk k n e s nm it)]
    have := plainO_own it
    simp only [V.items, V.it] at this ⊢
    rw [this]
theorem plainO_own : ∀ (o : Option (List V)), plainL ((V.items (.mk 0 0 0 ⟨#[]⟩ none o)).map ownV) = plainL (V.items (.mk 0 0 0 ⟨#[]⟩ none o))
  | none => rfl
  | some l => plainL_own l
theorem plainL_own : ∀ (l : List V), plainL (l.map ownV) = plainL l
  | [] => rfl
  | v :: r => by simp only [List.map_cons, plainL]; rw [plainE_own v, plainL_own r]
end
mutual
theorem sizV_own : ∀ (v : V) (d : Int) (z : Zst), sizV (ownV v) d z = sizV v d z
  | .mk k n e s nm it, d, z => by rw [ownV, sizV_1, sizV_1, sizO_eq, ownO_get, sizO_own it, sizO_eq]
theorem sizO_own : ∀ (o : Option (List V)) (d : Int) (z : Zst), sizL ((o.getD []).map ownV) d z = sizL (o.getD []) d z
  | none, d, z => rfl
  | some l, d, z => sizL_own l d z
theorem sizL_own : ∀ (l : List V) (d : Int) (z : Zst), sizL (l.map ownV) d z = sizL l d z
  | [], d, z => rfl
  | v :: r, d, z => by simp only [List.map_cons, sizL_2]; rw [sizV_own v, sizL_own r]
end
theorem valE_own (v : V) : valE (ownV v) = valE v := by
  have : smallV (ownV v) 120 = smallV v 120 := by
    have := sizV_own v 8 ((120, false) : Zst)
    unfold smallV; exact congrArg (fun z : Zst => !z.2) this
  unfold valE; rw [this, plainE_own]
mutual
theorem own_ok : ∀ {v : V}, v.ok → (ownV v).ok
  | .mk k n e s nm it, h => by
    rw [V.ok] at h
    obtain ⟨h1, h2, h3, h4⟩ := h
    rw [ownV, V.ok]
    exact ⟨h1, h2, h3, ownO_ok h4⟩
theorem ownO_ok : ∀ {o : Option (List V)}, okO o → okO (ownO o)
  | none, h => by rw [ownO]; exact h
  | some [], h => by rw [ownO, ownR]; trivial
  | some (v :: r), h => by
    rw [okO] at h
    have h2 := h.2
    rw [okL] at h2
    rw [ownO, ownR, okO, okL, ownL_map]
    exact ⟨by simpa using h.1, own_ok h2.1, ownL_ok h2.2⟩
theorem ownL_ok : ∀ {l : List V}, okL l → okL (l.map ownV)
  | [], h => by simpa using h
  | v :: r, h => by
    rw [okL] at h
    rw [List.map_cons, okL]
    exact ⟨own_ok h.1, ownL_ok h.2⟩
end
end Go.Proofs.Sx
