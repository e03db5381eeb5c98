/- Values of the program as trees. -/
import Derived.Test.YtjmglhioohndhaaGreatDoorP3

set_option linter.unusedVariables false
set_option linter.unusedSimpArgs false
set_option maxRecDepth 100000
namespace Go.Proofs.Sx
open Go Go.Proofs Go.Proofs.Am 
variable {gs : List Nat}

inductive V where
  | mk (k n e : Int) (s : ByteArray) (names : Option (List ByteArray)) (items : Option (List V))

def V.k : V → Int | .mk k _ _ _ _ _ => k
def V.n : V → Int | .mk _ n _ _ _ _ => n
def V.e : V → Int | .mk _ _ e _ _ _ => e
def V.s : V → ByteArray | .mk _ _ _ s _ _ => s
def V.nm : V → Option (List ByteArray) | .mk _ _ _ _ l _ => l
def V.it : V → Option (List V) | .mk _ _ _ _ _ l => l
def V.names (v : V) : List ByteArray := v.nm.getD []
def V.items (v : V) : List V := v.it.getD []

instance : Inhabited V := ⟨.mk 0 0 0 ⟨#[]⟩ none none⟩

def encS (o : Option (List ByteArray)) : DV := match o with
  | none => .snil
  | some l => .sim (l.map .str)

mutual
def V.enc : V → DV
  | .mk k n e s nm it => .agg [.int .i64 k, .int .i64 n, .int .i64 e, .str s, encS nm, encO it]
def encO : Option (List V) → DV
  | none => .snil
  | some l => .sim (encL l)
def encL : List V → List DV
  | [] => []
  | v :: r => v.enc :: encL r
end

theorem encL_map : ∀ (l : List V), encL l = l.map V.enc
  | [] => by simp [encL]
  | v :: r => by simp [encL, encL_map r]

theorem zA0 (v : V) : v.enc.cells = [.int .i64 v.k, .int .i64 v.n, .int .i64 v.e, .str v.s, encS v.nm, encO v.it] := by
  cases v; rw [V.enc]; rfl
theorem enc_eq (v : V) : v.enc = .agg [.int .i64 v.k, .int .i64 v.n, .int .i64 v.e, .str v.s, encS v.nm, encO v.it] := by
  cases v; rw [V.enc]; rfl
theorem zB1 (o : Option (List V)) : lstD (encO o) = (o.getD []).map V.enc := by
  cases o <;> simp [encO, lstD, encL_map]
theorem zA3 (o : Option (List V)) : isSlD (encO o) = true := by cases o <;> simp [encO, isSlD]
theorem zA8 (o : Option (List V)) : avOne (.d (encO o)) = true := by cases o <;> simp [encO, avOne]
theorem zB0 (o : Option (List ByteArray)) : lstD (encS o) = (o.getD []).map .str := by
  cases o <;> simp [encS, lstD]
theorem zA2 (o : Option (List ByteArray)) : isSlD (encS o) = true := by cases o <;> simp [encS, isSlD]
theorem zA9 (o : Option (List ByteArray)) : avOne (.d (encS o)) = true := by cases o <;> simp [encS, avOne]
theorem zA1 (v : V) : dIsAgg v.enc = true := by rw [enc_eq]; rfl
theorem zB4 (v : V) : dlV 6 true v.enc 0 = v.enc := dlV_whole 6 _ (by rw [zA0]; rfl)
theorem zH8 (l : List V) (i : Nat) (h : i < l.length) : (l.map V.enc).getD i .inil = (l.getD i default).enc := by
  simp [List.getD, List.getElem?_map, List.getElem?_eq_getElem h]
theorem zJ7 (l : List ByteArray) (i : Nat) (h : i < l.length) : (l.map DV.str).getD i .inil = .str (l.getD i ⟨#[]⟩) := by
  simp [List.getD, List.getElem?_map, List.getElem?_eq_getElem h]

theorem encS_inj {a b : Option (List ByteArray)} (h : encS a = encS b) : a = b := by
  cases a <;> cases b <;> simp [encS] at h <;> first | rfl | skip
  rename_i l r
  congr
  induction l generalizing r with
  | nil => cases r <;> first | rfl | simp at h
  | cons x l ih => cases r with
    | nil => simp at h
    | cons y r =>
      simp at h
      rw [h.1, ih r h.2]

mutual
theorem V.enc_inj : ∀ (v w : V), v.enc = w.enc → v = w
  | .mk k n e s nm it, .mk k' n' e' s' nm' it', h => by
    rw [V.enc, V.enc] at h
    simp only [DV.agg.injEq, List.cons.injEq, DV.int.injEq, DV.str.injEq, true_and, and_true] at h
    obtain ⟨rfl, rfl, rfl, rfl, h1, h2⟩ := h
    rw [encS_inj h1, encO_inj it it' h2]
theorem encO_inj : ∀ (a b : Option (List V)), encO a = encO b → a = b
  | none, none, _ => rfl
  | none, some _, h => by simp [encO] at h
  | some _, none, h => by simp [encO] at h
  | some l, some r, h => by
    simp only [encO, DV.sim.injEq] at h
    rw [encL_inj l r h]
theorem encL_inj : ∀ (a b : List V), encL a = encL b → a = b
  | [], [], _ => rfl
  | [], _ :: _, h => by simp [encL] at h
  | _ :: _, [], h => by simp [encL] at h
  | v :: l, w :: r, h => by
    simp only [encL, List.cons.injEq] at h
    rw [V.enc_inj v w h.1, encL_inj l r h.2]
end

def lim : Nat := 1048576

mutual
def V.ok : V → Prop
  | .mk _ _ _ s nm it => s.size ≤ 1048576 ∧ (nm.getD []).length ≤ 1048576 ∧ (∀ x ∈ nm.getD [], x.size ≤ 1048576) ∧ okO it
def okO : Option (List V) → Prop
  | none => True
  | some l => l.length ≤ 1048576 ∧ okL l
def okL : List V → Prop
  | [] => True
  | v :: r => v.ok ∧ okL r
end

theorem okL_mem : ∀ {l : List V}, okL l → ∀ v ∈ l, v.ok
  | [], _, v, h => by cases h
  | w :: r, hk, v, h => by
    simp only [okL] at hk
    rcases List.mem_cons.1 h with rfl | h
    · exact hk.1
    · exact okL_mem hk.2 v h
theorem V.ok_s {v : V} (h : v.ok) : v.s.size ≤ 1048576 := by cases v; simp only [V.ok] at h; exact h.1
theorem V.ok_nl {v : V} (h : v.ok) : v.names.length ≤ 1048576 := by cases v; simp only [V.ok] at h; exact h.2.1
theorem V.ok_n {v : V} (h : v.ok) : ∀ x ∈ v.names, x.size ≤ 1048576 := by cases v; simp only [V.ok] at h; exact h.2.2.1
theorem V.ok_il {v : V} (h : v.ok) : v.items.length ≤ 1048576 := by
  obtain ⟨k, n, e, s, nm, it⟩ := v
  simp only [V.ok] at h
  cases it with
  | none => simp [V.items, V.it]
  | some l => simp only [okO] at h; exact h.2.2.2.1
theorem V.ok_i {v : V} (h : v.ok) : ∀ x ∈ v.items, x.ok := by
  obtain ⟨k, n, e, s, nm, it⟩ := v
  simp only [V.ok] at h
  cases it with
  | none => intro x hx; simp [V.items, V.it] at hx
  | some l => simp only [okO] at h; exact okL_mem h.2.2.2.2
theorem V.ok_get {v : V} (h : v.ok) {i : Nat} (hi : i < v.items.length) : (v.items.getD i default).ok := by
  refine V.ok_i h _ ?_
  simp [List.getD, List.getElem?_eq_getElem hi]

mutual
def V.sz : V → Nat
  | .mk _ _ _ _ _ it => 1 + szO it
def szO : Option (List V) → Nat
  | none => 0
  | some l => szL l
def szL : List V → Nat
  | [] => 0
  | v :: r => v.sz + szL r
end
theorem szL_mem : ∀ {l : List V} {v : V}, v ∈ l → v.sz ≤ szL l
  | w :: r, v, h => by
    simp only [szL]
    rcases List.mem_cons.1 h with rfl | h
    · omega
    · have := szL_mem h; omega
theorem V.sz_item {v x : V} (h : x ∈ v.items) : x.sz < v.sz := by
  obtain ⟨k, n, e, s, nm, it⟩ := v
  cases it with
  | none => simp [V.items, V.it] at h
  | some l => have := szL_mem (l := l) h; simp only [V.sz, szO]; omega
theorem V.sz_get {v : V} {i : Nat} (hi : i < v.items.length) : (v.items.getD i default).sz < v.sz := by
  refine V.sz_item ?_
  simp [List.getD, List.getElem?_eq_getElem hi]

def isV (d : DV) : Prop := ∃ v : V, d = v.enc ∧ v.ok
open Classical in
noncomputable def toV (d : DV) : V := if h : ∃ v : V, d = v.enc then Classical.choose h else default
theorem zB2 (v : V) : toV v.enc = v := by
  have h : ∃ w : V, v.enc = w.enc := ⟨v, rfl⟩
  unfold toV
  rw [dif_pos h]
  exact V.enc_inj _ _ (Classical.choose_spec h).symm
theorem zB3 (v : V) : isV v.enc = v.ok := by
  apply propext
  constructor
  · rintro ⟨w, h1, h2⟩; rw [V.enc_inj _ _ h1]; exact h2
  · intro h; exact ⟨v, rfl, h⟩

def isVs (d : DV) : Prop := ∃ o : Option (List V), d = encO o ∧ okO o
open Classical in
noncomputable def toVs (d : DV) : Option (List V) := if h : ∃ v, d = encO v then Classical.choose h else none
theorem zA4 (v : Option (List V)) : toVs (encO v) = v := by
  have h : ∃ w, encO v = encO w := ⟨v, rfl⟩
  unfold toVs
  rw [dif_pos h]
  exact encO_inj _ _ (Classical.choose_spec h).symm
theorem zA7 (v : Option (List V)) : isVs (encO v) = okO v := by
  apply propext
  constructor
  · rintro ⟨w, h1, h2⟩; rw [encO_inj _ _ h1]; exact h2
  · intro h; exact ⟨v, rfl, h⟩

def okS0 (o : Option (List ByteArray)) : Prop := (o.getD []).length ≤ 1048576 ∧ ∀ x ∈ o.getD [], x.size ≤ 1048576
def isSs (d : DV) : Prop := ∃ o : Option (List ByteArray), d = encS o ∧ okS0 o
open Classical in
noncomputable def toSs (d : DV) : Option (List ByteArray) := if h : ∃ v, d = encS v then Classical.choose h else none
theorem zA5 (v : Option (List ByteArray)) : toSs (encS v) = v := by
  have h : ∃ w, encS v = encS w := ⟨v, rfl⟩
  unfold toSs
  rw [dif_pos h]
  exact encS_inj (Classical.choose_spec h).symm
theorem zA6 (v : Option (List ByteArray)) : isSs (encS v) = okS0 v := by
  apply propext
  constructor
  · rintro ⟨w, h1, h2⟩; rw [encS_inj h1]; exact h2
  · intro h; exact ⟨v, rfl, h⟩
theorem V.ok_nm {v : V} (h : v.ok) : okS0 v.nm := ⟨V.ok_nl h, V.ok_n h⟩
theorem V.ok_it {v : V} (h : v.ok) : okO v.it := by
  obtain ⟨k, n, e, s, nm, it⟩ := v
  simp only [V.ok] at h
  exact h.2.2.2
theorem okO_len {o : Option (List V)} (h : okO o) : (o.getD []).length ≤ 1048576 := by
  cases o with
  | none => simp
  | some l => simp only [okO] at h; exact h.1
theorem okO_get {o : Option (List V)} (h : okO o) {i : Nat} (hi : i < (o.getD []).length) : ((o.getD []).getD i default).ok := by
  cases o with
  | none => simp at hi
  | some l =>
    simp only [okO] at h
    refine okL_mem h.2 _ ?_
    have hi : i < l.length := hi
    simp [List.getD, List.getElem?_eq_getElem hi]
end Go.Proofs.Sx

namespace Go.Proofs.Sx
open Go Go.Proofs Go.Proofs.Am 
variable {gs : List Nat}

def idxS : List ByteArray → ByteArray → Int
  | [], _ => -1
  | x :: l, s => if x = s then 0 else if idxS l s = -1 then -1 else idxS l s + 1

theorem idxS_ge : ∀ (l : List ByteArray) (s : ByteArray), -1 ≤ idxS l s
  | [], _ => by simp [idxS]
  | x :: l, s => by have := idxS_ge l s; simp only [idxS]; split <;> (try split) <;> omega
theorem idxS_none : ∀ {l : List ByteArray} {s : ByteArray}, (∀ i, i < l.length → l.getD i ⟨#[]⟩ ≠ s) → idxS l s = -1
  | [], s, _ => rfl
  | x :: l, s, h => by
    have h0 : x ≠ s := by simpa using h 0 (by simp)
    have := idxS_none (l := l) (s := s) fun i hi => by simpa using h (i + 1) (by simpa using hi)
    simp [idxS, h0, this]
theorem idxS_some : ∀ {l : List ByteArray} {s : ByteArray} {i : Nat}, i < l.length → l.getD i ⟨#[]⟩ = s → (∀ j, j < i → l.getD j ⟨#[]⟩ ≠ s) → idxS l s = i
  | [], s, i, h, _, _ => by simp at h
  | x :: l, s, 0, _, h1, _ => by simp at h1; simp [idxS, h1]
  | x :: l, s, i + 1, h, h1, h2 => by
    have h0 : x ≠ s := by simpa using h2 0 (by omega)
    have := idxS_some (l := l) (s := s) (i := i) (by simpa using h) (by simpa using h1) fun j hj => by simpa using h2 (j + 1) (by omega)
    simp only [idxS, h0, if_false, this]
    rw [if_neg (by omega)]; omega

def lv90 : Nat → List Nat × List Nat
  | 2 => ([0, 1, 5], [])
  | _ => ([], [])
theorem qA : type_of% (And.intro @zB4 (And.intro @zA0 (And.intro @zB1 (And.intro @zA3 (And.intro @zA8 (And.intro @zB0 (And.intro @zA2 (And.intro @zA9 (And.intro @zA1 (And.intro @zB2 (And.intro @zB3 (And.intro @zA4 (And.intro @zA7 (And.intro @zA5 @zA6)))))))))))))) :=
  (And.intro @zB4 (And.intro @zA0 (And.intro @zB1 (And.intro @zA3 (And.intro @zA8 (And.intro @zB0 (And.intro @zA2 (And.intro @zA9 (And.intro @zA1 (And.intro @zB2 (And.intro @zB3 (And.intro @zA4 (And.intro @zA7 (And.intro @zA5 @zA6))))))))))))))
theorem pc90 (o : Option (List ByteArray)) (s : ByteArray) (ho : okS0 o) : PureCall Tryz.prog [0] 87 [encS o, .str s] (dRet (.int .i64 (idxS (o.getD []) s))) := by
  have hl := ho.1
  refine zD0 mixed fn90 (Nat.le_of_ble_eq_true rfl) (Nat.lt_of_succ_le (Nat.le_of_ble_eq_true rfl)) (sfOk .nil) TbOk (lv := lv90) fun I F hI hF => ?_
  refine zE2 fun C hC => ?_
  generalize Q0 : encS o = Z0
  generalize Q1 : DV.str s = Z1
  cbv
  subst Q0 Q1
  subst hC
  refine ⟨?_⟩
  simp (maxSteps:=9999999) only [hI, hF, std]
  simp only [smp, smo, lookOk, lookRes, sfOf, ↓reduceIte, Nat.reduceEqDiff, reduceCtorEq, qA]
  try simp
  refine zE1 (kend := fun I => kEndF I Tb [.tmp 4]) hI hF (sfOk .nil) TbOk (by exact fun Bk e s h => endF TbOk Bk e s h) (lv := lv90) 0 (fun i : {i : Nat // i ≤ (o.getD []).length ∧ ∀ j, j < i → (o.getD []).getD j ⟨#[]⟩ ≠ s} => [.d (encS o), .d (.str s), .d (.int .i64 (i.1 : Int))]) (fun i : {i : Nat // i ≤ (o.getD []).length ∧ ∀ j, j < i → (o.getD []).getD j ⟨#[]⟩ ≠ s} => []) (fun i : {i : Nat // i ≤ (o.getD []).length ∧ ∀ j, j < i → (o.getD []).getD j ⟨#[]⟩ ≠ s} => (o.getD []).length - i.1) [] (⟨0, by omega, fun j h => by omega⟩ : {i : Nat // i ≤ (o.getD []).length ∧ ∀ j, j < i → (o.getD []).getD j ⟨#[]⟩ ≠ s}) (by rfl) (by rfl) ?_ ?_ fun i => ?_
  · rfl
  · rfl
  obtain ⟨i, hi1, hi2⟩ := i
  refine zE2 fun C hC => ?_
  generalize Q0 : encS o = Z0
  generalize Q1 : DV.str s = Z1
  generalize Q2 : DV.int .i64 (i : Int) = Z2
  cbv
  subst Q0 Q1 Q2
  subst hC
  refine ⟨?_⟩
  simp (maxSteps:=9999999) only [hI, hF, std]
  have w3 := zE6 (n := i) (by omega)
  by_cases hlt : i < (o.getD []).length
  · have g := zJ7 _ _ hlt
    simp only [smp, smo, lookOk, lookRes, sfOf, ↓reduceIte, Nat.reduceEqDiff, reduceCtorEq, qA, g]
    simp [hlt, w3, - List.getD_eq_getElem?_getD]
    refine ⟨fun h => (idxS_some hlt h hi2).symm, fun h => ⟨i + 1, by omega, ⟨by omega, fun j hj => ?_⟩, by simp⟩⟩
    by_cases hji : j = i
    · subst hji; exact h
    · exact hi2 j (by omega)
  · simp only [smp, smo, lookOk, lookRes, sfOf, ↓reduceIte, Nat.reduceEqDiff, reduceCtorEq, qA]
    simp [hlt]
    exact (idxS_none fun j hj => hi2 j (by omega)).symm
open Classical in
noncomputable def e90 : Ent := ⟨87, fun | [d_o, .str s] => decide (isSs d_o) | _ => false, fun | [d_o, .str s] => .int .i64 (idxS ((toSs d_o).getD []) s) | _ => .inil⟩
open Classical in
theorem ok90 : EntOk Tryz.prog [0] e90 := fun ds h => by
  unfold e90 at h ⊢
  simp only at h ⊢
  split at h
  · rw [decide_eq_true_iff] at h
    obtain ⟨v0, rfl, k0⟩ := h
    simp only [zB2, zA4, zA5]
    exact pc90 _ _ k0
  · cases h

def lv84 : Nat → List Nat × List Nat
  | 2 => ([0, 1, 7, 8], [])
  | _ => ([], [])
theorem pc84 (o : Option (List ByteArray)) (s : ByteArray) (ho : okS0 o) : PureCall Tryz.prog [0] 95 [encS o, .str s] (dRet (.int .i64 (idxS (o.getD []) s))) := by
  have hl := ho.1
  refine zD0 mixed fn84 (Nat.le_of_ble_eq_true rfl) (Nat.lt_of_succ_le (Nat.le_of_ble_eq_true rfl)) (sfOk .nil) TbOk (lv := lv84) fun I F hI hF => ?_
  refine zE2 fun C hC => ?_
  generalize Q0 : encS o = Z0
  generalize Q1 : DV.str s = Z1
  cbv
  subst Q0 Q1
  subst hC
  refine ⟨?_⟩
  simp (maxSteps:=9999999) only [hI, hF, std]
  simp only [smp, smo, lookOk, lookRes, sfOf, ↓reduceIte, Nat.reduceEqDiff, reduceCtorEq, qA]
  try simp
  refine zE1 (kend := fun I => kEndF I Tb [.tmp 4]) hI hF (sfOk .nil) TbOk (by exact fun Bk e s h => endF TbOk Bk e s h) (lv := lv84) 0 (fun i : {i : Nat // i ≤ (o.getD []).length ∧ ∀ j, j < i → (o.getD []).getD j ⟨#[]⟩ ≠ s} => [.d (encS o), .d (.str s), .d (.int .i64 ((o.getD []).length : Int)), .d (.int .i64 (i.1 : Int))]) (fun i : {i : Nat // i ≤ (o.getD []).length ∧ ∀ j, j < i → (o.getD []).getD j ⟨#[]⟩ ≠ s} => []) (fun i : {i : Nat // i ≤ (o.getD []).length ∧ ∀ j, j < i → (o.getD []).getD j ⟨#[]⟩ ≠ s} => (o.getD []).length - i.1) [] (⟨0, by omega, fun j h => by omega⟩ : {i : Nat // i ≤ (o.getD []).length ∧ ∀ j, j < i → (o.getD []).getD j ⟨#[]⟩ ≠ s}) (by rfl) (by rfl) ?_ ?_ fun i => ?_
  · rfl
  · rfl
  obtain ⟨i, hi1, hi2⟩ := i
  refine zE2 fun C hC => ?_
  generalize Q0 : encS o = Z0
  generalize Q1 : DV.str s = Z1
  generalize Q2 : DV.int .i64 (i : Int) = Z2
  generalize Q3 : DV.int .i64 ((o.getD []).length : Int) = Z3
  cbv
  subst Q0 Q1 Q2 Q3
  subst hC
  refine ⟨?_⟩
  simp (maxSteps:=9999999) only [hI, hF, std]
  have w3 := zE6 (n := i) (by omega)
  by_cases hlt : i < (o.getD []).length
  · have g := zJ7 _ _ hlt
    simp only [smp, smo, lookOk, lookRes, sfOf, ↓reduceIte, Nat.reduceEqDiff, reduceCtorEq, qA, g]
    simp [hlt, w3, - List.getD_eq_getElem?_getD]
    refine ⟨fun h => (idxS_some hlt h.symm hi2).symm, fun h => ⟨i + 1, by omega, ⟨by omega, fun j hj => ?_⟩, by simp⟩⟩
    by_cases hji : j = i
    · subst hji; exact fun e => h e.symm
    · exact hi2 j (by omega)
  · simp only [smp, smo, lookOk, lookRes, sfOf, ↓reduceIte, Nat.reduceEqDiff, reduceCtorEq, qA]
    simp [hlt]
    exact (idxS_none fun j hj => hi2 j (by omega)).symm
open Classical in
noncomputable def e84 : Ent := ⟨95, fun | [d_o, .str s] => decide (isSs d_o) | _ => false, fun | [d_o, .str s] => .int .i64 (idxS ((toSs d_o).getD []) s) | _ => .inil⟩
open Classical in
theorem ok84 : EntOk Tryz.prog [0] e84 := fun ds h => by
  unfold e84 at h ⊢
  simp only at h ⊢
  split at h
  · rw [decide_eq_true_iff] at h
    obtain ⟨v0, rfl, k0⟩ := h
    simp only [zB2, zA4, zA5]
    exact pc84 _ _ k0
  · cases h
theorem pc66 (o : Option (List ByteArray)) (s : ByteArray) (ho : okS0 o) : PureCall Tryz.prog [0] 67 [encS o, .str s] (dRet (.bool (decide (0 ≤ idxS (o.getD []) s)))) := by
  refine zD0 mixed fn66 (Nat.le_of_ble_eq_true rfl) (Nat.lt_of_succ_le (Nat.le_of_ble_eq_true rfl)) (sfOk (.cons ok84 .nil)) TbOk (lv := lv0) fun I F hI hF => ?_
  refine zE2 fun C hC => ?_
  generalize Q0 : encS o = Z0
  generalize Q1 : DV.str s = Z1
  cbv
  subst Q0 Q1
  subst hC
  refine ⟨?_⟩
  simp (maxSteps:=9999999) only [hI, hF, std]
  simp only [smp, smo, lookOk, lookRes, sfOf, ↓reduceIte, Nat.reduceEqDiff, reduceCtorEq, qA, e84]
  simp [ho, qA]
open Classical in
noncomputable def e66 : Ent := ⟨67, fun | [d_o, .str s] => decide (isSs d_o) | _ => false, fun | [d_o, .str s] => .bool (decide (0 ≤ idxS ((toSs d_o).getD []) s)) | _ => .inil⟩
open Classical in
theorem ok66 : EntOk Tryz.prog [0] e66 := fun ds h => by
  unfold e66 at h ⊢
  simp only at h ⊢
  split at h
  · rw [decide_eq_true_iff] at h
    obtain ⟨v0, rfl, k0⟩ := h
    simp only [zB2, zA4, zA5]
    exact pc66 _ _ k0
  · cases h
theorem pc65 (s : ByteArray) (hs : s.size ≤ 1048576) : PureCall Tryz.prog [0] 80 [.str s] (dRet (.bool (!nameOk s))) := by
  refine zD0 mixed fn65 (Nat.le_of_ble_eq_true rfl) (Nat.lt_of_succ_le (Nat.le_of_ble_eq_true rfl)) (sfOk (.cons ok21 .nil)) TbOk (lv := lv0) fun I F hI hF => ?_
  refine zE2 fun C hC => ?_
  generalize Q0 : DV.str s = Z0
  cbv
  subst Q0
  subst hC
  refine ⟨?_⟩
  simp (maxSteps:=9999999) only [hI, hF, std]
  simp only [smp, smo, lookOk, lookRes, sfOf, ↓reduceIte, Nat.reduceEqDiff, reduceCtorEq, qA, e21]
  simp [hs]
open Classical in
noncomputable def e65 : Ent := ⟨80, fun | [.str s] => decide (s.size ≤ 1048576) | _ => false, fun | [.str s] => .bool (!nameOk s) | _ => .inil⟩
open Classical in
theorem ok65 : EntOk Tryz.prog [0] e65 := fun ds h => by
  unfold e65 at h ⊢
  simp only at h ⊢
  split at h
  · exact pc65 _ (of_decide_eq_true h)
  · cases h
end Go.Proofs.Sx

namespace Go.Proofs.Sx
open Go Go.Proofs Go.Proofs.Am 
variable {gs : List Nat}

def lv83 : Nat → List Nat × List Nat
  | 2 => ([0, 1, 7, 8], [])
  | _ => ([], [])
noncomputable def idxN : List ByteArray → Int
  | [] => -1
  | x :: l => if nameOk x = false then 0 else if idxN l = -1 then -1 else idxN l + 1
theorem idxN_ge : ∀ (l : List ByteArray), -1 ≤ idxN l
  | [] => by simp [idxN]
  | x :: l => by have := idxN_ge l; simp only [idxN]; split <;> (try split) <;> omega
theorem idxN_none : ∀ {l : List ByteArray}, (∀ i, i < l.length → nameOk (l.getD i ⟨#[]⟩) = true) → idxN l = -1
  | [], _ => rfl
  | x :: l, h => by
    have h0 : nameOk x = true := by simpa using h 0 (by simp)
    have := idxN_none (l := l) fun i hi => by simpa using h (i + 1) (by simpa using hi)
    simp [idxN, h0, this]
theorem idxN_some : ∀ {l : List ByteArray} {i : Nat}, i < l.length → nameOk (l.getD i ⟨#[]⟩) = false → (∀ j, j < i → nameOk (l.getD j ⟨#[]⟩) = true) → idxN l = i
  | [], i, h, _, _ => by simp at h
  | x :: l, 0, _, h1, _ => by simp at h1; simp [idxN, h1]
  | x :: l, i + 1, h, h1, h2 => by
    have h0 : nameOk x = true := by simpa using h2 0 (by omega)
    have := idxN_some (l := l) (i := i) (by simpa using h) (by simpa using h1) fun j hj => by simpa using h2 (j + 1) (by omega)
    simp only [idxN, h0, this]
    rw [if_neg (by simp), if_neg (by omega)]; omega
theorem idxN_iff (l : List ByteArray) : 0 ≤ idxN l ↔ ¬ ∀ x ∈ l, nameOk x = true := by
  induction l with
  | nil => simp [idxN]
  | cons x l ih =>
    have hge := idxN_ge l
    simp only [idxN]
    cases h : nameOk x with
    | false => simp [h]
    | true =>
      rw [if_neg (by simp)]
      simp only [List.mem_cons, forall_eq_or_imp, h, true_and]
      rw [← ih]
      split <;> omega

theorem okS0_get {o : Option (List ByteArray)} (h : okS0 o) {i : Nat} (hi : i < (o.getD []).length) : ((o.getD []).getD i ⟨#[]⟩).size ≤ 1048576 := by
  refine h.2 _ ?_
  simp [List.getD, List.getElem?_eq_getElem hi]

theorem pc83 (o : Option (List ByteArray)) (ho : okS0 o) : PureCall Tryz.prog [0] 105 [encS o, .fn 80 []] (dRet (.int .i64 (idxN (o.getD [])))) := by
  have hl := ho.1
  refine zD0 mixed fn83 (Nat.le_of_ble_eq_true rfl) (Nat.lt_of_succ_le (Nat.le_of_ble_eq_true rfl)) (sfOk (.cons ok65 .nil)) TbOk (lv := lv83) fun I F hI hF => ?_
  refine zE2 fun C hC => ?_
  generalize Q0 : encS o = Z0
  cbv
  subst Q0
  subst hC
  refine ⟨?_⟩
  simp (maxSteps:=9999999) only [hI, hF, std]
  simp only [smp, smo, lookOk, lookRes, sfOf, ↓reduceIte, Nat.reduceEqDiff, reduceCtorEq, qA]
  try simp
  refine zE1 (kend := fun I => kEndF I Tb [.tmp 4]) hI hF (sfOk (.cons ok65 .nil)) TbOk (by exact fun Bk e s h => endF TbOk Bk e s h) (lv := lv83) 0 (fun i : {i : Nat // i ≤ (o.getD []).length ∧ ∀ j, j < i → nameOk ((o.getD []).getD j ⟨#[]⟩) = true} => [.d (encS o), .d (.fn 80 []), .d (.int .i64 ((o.getD []).length : Int)), .d (.int .i64 (i.1 : Int))]) (fun i : {i : Nat // i ≤ (o.getD []).length ∧ ∀ j, j < i → nameOk ((o.getD []).getD j ⟨#[]⟩) = true} => []) (fun i : {i : Nat // i ≤ (o.getD []).length ∧ ∀ j, j < i → nameOk ((o.getD []).getD j ⟨#[]⟩) = true} => (o.getD []).length - i.1) [] (⟨0, by omega, fun j h => by omega⟩ : {i : Nat // i ≤ (o.getD []).length ∧ ∀ j, j < i → nameOk ((o.getD []).getD j ⟨#[]⟩) = true}) (by rfl) (by rfl) ?_ ?_ fun i => ?_
  · rfl
  · rfl
  obtain ⟨i, hi1, hi2⟩ := i
  refine zE2 fun C hC => ?_
  generalize Q0 : encS o = Z0
  generalize Q1 : DV.int .i64 (i : Int) = Z1
  generalize Q2 : DV.int .i64 ((o.getD []).length : Int) = Z2
  cbv
  subst Q0 Q1 Q2
  subst hC
  refine ⟨?_⟩
  simp (maxSteps:=9999999) only [hI, hF, std]
  have w3 := zE6 (n := i) (by omega)
  by_cases hlt : i < (o.getD []).length
  · have g := zJ7 _ _ hlt
    have hs := okS0_get ho hlt
    simp only [smp, smo, lookOk, lookRes, sfOf, ↓reduceIte, Nat.reduceEqDiff, reduceCtorEq, qA, g, e65]
    simp [hlt, w3, hs, - List.getD_eq_getElem?_getD]
    refine ⟨fun h => (idxN_some hlt h hi2).symm, fun h => ⟨i + 1, by omega, ⟨by omega, fun j hj => ?_⟩, by simp⟩⟩
    by_cases hji : j = i
    · subst hji; exact h
    · exact hi2 j (by omega)
  · simp only [smp, smo, lookOk, lookRes, sfOf, ↓reduceIte, Nat.reduceEqDiff, reduceCtorEq, qA]
    simp [hlt]
    exact (idxN_none fun j hj => hi2 j (by omega)).symm
open Classical in
noncomputable def e83 : Ent := ⟨105, fun | [d_o, .fn 80 []] => decide (isSs d_o) | _ => false, fun | [d_o, .fn 80 []] => .int .i64 (idxN ((toSs d_o).getD [])) | _ => .inil⟩
open Classical in
theorem ok83 : EntOk Tryz.prog [0] e83 := fun ds h => by
  unfold e83 at h ⊢
  simp only at h ⊢
  split at h
  · rw [decide_eq_true_iff] at h
    obtain ⟨v0, rfl, k0⟩ := h
    simp only [zB2, zA4, zA5]
    exact pc83 _ k0
  · cases h
theorem pc64 (o : Option (List ByteArray)) (ho : okS0 o) : PureCall Tryz.prog [0] 79 [encS o, .fn 80 []] (dRet (.bool (decide (0 ≤ idxN (o.getD []))))) := by
  refine zD0 mixed fn64 (Nat.le_of_ble_eq_true rfl) (Nat.lt_of_succ_le (Nat.le_of_ble_eq_true rfl)) (sfOk (.cons ok83 .nil)) TbOk (lv := lv0) fun I F hI hF => ?_
  refine zE2 fun C hC => ?_
  generalize Q0 : encS o = Z0
  cbv
  subst Q0
  subst hC
  refine ⟨?_⟩
  simp (maxSteps:=9999999) only [hI, hF, std]
  simp only [smp, smo, lookOk, lookRes, sfOf, ↓reduceIte, Nat.reduceEqDiff, reduceCtorEq, qA, e83]
  simp [ho, qA]
open Classical in
noncomputable def e64 : Ent := ⟨79, fun | [d_o, .fn 80 []] => decide (isSs d_o) | _ => false, fun | [d_o, .fn 80 []] => .bool (decide (0 ≤ idxN ((toSs d_o).getD []))) | _ => .inil⟩
open Classical in
theorem ok64 : EntOk Tryz.prog [0] e64 := fun ds h => by
  unfold e64 at h ⊢
  simp only at h ⊢
  split at h
  · rw [decide_eq_true_iff] at h
    obtain ⟨v0, rfl, k0⟩ := h
    simp only [zB2, zA4, zA5]
    exact pc64 _ k0
  · cases h

def CharP (k : Int) (b : Int) : Prop := (k = 4 → b = 48 ∨ b = 49) ∧ (k = 6 → 32 ≤ b ∧ b ≤ 126)
def CharsP (v : V) : Prop := ∀ i, i < v.s.size → CharP v.k (byt v.s i)
open Classical in
noncomputable def charsOk (v : V) : Bool := decide (CharsP v)
theorem charsOk_t (v : V) : charsOk v = true ↔ CharsP v := by simp [charsOk]
theorem charsOk_f (v : V) : charsOk v = false ↔ ¬ CharsP v := by simp [charsOk]
theorem wrap64_byt (s : ByteArray) (i : Nat) : IntKind.i64.wrap (byt s i) = byt s i := by
  have := byt_lt s i
  rw [zJ4 (by omega) (by omega)]

def lv89 : Nat → List Nat × List Nat
  | 2 => ([1, 3], [0])
  | _ => ([], [])
theorem pc89 (v : V) (hv : v.ok) : PureCall Tryz.prog [0] 85 [v.enc] (dRet (.bool (charsOk v))) := by
  have hl := V.ok_s hv
  refine zD0 mixed fn89 (Nat.le_of_ble_eq_true rfl) (Nat.lt_of_succ_le (Nat.le_of_ble_eq_true rfl)) (sfOk (.cons ok41 .nil)) TbOk (lv := lv89) fun I F hI hF => ?_
  refine zE2 fun C hC => ?_
  generalize Q0 : v.enc = Z0
  cbv
  subst Q0
  subst hC
  refine ⟨?_⟩
  simp (maxSteps:=9999999) only [hI, hF, std]
  simp only [smp, smo, lookOk, lookRes, sfOf, ↓reduceIte, Nat.reduceEqDiff, reduceCtorEq, qA]
  try simp
  refine zE1 (kend := fun I => kEndF I Tb [.tmp 2]) hI hF (sfOk (.cons ok41 .nil)) TbOk (by exact fun Bk e s h => endF TbOk Bk e s h) (lv := lv89) 0 (fun i : {i : Nat // i ≤ v.s.size ∧ ∀ j, j < i → CharP v.k (byt v.s j)} => [.loc 0 6 0 0, .d (.int .i64 (i.1 : Int))]) (fun i : {i : Nat // i ≤ v.s.size ∧ ∀ j, j < i → CharP v.k (byt v.s j)} => [(0, some ⟨[.d v.enc], 6, 25, true, true⟩)]) (fun i : {i : Nat // i ≤ v.s.size ∧ ∀ j, j < i → CharP v.k (byt v.s j)} => v.s.size - i.1) [0] (⟨0, by omega, fun j h => by omega⟩ : {i : Nat // i ≤ v.s.size ∧ ∀ j, j < i → CharP v.k (byt v.s j)}) (by rfl) (by rfl) ?_ ?_ fun i => ?_
  · rfl
  · rfl
  obtain ⟨i, hi1, hi2⟩ := i
  refine zE2 fun C hC => ?_
  generalize Q0 : v.enc = Z0
  generalize Q1 : DV.int .i64 (i : Int) = Z1
  cbv
  subst Q0 Q1
  subst hC
  refine ⟨?_⟩
  simp (maxSteps:=9999999) only [hI, hF, std]
  have w3 := zE6 (n := i) (by omega)
  have w4 := wrap64_byt v.s i
  by_cases hlt : i < v.s.size
  · simp only [smp, smo, lookOk, lookRes, sfOf, ↓reduceIte, Nat.reduceEqDiff, reduceCtorEq, qA, e41, w4]
    simp [hlt, w3, qA, - List.getD_eq_getElem?_getD, w4, charsOk_f]
    refine ⟨fun h hc => ?_, fun h1 h2 => ⟨i + 1, by omega, ⟨by omega, fun j hj => ?_⟩, by simp⟩⟩
    · have := hc i hlt; unfold CharP at this; omega
    · by_cases hji : j = i
      · subst hji; unfold CharP; omega
      · exact hi2 j (by omega)
  · simp only [smp, smo, lookOk, lookRes, sfOf, ↓reduceIte, Nat.reduceEqDiff, reduceCtorEq, qA]
    simp [hlt, qA, charsOk_t]
    exact fun j hj => hi2 j (by omega)
open Classical in
noncomputable def e89 : Ent := ⟨85, fun | [d_v] => decide (isV d_v) | _ => false, fun | [d_v] => .bool (charsOk (toV d_v)) | _ => .inil⟩
open Classical in
theorem ok89 : EntOk Tryz.prog [0] e89 := fun ds h => by
  unfold e89 at h ⊢
  simp only at h ⊢
  split at h
  · rw [decide_eq_true_iff] at h
    obtain ⟨v0, rfl, k0⟩ := h
    simp only [zB2, zA4, zA5]
    exact pc89 _ k0
  · cases h

def lv63 : Nat → List Nat × List Nat
  | 2 => ([1, 7, 8, 9], [0, 1])
  | _ => ([], [])
theorem pc63 (v : V) (hv : v.ok) : PureCall Tryz.prog [0] 78 [v.enc] (dRet (.int .i64 (if charsOk v then 0 else 3))) := by
  have hl := V.ok_s hv
  refine zD0 mixed fn63 (Nat.le_of_ble_eq_true rfl) (Nat.lt_of_succ_le (Nat.le_of_ble_eq_true rfl)) (sfOk .nil) TbOk (lv := lv63) fun I F hI hF => ?_
  refine zE2 fun C hC => ?_
  generalize Q0 : v.enc = Z0
  cbv
  subst Q0
  subst hC
  refine ⟨?_⟩
  simp (maxSteps:=9999999) only [hI, hF, std]
  simp only [smp, smo, lookOk, lookRes, sfOf, ↓reduceIte, Nat.reduceEqDiff, reduceCtorEq, qA, bytesA_bel]
  try simp
  refine zE1 (kend := fun I => kEndF I Tb [.tmp 2]) hI hF (sfOk .nil) TbOk (by exact fun Bk e s h => endF TbOk Bk e s h) (lv := lv63) 0 (fun i : {i : Nat // i ≤ v.s.size ∧ ∀ j, j < i → CharP v.k (byt v.s j)} => [.loc 0 6 0 0, .slc 1 1 0 v.s.size, .d (.int .i64 (v.s.size : Int)), .d (.int .i64 (i.1 : Int))]) (fun i : {i : Nat // i ≤ v.s.size ∧ ∀ j, j < i → CharP v.k (byt v.s j)} => [(0, some ⟨[.d v.enc], 6, 25, true, true⟩), (1, some ⟨bytesA v.s, 1, 5, true, false⟩)]) (fun i : {i : Nat // i ≤ v.s.size ∧ ∀ j, j < i → CharP v.k (byt v.s j)} => v.s.size - i.1) [0, 1] (⟨0, by omega, fun j h => by omega⟩ : {i : Nat // i ≤ v.s.size ∧ ∀ j, j < i → CharP v.k (byt v.s j)}) (by rfl) (by rfl) ?_ ?_ fun i => ?_
  · rfl
  · rfl
  obtain ⟨i, hi1, hi2⟩ := i
  refine zE2 fun C hC => ?_
  generalize Q0 : v.enc = Z0
  generalize Q1 : bytesA v.s = Z1
  generalize Q2 : DV.int .i64 (i : Int) = Z2
  generalize Q3 : DV.int .i64 (v.s.size : Int) = Z3
  generalize Q4 : v.s.size = Z4
  cbv
  subst Q0 Q1 Q2 Q3 Q4
  subst hC
  refine ⟨?_⟩
  simp (maxSteps:=9999999) only [hI, hF, std]
  have w3 := zE6 (n := i) (by omega)
  by_cases hlt : i < v.s.size
  · have g1 := dgetA_bytes v.s i hlt
    have g2 := isDat_bytes v.s i hlt
    simp only [hlt, g1, g2, bytesA_len, bytesA_bel, smp, smo, lookOk, lookRes, sfOf, ↓reduceIte, Nat.reduceEqDiff, reduceCtorEq, qA]
    simp [hlt, w3, qA, - List.getD_eq_getElem?_getD]
    have hno : ¬ CharP v.k (byt v.s i) → charsOk v = false := fun h => (charsOk_f v).2 fun hc => h (hc i hlt)
    refine ⟨fun a b c => hno fun h => by unfold CharP at h; omega, fun a => ⟨fun b c => hno fun h => by unfold CharP at h; omega, fun b => ⟨i + 1, by omega, ⟨by omega, fun j hj => ?_⟩, by simp⟩⟩⟩
    by_cases hji : j = i
    · subst hji; unfold CharP; omega
    · exact hi2 j (by omega)
  · have hc : charsOk v = true := (charsOk_t v).2 fun j hj => hi2 j (by omega)
    simp only [smp, smo, lookOk, lookRes, sfOf, ↓reduceIte, Nat.reduceEqDiff, reduceCtorEq, qA]
    simp [hlt, qA, hc]
open Classical in
noncomputable def e63 : Ent := ⟨78, fun | [d_v] => decide (isV d_v) | _ => false, fun | [d_v] => .int .i64 (if charsOk (toV d_v) then 0 else 3) | _ => .inil⟩
open Classical in
theorem ok63 : EntOk Tryz.prog [0] e63 := fun ds h => by
  unfold e63 at h ⊢
  simp only at h ⊢
  split at h
  · rw [decide_eq_true_iff] at h
    obtain ⟨v0, rfl, k0⟩ := h
    simp only [zB2, zA4, zA5]
    exact pc63 _ k0
  · cases h

def shapeD (low high : Int) (text names items : Bool) (most : Int) (one sorted inside ok : Bool) : DV :=
  .tup [.agg [.int .i64 low, .int .i64 high, .bool text, .bool names, .bool items, .int .i64 most, .bool one, .bool sorted, .bool inside], .bool ok]
def shapeK (k : Int) : DV :=
  if k = 1 then shapeD 0 1 false false false 0 false false false true
  else if k = 2 then shapeD (-1152921504606846976) 1152921504606846976 false false false 0 false false true true
  else if k = 3 ∨ k = 4 ∨ k = 5 ∨ k = 6 then shapeD 0 0 true false false 0 false false false true
  else if k = 9 then shapeD 0 0 false true true 16 false false false true
  else if k = 10 then shapeD 0 0 false false true 40 false false false true
  else if k = 11 then shapeD 0 0 false false true 40 false true false true
  else if k = 12 then shapeD 0 0 false true true 1 true false false true
  else if k = 14 then shapeD 0 4 false false false 0 false false false true
  else shapeD 0 0 false false false 0 false false false false
theorem pc62 (k : Int) : PureCall Tryz.prog [0] 77 [.int .i64 k] (dRet (shapeK k)) := by
  refine zD0 mixed fn62 (Nat.le_of_ble_eq_true rfl) (Nat.lt_of_succ_le (Nat.le_of_ble_eq_true rfl)) (sfOk .nil) TbOk (lv := lv0) fun I F hI hF => ?_
  refine zE2 fun C hC => ?_
  generalize Q0 : DV.int .i64 k = Z0
  cbv
  subst Q0
  subst hC
  refine ⟨?_⟩
  simp (maxSteps:=9999999) only [hI, hF, std]
  simp only [smp, smo, lookOk, lookRes, sfOf, ↓reduceIte, Nat.reduceEqDiff, reduceCtorEq, qA]
  simp (config := {contextual := true}) [shapeK, shapeD, dIsAgg]
noncomputable def e62 : Ent := ⟨77, fun | [.int .i64 _] => true | _ => false, fun | [.int .i64 k] => shapeK k | _ => .inil⟩
open Classical in
theorem ok62 : EntOk Tryz.prog [0] e62 := fun ds h => by
  unfold e62 at h ⊢
  simp only at h ⊢
  split at h
  · exact pc62 _
  · cases h
end Go.Proofs.Sx

namespace Go.Proofs.Sx
open Go Go.Proofs Go.Proofs.Am 
variable {gs : List Nat}

def thn (a b : Int) : Int := if a = 0 then b else a
def cmpI (a b : Int) : Int := if a < b then -1 else if b < a then 1 else 0
def cmpS (a b : ByteArray) : Int := Lib.compareBytes a.data.toList b.data.toList
def cmpIs : List Int → List Int → Int
  | [], [] => 0
  | [], _ :: _ => -1
  | _ :: _, [] => 1
  | x :: l, y :: r => thn (cmpI x y) (cmpIs l r)
def cmpN : List ByteArray → List ByteArray → Int
  | [], [] => 0
  | [], _ :: _ => -1
  | _ :: _, [] => 1
  | x :: l, y :: r => thn (cmpS x y) (cmpN l r)
mutual
def cmpV : V → V → Int
  | .mk k n e s nm it, .mk k' n' e' s' nm' it' => thn (cmpI k k') (thn (cmpI n n') (thn (cmpI e e') (thn (cmpS s s') (thn (cmpN (nm.getD []) (nm'.getD [])) (cmpO it it')))))
def cmpO : Option (List V) → Option (List V) → Int
  | none, o => cmpL [] (o.getD [])
  | some l, o => cmpL l (o.getD [])
def cmpL : List V → List V → Int
  | [], [] => 0
  | [], _ :: _ => -1
  | _ :: _, [] => 1
  | x :: l, y :: r => thn (cmpV x y) (cmpL l r)
end
theorem cmpO_eq (a b : Option (List V)) : cmpO a b = cmpL (a.getD []) (b.getD []) := by cases a <;> rw [cmpO] <;> rfl
theorem cmpV_eq (v w : V) : cmpV v w = thn (cmpI v.k w.k) (thn (cmpI v.n w.n) (thn (cmpI v.e w.e) (thn (cmpS v.s w.s) (thn (cmpN v.names w.names) (cmpL v.items w.items))))) := by
  cases v; cases w; rw [cmpV, cmpO_eq]; rfl

def dropL {α : Type} (c : List α → List α → Int) (l r : List α) (i : Nat) : Int := c (l.drop i) (r.drop i)

theorem cmpIs_step (l r : List Int) (i : Nat) (h1 : i < l.length) (h2 : i < r.length) : cmpIs (l.drop i) (r.drop i) = thn (cmpI (l.getD i 0) (r.getD i 0)) (cmpIs (l.drop (i + 1)) (r.drop (i + 1))) := by
  rw [List.drop_eq_getElem_cons h1, List.drop_eq_getElem_cons h2]
  simp [cmpIs, List.getD, h1, h2]
theorem cmpIs_end (l r : List Int) (i : Nat) (h : ¬ (i < l.length ∧ i < r.length)) (h1 : i ≤ l.length) (h2 : i ≤ r.length) : cmpIs (l.drop i) (r.drop i) = cmpI l.length r.length := by
  unfold cmpI
  rcases Nat.lt_or_ge i l.length with ha | ha
  · have hb : ¬ i < r.length := fun hb => h ⟨ha, hb⟩
    rw [List.drop_eq_getElem_cons ha, List.drop_eq_nil_of_le (by omega : r.length ≤ i)]
    simp only [cmpIs]
    rw [if_neg (by omega), if_pos (by omega)]
  · rw [List.drop_eq_nil_of_le ha]
    rcases Nat.lt_or_ge i r.length with hb | hb
    · rw [List.drop_eq_getElem_cons hb]
      simp only [cmpIs]
      rw [if_pos (by omega)]
    · rw [List.drop_eq_nil_of_le hb]
      simp only [cmpIs]
      rw [if_neg (by omega), if_neg (by omega)]
theorem cmpN_step (l r : List ByteArray) (i : Nat) (h1 : i < l.length) (h2 : i < r.length) : cmpN (l.drop i) (r.drop i) = thn (cmpS (l.getD i ⟨#[]⟩) (r.getD i ⟨#[]⟩)) (cmpN (l.drop (i + 1)) (r.drop (i + 1))) := by
  rw [List.drop_eq_getElem_cons h1, List.drop_eq_getElem_cons h2]
  simp [cmpN, List.getD, h1, h2]
theorem cmpN_end (l r : List ByteArray) (i : Nat) (h : ¬ (i < l.length ∧ i < r.length)) (h1 : i ≤ l.length) (h2 : i ≤ r.length) : cmpN (l.drop i) (r.drop i) = cmpI l.length r.length := by
  unfold cmpI
  rcases Nat.lt_or_ge i l.length with ha | ha
  · have hb : ¬ i < r.length := fun hb => h ⟨ha, hb⟩
    rw [List.drop_eq_getElem_cons ha, List.drop_eq_nil_of_le (by omega : r.length ≤ i)]
    simp only [cmpN]
    rw [if_neg (by omega), if_pos (by omega)]
  · rw [List.drop_eq_nil_of_le ha]
    rcases Nat.lt_or_ge i r.length with hb | hb
    · rw [List.drop_eq_getElem_cons hb]
      simp only [cmpN]
      rw [if_pos (by omega)]
    · rw [List.drop_eq_nil_of_le hb]
      simp only [cmpN]
      rw [if_neg (by omega), if_neg (by omega)]
theorem cmpL_step (l r : List V) (i : Nat) (h1 : i < l.length) (h2 : i < r.length) : cmpL (l.drop i) (r.drop i) = thn (cmpV (l.getD i default) (r.getD i default)) (cmpL (l.drop (i + 1)) (r.drop (i + 1))) := by
  rw [List.drop_eq_getElem_cons h1, List.drop_eq_getElem_cons h2, cmpL]
  simp [List.getD, h1, h2]
theorem cmpL_end (l r : List V) (i : Nat) (h : ¬ (i < l.length ∧ i < r.length)) (h1 : i ≤ l.length) (h2 : i ≤ r.length) : cmpL (l.drop i) (r.drop i) = cmpI l.length r.length := by
  unfold cmpI
  rcases Nat.lt_or_ge i l.length with ha | ha
  · have hb : ¬ i < r.length := fun hb => h ⟨ha, hb⟩
    rw [List.drop_eq_getElem_cons ha, List.drop_eq_nil_of_le (by omega : r.length ≤ i), cmpL]
    rw [if_neg (by omega), if_pos (by omega)]
  · rw [List.drop_eq_nil_of_le ha]
    rcases Nat.lt_or_ge i r.length with hb | hb
    · rw [List.drop_eq_getElem_cons hb, cmpL]
      rw [if_pos (by omega)]
    · rw [List.drop_eq_nil_of_le hb, cmpL]
      rw [if_neg (by omega), if_neg (by omega)]

def encI (l : List Int) : DV := .sim (l.map (.int .i64))
theorem lst_encI (l : List Int) : lstD (encI l) = l.map (.int .i64) := rfl
theorem isSl_encI (l : List Int) : isSlD (encI l) = true := rfl
theorem get_int (l : List Int) (i : Nat) (h : i < l.length) : (l.map (DV.int .i64)).getD i .inil = .int .i64 (l.getD i 0) := by
  simp [List.getD, List.getElem?_map, List.getElem?_eq_getElem h]

theorem wrap_cnt (p : Prop) [Decidable p] : IntKind.i64.wrap (IntKind.i64.wrap (2 * if p then 1 else 0) - 1) = if p then 1 else -1 := by split <;> rfl
theorem wrap_cnt2 (p q : Prop) [Decidable p] [Decidable q] : IntKind.i64.wrap ((if p then 1 else 0) - if q then 1 else 0) = (if p then 1 else 0) - if q then 1 else 0 := by split <;> split <;> rfl
theorem thn_ne {a b : Int} (h : a ≠ 0) : thn a b = a := by simp [thn, h]
theorem thn_eq {a b : Int} (h : a = 0) : thn a b = b := by simp [thn, h]
theorem zI6 (a b : Int) : cmpI a b = 0 ↔ a = b := by unfold cmpI; split <;> (try split) <;> omega
def lv56 : Nat → List Nat × List Nat
  | 2 => ([0, 1, 5], [])
  | _ => ([], [])
theorem pc56 (l r : List Int) (hl : l.length ≤ 1048576) (hr : r.length ≤ 1048576) : PureCall Tryz.prog [0] 53 [encI l, encI r] (dRet (.int .i64 (cmpIs l r))) := by
  refine zD0 mixed fn56 (Nat.le_of_ble_eq_true rfl) (Nat.lt_of_succ_le (Nat.le_of_ble_eq_true rfl)) (sfOk (.cons ok57 .nil)) TbOk (lv := lv56) fun I F hI hF => ?_
  refine zE2 fun C hC => ?_
  generalize Q0 : encI l = Z0
  generalize Q1 : encI r = Z1
  cbv
  subst Q0 Q1
  subst hC
  refine ⟨?_⟩
  simp (maxSteps:=9999999) only [hI, hF, std]
  simp only [smp, smo, lookOk, lookRes, sfOf, ↓reduceIte, Nat.reduceEqDiff, reduceCtorEq, qA]
  try simp
  refine zE1 (kend := fun I => kEndF I Tb [.tmp 4]) hI hF (sfOk (.cons ok57 .nil)) TbOk (by exact fun Bk e s h => endF TbOk Bk e s h) (lv := lv56) 0 (fun i : {i : Nat // i ≤ l.length ∧ i ≤ r.length ∧ cmpIs l r = cmpIs (l.drop i) (r.drop i)} => [.d (encI l), .d (encI r), .d (.int .i64 (i.1 : Int))]) (fun i : {i : Nat // i ≤ l.length ∧ i ≤ r.length ∧ cmpIs l r = cmpIs (l.drop i) (r.drop i)} => []) (fun i : {i : Nat // i ≤ l.length ∧ i ≤ r.length ∧ cmpIs l r = cmpIs (l.drop i) (r.drop i)} => l.length - i.1) [] (⟨0, by omega, by omega, by simp⟩ : {i : Nat // i ≤ l.length ∧ i ≤ r.length ∧ cmpIs l r = cmpIs (l.drop i) (r.drop i)}) (by rfl) (by rfl) ?_ ?_ fun i => ?_
  · rfl
  · rfl
  obtain ⟨i, hi1, hi2, hi3⟩ := i
  refine zE2 fun C hC => ?_
  generalize Q0 : encI l = Z0
  generalize Q1 : encI r = Z1
  generalize Q2 : DV.int .i64 (i : Int) = Z2
  cbv
  subst Q0 Q1 Q2
  subst hC
  refine ⟨?_⟩
  simp (maxSteps:=9999999) only [hI, hF, std]
  have w3 := zE6 (n := i) (by omega)
  by_cases hlt : i < l.length ∧ i < r.length
  · have g1 := get_int _ _ hlt.1
    have g2 := get_int _ _ hlt.2
    have hs := cmpIs_step l r i hlt.1 hlt.2
    simp only [smp, smo, lookOk, lookRes, sfOf, ↓reduceIte, Nat.reduceEqDiff, reduceCtorEq, qA, lst_encI, isSl_encI, g1, g2, e57, List.length_map]
    simp [hlt, w3, - List.getD_eq_getElem?_getD, hi3, hs, wrap_cnt]
    refine ⟨fun h => ?_, fun h => ⟨i + 1, by omega, ⟨by omega, by omega, thn_eq ((zI6 _ _).2 h)⟩, by simp⟩⟩
    rw [thn_ne (fun h0 => h ((zI6 _ _).1 h0))]
    unfold cmpI; split <;> (try split) <;> omega
  · have he := cmpIs_end l r i hlt hi1 hi2
    simp only [smp, smo, lookOk, lookRes, sfOf, ↓reduceIte, Nat.reduceEqDiff, reduceCtorEq, qA, lst_encI, isSl_encI, e57, List.length_map]
    simp [hi3, he, wrap_cnt2]
    refine ⟨fun a b => absurd ⟨a, b⟩ hlt, fun _ => ?_⟩
    unfold cmpI; split <;> split <;> (try split) <;> omega
open Classical in
noncomputable def e56 : Ent := ⟨53, fun | [.sim a, .sim b] => decide (∃ l r : List Int, a = l.map (.int .i64) ∧ b = r.map (.int .i64) ∧ l.length ≤ 1048576 ∧ r.length ≤ 1048576) | _ => false, fun | [.sim a, .sim b] => .int .i64 (cmpIs (a.map Am.asInt) (b.map Am.asInt)) | _ => .inil⟩
theorem map_asInt (l : List Int) : (l.map (DV.int .i64)).map Am.asInt = l := by
  induction l with
  | nil => rfl
  | cons x l ih => simp only [List.map_cons, ih]; rfl
open Classical in
theorem ok56 : EntOk Tryz.prog [0] e56 := fun ds h => by
  unfold e56 at h ⊢
  simp only at h ⊢
  split at h
  · rw [decide_eq_true_iff] at h
    obtain ⟨l, r, rfl, rfl, h1, h2⟩ := h
    simp only [map_asInt]
    exact pc56 l r h1 h2
  · cases h

theorem u8_lt {a b : UInt8} (h1 : ¬ a < b) (h2 : ¬ b < a) : a = b := by
  have h1 := UInt8.not_lt.1 h1
  have h2 := UInt8.not_lt.1 h2
  exact UInt8.le_antisymm h2 h1
theorem cmp_less : ∀ (a b : List UInt8), Op.bytesLess a b = decide (Lib.compareBytes a b = -1)
  | [], [] => by simp [Op.bytesLess, Lib.compareBytes]
  | [], _ :: _ => by simp [Op.bytesLess, Lib.compareBytes]
  | _ :: _, [] => by simp [Op.bytesLess, Lib.compareBytes]
  | a :: l, b :: r => by
    have ih := cmp_less l r
    simp only [Op.bytesLess, Lib.compareBytes]
    by_cases h1 : a < b
    · simp [h1]
    · by_cases h2 : b < a
      · have : a ≠ b := by rintro rfl; exact h1 h2
        simp [h1, h2, this]
      · have := u8_lt h1 h2
        subst this
        simp [h1, ih]
theorem cmp_zero : ∀ (a b : List UInt8), Lib.compareBytes a b = 0 ↔ a = b
  | [], [] => by simp [Lib.compareBytes]
  | [], _ :: _ => by simp [Lib.compareBytes]
  | _ :: _, [] => by simp [Lib.compareBytes]
  | a :: l, b :: r => by
    have ih := cmp_zero l r
    simp only [Lib.compareBytes]
    by_cases h1 : a < b
    · have : a ≠ b := by rintro rfl; exact absurd h1 (UInt8.lt_irrefl a)
      simp [h1, this]
    · by_cases h2 : b < a
      · have : a ≠ b := by rintro rfl; exact h1 h2
        simp [h1, h2, this]
      · have := u8_lt h1 h2
        subst this
        simp [h1, ih]
theorem cmp_anti : ∀ (a b : List UInt8), Lib.compareBytes b a = - Lib.compareBytes a b
  | [], [] => by simp [Lib.compareBytes]
  | [], _ :: _ => by simp [Lib.compareBytes]
  | _ :: _, [] => by simp [Lib.compareBytes]
  | a :: l, b :: r => by
    have ih := cmp_anti l r
    simp only [Lib.compareBytes]
    by_cases h1 : a < b
    · have : ¬ b < a := fun h => absurd (UInt8.lt_trans h1 h) (UInt8.lt_irrefl a)
      simp [h1, this]
    · by_cases h2 : b < a
      · simp [h1, h2]
      · simp [h1, h2, ih]
theorem cmp_range : ∀ (a b : List UInt8), Lib.compareBytes a b = -1 ∨ Lib.compareBytes a b = 0 ∨ Lib.compareBytes a b = 1
  | [], [] => by simp [Lib.compareBytes]
  | [], _ :: _ => by simp [Lib.compareBytes]
  | _ :: _, [] => by simp [Lib.compareBytes]
  | a :: l, b :: r => by
    have ih := cmp_range l r
    simp only [Lib.compareBytes]
    split
    · simp
    · split
      · simp
      · exact ih
theorem cmpS_zero (a b : ByteArray) : cmpS a b = 0 ↔ a = b := by
  unfold cmpS; rw [cmp_zero]
  obtain ⟨⟨a⟩⟩ := a; obtain ⟨⟨b⟩⟩ := b
  simp
theorem ltB_cmpS (a b : ByteArray) : ltB a b = decide (cmpS a b = -1) := cmp_less _ _
theorem cmpS_anti (a b : ByteArray) : cmpS b a = - cmpS a b := cmp_anti _ _
theorem cmpS_range (a b : ByteArray) : cmpS a b = -1 ∨ cmpS a b = 0 ∨ cmpS a b = 1 := cmp_range _ _
theorem cmpS_gtr {a b : ByteArray} (h : a ≠ b) : (if (!(ltB a b || decide (a = b))) = true then (1 : Int) else -1) = cmpS a b := by
  rw [ltB_cmpS]
  have h0 : cmpS a b ≠ 0 := fun e => h ((cmpS_zero a b).1 e)
  rcases cmpS_range a b with e | e | e
  · simp [e]
  · exact absurd e h0
  · simp [e, h]
theorem cmpIs3 (a b c a' b' c' : Int) : cmpIs [a, b, c] [a', b', c'] = thn (cmpI a a') (thn (cmpI b b') (cmpI c c')) := by
  simp only [cmpIs, thn]; split <;> (try split) <;> (try split) <;> simp_all
theorem thn_assoc (a b c : Int) : thn (thn a b) c = thn a (thn b c) := by unfold thn; split <;> (try split) <;> simp_all
theorem cmpV_eq' (v w : V) : cmpV v w = thn (cmpIs [v.k, v.n, v.e] [w.k, w.n, w.e]) (thn (cmpS v.s w.s) (thn (cmpN v.names w.names) (cmpL v.items w.items))) := by
  rw [cmpV_eq, cmpIs3, thn_assoc, thn_assoc]

open Classical in
noncomputable def e36n (n : Nat) : Ent := ⟨36, fun | [a, b] => decide (isV a ∧ isV b ∧ (toV a).sz < n) | _ => false, fun | [a, b] => .int .i64 (cmpV (toV a) (toV b)) | _ => .inil⟩
open Classical in
theorem ok36n {n : Nat} (h : ∀ v w : V, v.ok → w.ok → v.sz < n → PureCall Tryz.prog [0] 36 [v.enc, w.enc] (dRet (.int .i64 (cmpV v w)))) : EntOk Tryz.prog [0] (e36n n) := fun ds hk => by
  unfold e36n at hk ⊢
  simp only at hk ⊢
  split at hk
  · rw [decide_eq_true_iff] at hk
    obtain ⟨⟨v, rfl, h1⟩, ⟨w, rfl, h2⟩, h3⟩ := hk
    simp only [zB2] at h3 ⊢
    exact h v w h1 h2 h3
  · cases hk

theorem szO_get {o : Option (List V)} {i : Nat} (hi : i < (o.getD []).length) : ((o.getD []).getD i default).sz ≤ szO o := by
  cases o with
  | none => simp at hi
  | some l =>
    have hi : i < l.length := hi
    refine szL_mem ?_
    simp [List.getD, List.getElem?_eq_getElem hi]
def lv58 : Nat → List Nat × List Nat
  | 2 => ([0, 1, 5], [])
  | _ => ([], [])
theorem pc58 (n : Nat) (h36 : ∀ v w : V, v.ok → w.ok → v.sz < n → PureCall Tryz.prog [0] 36 [v.enc, w.enc] (dRet (.int .i64 (cmpV v w)))) (a b : Option (List V)) (ha : okO a) (hb : okO b) (hn : szO a < n) :
    PureCall Tryz.prog [0] 55 [encO a, encO b] (dRet (.int .i64 (cmpL (a.getD []) (b.getD [])))) := by
  have hl := okO_len ha
  have hr := okO_len hb
  have ok36' := ok36n h36
  refine zD0 mixed fn58 (Nat.le_of_ble_eq_true rfl) (Nat.lt_of_succ_le (Nat.le_of_ble_eq_true rfl)) (sfOk (.cons ok57 (.cons ok36' .nil))) TbOk (lv := lv58) fun I F hI hF => ?_
  refine zE2 fun C hC => ?_
  generalize Q0 : encO a = Z0
  generalize Q1 : encO b = Z1
  cbv
  subst Q0 Q1
  subst hC
  refine ⟨?_⟩
  simp (maxSteps:=9999999) only [hI, hF, std]
  simp only [smp, smo, lookOk, lookRes, sfOf, ↓reduceIte, Nat.reduceEqDiff, reduceCtorEq, qA]
  try simp
  refine zE1 (kend := fun I => kEndF I Tb [.tmp 4]) hI hF (sfOk (.cons ok57 (.cons ok36' .nil))) TbOk (by exact fun Bk e s h => endF TbOk Bk e s h) (lv := lv58) 0 (fun i : {i : Nat // i ≤ (a.getD []).length ∧ i ≤ (b.getD []).length ∧ cmpL (a.getD []) (b.getD []) = cmpL ((a.getD []).drop i) ((b.getD []).drop i)} => [.d (encO a), .d (encO b), .d (.int .i64 (i.1 : Int))]) (fun i : {i : Nat // i ≤ (a.getD []).length ∧ i ≤ (b.getD []).length ∧ cmpL (a.getD []) (b.getD []) = cmpL ((a.getD []).drop i) ((b.getD []).drop i)} => []) (fun i : {i : Nat // i ≤ (a.getD []).length ∧ i ≤ (b.getD []).length ∧ cmpL (a.getD []) (b.getD []) = cmpL ((a.getD []).drop i) ((b.getD []).drop i)} => (a.getD []).length - i.1) [] (⟨0, by omega, by omega, by simp⟩ : {i : Nat // i ≤ (a.getD []).length ∧ i ≤ (b.getD []).length ∧ cmpL (a.getD []) (b.getD []) = cmpL ((a.getD []).drop i) ((b.getD []).drop i)}) (by rfl) (by rfl) ?_ ?_ fun i => ?_
  · rfl
  · rfl
  obtain ⟨i, hi1, hi2, hi3⟩ := i
  refine zE2 fun C hC => ?_
  generalize Q0 : encO a = Z0
  generalize Q1 : encO b = Z1
  generalize Q2 : DV.int .i64 (i : Int) = Z2
  cbv
  subst Q0 Q1 Q2
  subst hC
  refine ⟨?_⟩
  simp (maxSteps:=9999999) only [hI, hF, std]
  have w3 := zE6 (n := i) (by omega)
  by_cases hlt : i < (a.getD []).length ∧ i < (b.getD []).length
  · have g1 := zH8 _ _ hlt.1
    have g2 := zH8 _ _ hlt.2
    have k1 := okO_get ha hlt.1
    have k2 := okO_get hb hlt.2
    have k3 := szO_get hlt.1
    have hs := cmpL_step (a.getD []) (b.getD []) i hlt.1 hlt.2
    have k4 : ((a.getD []).getD i default).sz < n := by omega
    simp only [smp, smo, lookOk, lookRes, sfOf, ↓reduceIte, Nat.reduceEqDiff, reduceCtorEq, qA, g1, g2, e57, e36n, List.length_map]
    simp [hlt, w3, - List.getD_eq_getElem?_getD, hi3, hs, k1, k2, k4, qA]
    exact ⟨fun h => (thn_ne h).symm, fun h => ⟨i + 1, by omega, ⟨by omega, by omega, thn_eq h⟩, by simp⟩⟩
  · have he := cmpL_end (a.getD []) (b.getD []) i hlt hi1 hi2
    simp only [smp, smo, lookOk, lookRes, sfOf, ↓reduceIte, Nat.reduceEqDiff, reduceCtorEq, qA, e57, List.length_map]
    simp [hi3, he, wrap_cnt2]
    refine ⟨fun a b => absurd ⟨a, b⟩ hlt, fun _ => ?_⟩
    unfold cmpI; split <;> split <;> (try split) <;> omega

open Classical in
noncomputable def scalarV (d : DV) (o : Option (List V)) : Bool := decide (d = encO o)
theorem scalarV_enc (o : Option (List V)) : scalarV (encO o) o = true := by simp [scalarV]
def lv36 : Nat → List Nat × List Nat
  | 7 => ([2, 3, 6], [0, 1])
  | _ => ([], [])
theorem pc36n : ∀ (n : Nat) (v w : V), v.ok → w.ok → v.sz < n → PureCall Tryz.prog [0] 36 [v.enc, w.enc] (dRet (.int .i64 (cmpV v w)))
  | 0, v, w, _, _, h => by omega
  | n + 1, v, w, hv, hw, hn => by
    have ih := pc36n n
    have hsz : szO v.it < n := by
      obtain ⟨k, m, e, s, nm, it⟩ := v
      simp only [V.sz] at hn
      simp only [V.it]; omega
    have pc58' := pc58 n ih v.it w.it (V.ok_it hv) (V.ok_it hw) hsz
    have ok58' : EntOk Tryz.prog [0] ⟨55, fun ds => match ds with | [a, b] => scalarV a v.it && scalarV b w.it | _ => false, fun _ => .int .i64 (cmpL v.items w.items)⟩ := fun ds h => by
      simp only at h
      split at h
      · simp only [Bool.and_eq_true, scalarV, decide_eq_true_iff] at h
        rw [h.1, h.2]; exact pc58'
      · cases h
    refine zD0 mixed fn36 (Nat.le_of_ble_eq_true rfl) (Nat.lt_of_succ_le (Nat.le_of_ble_eq_true rfl)) (sfOk (.cons ok57 (.cons ok56 (.cons ok58' .nil)))) TbOk (lv := lv36) fun I F hI hF => ?_
    refine zE2 fun C hC => ?_
    generalize Q0 : v.enc = Z0
    generalize Q1 : w.enc = Z1
    cbv
    subst Q0 Q1
    subst hC
    refine ⟨?_⟩
    simp (maxSteps:=9999999) only [hI, hF, std]
    have ms : ∀ a b c : Int, [DV.int .i64 a, .int .i64 b, .int .i64 c].map Am.asInt = [a, b, c] := fun a b c => rfl
    have m3 : ∃ l r : List Int, [DV.int .i64 v.k, .int .i64 v.n, .int .i64 v.e] = l.map (.int .i64) ∧ [DV.int .i64 w.k, .int .i64 w.n, .int .i64 w.e] = r.map (.int .i64) ∧ l.length ≤ 1048576 ∧ r.length ≤ 1048576 := ⟨[v.k, v.n, v.e], [w.k, w.n, w.e], rfl, rfl, by simp, by simp⟩
    have ha := cmpV_eq' v w
    simp only [smp, smo, lookOk, lookRes, sfOf, ↓reduceIte, Nat.reduceEqDiff, reduceCtorEq, qA, e57, e56, ms, m3, wrap_cnt]
    by_cases h0 : cmpIs [v.k, v.n, v.e] [w.k, w.n, w.e] = 0
    · rw [thn_eq h0] at ha
      by_cases h1 : v.s = w.s
      · rw [thn_eq ((cmpS_zero _ _).2 h1)] at ha
        simp [h0, h1]
        refine zE1 (kend := fun I => kEndF I Tb [.tmp 4]) hI hF (sfOk (.cons ok57 (.cons ok56 (.cons ok58' .nil)))) TbOk (by exact fun Bk e s h => endF TbOk Bk e s h) (lv := lv36) 0 (fun i : {i : Nat // i ≤ v.names.length ∧ i ≤ w.names.length ∧ cmpN v.names w.names = cmpN (v.names.drop i) (w.names.drop i)} => [.loc 0 6 0 0, .loc 1 6 0 0, .d (.int .i64 (i.1 : Int))]) (fun i : {i : Nat // i ≤ v.names.length ∧ i ≤ w.names.length ∧ cmpN v.names w.names = cmpN (v.names.drop i) (w.names.drop i)} => [(0, some ⟨[.d v.enc], 6, 25, true, true⟩), (1, some ⟨[.d w.enc], 6, 25, true, true⟩)]) (fun i : {i : Nat // i ≤ v.names.length ∧ i ≤ w.names.length ∧ cmpN v.names w.names = cmpN (v.names.drop i) (w.names.drop i)} => v.names.length - i.1) [0, 1] (⟨0, by omega, by omega, by simp⟩ : {i : Nat // i ≤ v.names.length ∧ i ≤ w.names.length ∧ cmpN v.names w.names = cmpN (v.names.drop i) (w.names.drop i)}) (by rfl) (by rfl) ?_ ?_ fun i => ?_
        · rfl
        · rfl
        obtain ⟨i, hi1, hi2, hi3⟩ := i
        refine zE2 fun C hC => ?_
        generalize Q0 : v.enc = Z0
        generalize Q1 : w.enc = Z1
        generalize Q2 : DV.int .i64 (i : Int) = Z2
        cbv
        subst Q0 Q1 Q2
        subst hC
        refine ⟨?_⟩
        simp (maxSteps:=9999999) only [hI, hF, std]
        have w3 := zE6 (n := i) (by have := V.ok_nl hv; omega)
        have e1 : v.nm.getD [] = v.names := rfl
        have e2 : w.nm.getD [] = w.names := rfl
        have e3 : v.it.getD [] = v.items := rfl
        by_cases hlt : i < v.names.length ∧ i < w.names.length
        · have g1 := zJ7 _ _ hlt.1
          have g2 := zJ7 _ _ hlt.2
          have hs := cmpN_step v.names w.names i hlt.1 hlt.2
          simp only [smp, smo, lookOk, lookRes, sfOf, ↓reduceIte, Nat.reduceEqDiff, reduceCtorEq, qA, g1, g2, e57, e56, e1, e2, List.length_map, wrap_cnt]
          simp [hlt, w3, - List.getD_eq_getElem?_getD]
          refine ⟨fun h => ?_, fun h => ⟨i + 1, by omega, ⟨by omega, by omega, ?_⟩, by simp⟩⟩
          · have h2 := cmpS_gtr h
            rw [ha, hi3, hs, thn_assoc, thn_ne (fun e => h ((cmpS_zero _ _).1 e)), ← h2]
            simp [h]
          · rw [hi3, hs, thn_eq ((cmpS_zero _ _).2 h)]
        · have he := cmpN_end v.names w.names i hlt hi1 hi2
          simp only [smp, smo, lookOk, lookRes, sfOf, ↓reduceIte, Nat.reduceEqDiff, reduceCtorEq, qA, e57, e56, e1, e2, List.length_map, wrap_cnt, scalarV_enc]
          simp [- List.getD_eq_getElem?_getD]
          refine ⟨fun a b => absurd ⟨a, b⟩ hlt, fun _ => ⟨fun h => ?_, fun h => ?_⟩⟩
          · rw [ha, hi3, he, thn_ne (fun e => h ((zI6 _ _).1 e))]
            unfold cmpI; split <;> split <;> (try split) <;> omega
          · rw [ha, hi3, he, thn_eq ((zI6 _ _).2 h)]
      · have h2 := cmpS_gtr h1
        rw [thn_ne (fun e => h1 ((cmpS_zero _ _).1 e))] at ha
        simp [h0, h1, ha, ← h2]
    · rw [thn_ne h0] at ha
      simp [h0, ha]
theorem pc36 (v w : V) (hv : v.ok) (hw : w.ok) : PureCall Tryz.prog [0] 36 [v.enc, w.enc] (dRet (.int .i64 (cmpV v w))) := pc36n (v.sz + 1) v w hv hw (by omega)
open Classical in
noncomputable def e36 : Ent := ⟨36, fun | [d_v, d_w] => decide (isV d_v ∧ isV d_w) | _ => false, fun | [d_v, d_w] => .int .i64 (cmpV (toV d_v) (toV d_w)) | _ => .inil⟩
open Classical in
theorem ok36 : EntOk Tryz.prog [0] e36 := fun ds h => by
  unfold e36 at h ⊢
  simp only at h ⊢
  split at h
  · rw [decide_eq_true_iff] at h
    obtain ⟨⟨v0, rfl, k0⟩, ⟨v1, rfl, k1⟩⟩ := h
    simp only [zB2, zA4, zA5]
    exact pc36 _ _ k0 k1
  · cases h
end Go.Proofs.Sx

namespace Go.Proofs.Sx
open Go Go.Proofs Go.Proofs.Am 
variable {gs : List Nat}

theorem pc134 (s : ByteArray) : PureCall Tryz.prog [0] 150 [.str s] (dRet (.bool false)) := by
  refine zD0 mixed fn134 (Nat.le_of_ble_eq_true rfl) (Nat.lt_of_succ_le (Nat.le_of_ble_eq_true rfl)) (sfOk .nil) TbOk (lv := lv0) fun I F hI hF => ?_
  refine zE2 fun C hC => ?_
  generalize Q0 : DV.str s = Z0
  cbv
  subst Q0
  subst hC
  refine ⟨?_⟩
  simp (maxSteps:=9999999) only [hI, hF, std]
  simp only [smp, smo, lookOk, lookRes, sfOf, ↓reduceIte, Nat.reduceEqDiff, reduceCtorEq, qA]
  simp
noncomputable def e134 : Ent := ⟨150, fun | [.str _] => true | _ => false, fun | [.str s] => .bool false | _ => .inil⟩
open Classical in
theorem ok134 : EntOk Tryz.prog [0] e134 := fun ds h => by
  unfold e134 at h ⊢
  simp only at h ⊢
  split at h
  · exact pc134 _
  · cases h
theorem pc110 (a b : ByteArray) : PureCall Tryz.prog [0] 134 [.str a, .str b] (dRet (.int .i64 (cmpS a b))) := by
  refine zD0 mixed fn110 (Nat.le_of_ble_eq_true rfl) (Nat.lt_of_succ_le (Nat.le_of_ble_eq_true rfl)) (sfOk (.cons ok134 .nil)) TbOk (lv := lv0) fun I F hI hF => ?_
  refine zE2 fun C hC => ?_
  generalize Q0 : DV.str a = Z0
  generalize Q1 : DV.str b = Z1
  cbv
  subst Q0 Q1
  subst hC
  refine ⟨?_⟩
  simp (maxSteps:=9999999) only [hI, hF, std]
  simp only [smp, smo, lookOk, lookRes, sfOf, ↓reduceIte, Nat.reduceEqDiff, reduceCtorEq, qA, e134, ltB_cmpS]
  have h := cmpS_range a b
  have hz := cmpS_zero a b
  simp
  refine ⟨fun h => h.symm, fun h1 => ⟨fun h2 h3 => ?_, fun h2 => ?_⟩⟩
  · rcases h with h | h | h
    · exact absurd h h1
    · exact absurd (hz.1 h) h3
    · exact h.symm
  · exact (hz.2 (h2 h1)).symm
noncomputable def e110 : Ent := ⟨134, fun | [.str _, .str _] => true | _ => false, fun | [.str a, .str b] => .int .i64 (cmpS a b) | _ => .inil⟩
open Classical in
theorem ok110 : EntOk Tryz.prog [0] e110 := fun ds h => by
  unfold e110 at h ⊢
  simp only at h ⊢
  split at h
  · exact pc110 _ _
  · cases h
def lv86 : Nat → List Nat × List Nat
  | 2 => ([0, 1, 9, 10, 11], [])
  | _ => ([], [])
theorem pc86 (a b : Option (List ByteArray)) (ha : okS0 a) (hb : okS0 b) : PureCall Tryz.prog [0] 107 [encS a, encS b] (dRet (.int .i64 (cmpN (a.getD []) (b.getD [])))) := by
  have hl := ha.1
  have hr := hb.1
  refine zD0 mixed fn86 (Nat.le_of_ble_eq_true rfl) (Nat.lt_of_succ_le (Nat.le_of_ble_eq_true rfl)) (sfOk (.cons ok110 .nil)) TbOk (lv := lv86) fun I F hI hF => ?_
  refine zE2 fun C hC => ?_
  generalize Q0 : encS a = Z0
  generalize Q1 : encS b = Z1
  cbv
  subst Q0 Q1
  subst hC
  refine ⟨?_⟩
  simp (maxSteps:=9999999) only [hI, hF, std]
  simp only [smp, smo, lookOk, lookRes, sfOf, ↓reduceIte, Nat.reduceEqDiff, reduceCtorEq, qA]
  try simp
  refine zE1 (kend := fun I => kEndF I Tb [.tmp 4]) hI hF (sfOk (.cons ok110 .nil)) TbOk (by exact fun Bk e s h => endF TbOk Bk e s h) (lv := lv86) 0 (fun i : {i : Nat // i ≤ (a.getD []).length ∧ i ≤ (b.getD []).length ∧ cmpN (a.getD []) (b.getD []) = cmpN ((a.getD []).drop i) ((b.getD []).drop i)} => [.d (encS a), .d (encS b), .d (encS a), .d (.int .i64 ((a.getD []).length : Int)), .d (.int .i64 (i.1 : Int))]) (fun i : {i : Nat // i ≤ (a.getD []).length ∧ i ≤ (b.getD []).length ∧ cmpN (a.getD []) (b.getD []) = cmpN ((a.getD []).drop i) ((b.getD []).drop i)} => []) (fun i : {i : Nat // i ≤ (a.getD []).length ∧ i ≤ (b.getD []).length ∧ cmpN (a.getD []) (b.getD []) = cmpN ((a.getD []).drop i) ((b.getD []).drop i)} => (a.getD []).length - i.1) [] (⟨0, by omega, by omega, by simp⟩ : {i : Nat // i ≤ (a.getD []).length ∧ i ≤ (b.getD []).length ∧ cmpN (a.getD []) (b.getD []) = cmpN ((a.getD []).drop i) ((b.getD []).drop i)}) (by rfl) (by rfl) ?_ ?_ fun i => ?_
  · rfl
  · rfl
  obtain ⟨i, hi1, hi2, hi3⟩ := i
  refine zE2 fun C hC => ?_
  generalize Q0 : encS a = Z0
  generalize Q1 : encS b = Z1
  generalize Q2 : DV.int .i64 (i : Int) = Z2
  generalize Q3 : DV.int .i64 ((a.getD []).length : Int) = Z3
  cbv
  subst Q0 Q1 Q2 Q3
  subst hC
  refine ⟨?_⟩
  simp (maxSteps:=9999999) only [hI, hF, std]
  have w3 := zE6 (n := i) (by omega)
  by_cases hlt : i < (a.getD []).length ∧ i < (b.getD []).length
  · have g1 := zJ7 _ _ hlt.1
    have g2 := zJ7 _ _ hlt.2
    have hs := cmpN_step (a.getD []) (b.getD []) i hlt.1 hlt.2
    simp only [smp, smo, lookOk, lookRes, sfOf, ↓reduceIte, Nat.reduceEqDiff, reduceCtorEq, qA, g1, g2, e110]
    simp [hlt, w3, - List.getD_eq_getElem?_getD, hi3, hs]
    refine ⟨fun h => by omega, fun h => (thn_ne h).symm, fun h => ⟨i + 1, by omega, ⟨by omega, by omega, thn_eq h⟩, by simp⟩⟩
  · have he := cmpN_end (a.getD []) (b.getD []) i hlt hi1 hi2
    have hc : ∀ x y : Nat, cmpI x y = if x < y then -1 else if y < x then 1 else 0 := fun x y => by unfold cmpI; split <;> split <;> (try split) <;> omega
    by_cases h1 : i < (a.getD []).length
    · have g1 := zJ7 _ _ h1
      have h2 : ¬ i < (b.getD []).length := fun h => hlt ⟨h1, h⟩
      simp only [smp, smo, lookOk, lookRes, sfOf, ↓reduceIte, Nat.reduceEqDiff, reduceCtorEq, qA, g1, e110]
      simp [hi3, he, - List.getD_eq_getElem?_getD, h1, h2, hc]
      split <;> (try split) <;> omega
    · simp only [smp, smo, lookOk, lookRes, sfOf, ↓reduceIte, Nat.reduceEqDiff, reduceCtorEq, qA, e110]
      simp [hi3, he, - List.getD_eq_getElem?_getD, h1, hc]
      constructor <;> intro h <;> (try intro _) <;> (try split) <;> (try split) <;> omega
open Classical in
noncomputable def e86 : Ent := ⟨107, fun | [d_a, d_b] => decide (isSs d_a ∧ isSs d_b) | _ => false, fun | [d_a, d_b] => .int .i64 (cmpN ((toSs d_a).getD []) ((toSs d_b).getD [])) | _ => .inil⟩
open Classical in
theorem ok86 : EntOk Tryz.prog [0] e86 := fun ds h => by
  unfold e86 at h ⊢
  simp only at h ⊢
  split at h
  · rw [decide_eq_true_iff] at h
    obtain ⟨⟨v0, rfl, k0⟩, ⟨v1, rfl, k1⟩⟩ := h
    simp only [zB2, zA4, zA5]
    exact pc86 _ _ k0 k1
  · cases h

noncomputable def e68n (n : Nat) : Ent := { e36n n with f := 82 }
open Classical in
theorem ok68n {n : Nat} (h : ∀ v w : V, v.ok → w.ok → v.sz < n → PureCall Tryz.prog [0] 82 [v.enc, w.enc] (dRet (.int .i64 (cmpV v w)))) : EntOk Tryz.prog [0] (e68n n) := fun ds hk => by
  unfold e68n e36n at hk ⊢
  simp only at hk ⊢
  split at hk
  · rw [decide_eq_true_iff] at hk
    obtain ⟨⟨v, rfl, h1⟩, ⟨w, rfl, h2⟩, h3⟩ := hk
    simp only [zB2] at h3 ⊢
    exact h v w h1 h2 h3
  · cases hk
def lv87 : Nat → List Nat × List Nat
  | 2 => ([0, 1, 2, 11, 12, 13], [])
  | _ => ([], [])
theorem pc87 (n : Nat) (h68 : ∀ v w : V, v.ok → w.ok → v.sz < n → PureCall Tryz.prog [0] 82 [v.enc, w.enc] (dRet (.int .i64 (cmpV v w)))) (a b : Option (List V)) (ha : okO a) (hb : okO b) (hn : szO a < n) :
    PureCall Tryz.prog [0] 108 [encO a, encO b, .fn 82 []] (dRet (.int .i64 (cmpL (a.getD []) (b.getD [])))) := by
  have hl := okO_len ha
  have hr := okO_len hb
  have ok68' := ok68n h68
  refine zD0 mixed fn87 (Nat.le_of_ble_eq_true rfl) (Nat.lt_of_succ_le (Nat.le_of_ble_eq_true rfl)) (sfOk (.cons ok68' .nil)) TbOk (lv := lv87) fun I F hI hF => ?_
  refine zE2 fun C hC => ?_
  generalize Q0 : encO a = Z0
  generalize Q1 : encO b = Z1
  cbv
  subst Q0 Q1
  subst hC
  refine ⟨?_⟩
  simp (maxSteps:=9999999) only [hI, hF, std]
  simp only [smp, smo, lookOk, lookRes, sfOf, ↓reduceIte, Nat.reduceEqDiff, reduceCtorEq, qA]
  try simp
  refine zE1 (kend := fun I => kEndF I Tb [.tmp 6]) hI hF (sfOk (.cons ok68' .nil)) TbOk (by exact fun Bk e s h => endF TbOk Bk e s h) (lv := lv87) 0 (fun i : {i : Nat // i ≤ (a.getD []).length ∧ i ≤ (b.getD []).length ∧ cmpL (a.getD []) (b.getD []) = cmpL ((a.getD []).drop i) ((b.getD []).drop i)} => [.d (encO a), .d (encO b), .d (.fn 82 []), .d (encO a), .d (.int .i64 ((a.getD []).length : Int)), .d (.int .i64 (i.1 : Int))]) (fun i : {i : Nat // i ≤ (a.getD []).length ∧ i ≤ (b.getD []).length ∧ cmpL (a.getD []) (b.getD []) = cmpL ((a.getD []).drop i) ((b.getD []).drop i)} => []) (fun i : {i : Nat // i ≤ (a.getD []).length ∧ i ≤ (b.getD []).length ∧ cmpL (a.getD []) (b.getD []) = cmpL ((a.getD []).drop i) ((b.getD []).drop i)} => (a.getD []).length - i.1) [] (⟨0, by omega, by omega, by simp⟩ : {i : Nat // i ≤ (a.getD []).length ∧ i ≤ (b.getD []).length ∧ cmpL (a.getD []) (b.getD []) = cmpL ((a.getD []).drop i) ((b.getD []).drop i)}) (by rfl) (by rfl) ?_ ?_ fun i => ?_
  · rfl
  · rfl
  obtain ⟨i, hi1, hi2, hi3⟩ := i
  refine zE2 fun C hC => ?_
  generalize Q0 : encO a = Z0
  generalize Q1 : encO b = Z1
  generalize Q2 : DV.int .i64 (i : Int) = Z2
  generalize Q3 : DV.int .i64 ((a.getD []).length : Int) = Z3
  cbv
  subst Q0 Q1 Q2 Q3
  subst hC
  refine ⟨?_⟩
  simp (maxSteps:=9999999) only [hI, hF, std]
  have w3 := zE6 (n := i) (by omega)
  by_cases hlt : i < (a.getD []).length ∧ i < (b.getD []).length
  · have g1 := zH8 _ _ hlt.1
    have g2 := zH8 _ _ hlt.2
    have k1 := okO_get ha hlt.1
    have k2 := okO_get hb hlt.2
    have k3 := szO_get hlt.1
    have k4 : ((a.getD []).getD i default).sz < n := by omega
    have hs := cmpL_step (a.getD []) (b.getD []) i hlt.1 hlt.2
    simp only [smp, smo, lookOk, lookRes, sfOf, ↓reduceIte, Nat.reduceEqDiff, reduceCtorEq, qA, g1, g2, e68n, e36n]
    simp [hlt, w3, - List.getD_eq_getElem?_getD, hi3, hs, k1, k2, k4, qA]
    refine ⟨fun h => by omega, fun h => (thn_ne h).symm, fun h => ⟨i + 1, by omega, ⟨by omega, by omega, thn_eq h⟩, by simp⟩⟩
  · have he := cmpL_end (a.getD []) (b.getD []) i hlt hi1 hi2
    have hc : ∀ x y : Nat, cmpI x y = if x < y then -1 else if y < x then 1 else 0 := fun x y => by unfold cmpI; split <;> split <;> (try split) <;> omega
    by_cases h1 : i < (a.getD []).length
    · have g1 := zH8 _ _ h1
      have h2 : ¬ i < (b.getD []).length := fun h => hlt ⟨h1, h⟩
      simp only [smp, smo, lookOk, lookRes, sfOf, ↓reduceIte, Nat.reduceEqDiff, reduceCtorEq, qA, g1, e68n, e36n]
      simp [hi3, he, - List.getD_eq_getElem?_getD, h1, h2, hc]
      repeat' (first | apply And.intro | intro _)
      all_goals first | omega | (split <;> (try split) <;> omega) | skip
    · simp only [smp, smo, lookOk, lookRes, sfOf, ↓reduceIte, Nat.reduceEqDiff, reduceCtorEq, qA, e68n, e36n]
      simp [hi3, he, - List.getD_eq_getElem?_getD, h1, hc]
      constructor <;> intro h <;> (try intro _) <;> (try split) <;> (try split) <;> omega

def lv68 : Nat → List Nat × List Nat
  | 2 => ([2, 3, 24, 25, 26], [0, 1, 2])
  | _ => ([], [])
theorem pc68n : ∀ (n : Nat) (v w : V), v.ok → w.ok → v.sz < n → PureCall Tryz.prog [0] 82 [v.enc, w.enc] (dRet (.int .i64 (cmpV v w)))
  | 0, v, w, _, _, h => by omega
  | n + 1, v, w, hv, hw, hn => by
    have ih := pc68n n
    have hsz : szO v.it < n := by
      obtain ⟨k, m, e, s, nm, it⟩ := v
      simp only [V.sz] at hn
      simp only [V.it]; omega
    have pc87' := pc87 n ih v.it w.it (V.ok_it hv) (V.ok_it hw) hsz
    have ok87' : EntOk Tryz.prog [0] ⟨108, fun ds => match ds with | [a, b, .fn 82 []] => scalarV a v.it && scalarV b w.it | _ => false, fun _ => .int .i64 (cmpL v.items w.items)⟩ := fun ds h => by
      simp only at h
      split at h
      · simp only [Bool.and_eq_true, scalarV, decide_eq_true_iff] at h
        rw [h.1, h.2]; exact pc87'
      · cases h
    refine zD0 mixed fn68 (Nat.le_of_ble_eq_true rfl) (Nat.lt_of_succ_le (Nat.le_of_ble_eq_true rfl)) (sfOk (.cons ok85 (.cons ok86 (.cons ok87' .nil)))) TbOk (lv := lv68) fun I F hI hF => ?_
    refine zE2 fun C hC => ?_
    generalize Q0 : v.enc = Z0
    generalize Q1 : w.enc = Z1
    cbv
    subst Q0 Q1
    subst hC
    refine ⟨?_⟩
    simp (maxSteps:=9999999) only [hI, hF, std]
    simp only [smp, smo, lookOk, lookRes, sfOf, ↓reduceIte, Nat.reduceEqDiff, reduceCtorEq, qA]
    try simp
    have hal := cmpV_eq' v w
    rw [cmpIs3] at hal
    refine zE1 (I := { I with off := fun n x => n + (Am.asInt x).toNat }) (kend := fun I => kEndF I Tb [.tmp 4]) (by subst hI; rfl) hF (sfOk (.cons ok85 (.cons ok86 (.cons ok87' .nil)))) TbOk (endF TbOk) (lv := lv68) 0
      (fun i : {i : Fin 4 // (0 < i.1 → v.k = w.k) ∧ (1 < i.1 → v.n = w.n) ∧ (2 < i.1 → v.e = w.e)} => [.loc 0 6 0 0, .loc 1 6 0 0, .slc 2 2 0 3, .d (.int .i64 3), .d (.int .i64 (i.1.1 : Int))])
      (fun _ => [(0, some ⟨[.d v.enc], 6, 25, true, true⟩), (1, some ⟨[.d w.enc], 6, 25, true, true⟩), (2, some ⟨[.agg [.d (.int .i64 v.k), .d (.int .i64 w.k)], .agg [.d (.int .i64 v.n), .d (.int .i64 w.n)], .agg [.d (.int .i64 v.e), .d (.int .i64 w.e)]], 2, 118, true, true⟩)])
      (fun i => 3 - i.1.1) [0, 1, 2] ⟨0, by omega, by omega, by omega⟩ rfl rfl ?_ ?_ fun i => ?_
    · rfl
    · rfl
    obtain ⟨i, hi1, hi2, hi3⟩ := i
    match i, hi1, hi2, hi3 with
    | 0, hi1, hi2, hi3 =>
      refine zE2 fun C hC => ?_
      generalize Q0 : v.enc = Z0
      generalize Q1 : w.enc = Z1
      generalize Q2 : DV.int .i64 v.k = Z2
      generalize Q3 : DV.int .i64 v.n = Z3
      generalize Q4 : DV.int .i64 v.e = Z4
      generalize Q5 : DV.int .i64 w.k = Z5
      generalize Q6 : DV.int .i64 w.n = Z6
      generalize Q7 : DV.int .i64 w.e = Z7
      cbv
      subst Q0 Q1 Q2 Q3 Q4 Q5 Q6 Q7
      subst hC
      refine ⟨?_⟩
      simp (maxSteps:=9999999) only [hI, hF, std]
      simp only [smp, smo, lookOk, lookRes, sfOf, ↓reduceIte, Nat.reduceEqDiff, reduceCtorEq, qA]
      have hlt : (Int.ofNat 0 < 3) := by decide
      have hge : (0 ≤ Int.ofNat 0) := by decide
      have hw1 : IntKind.i64.wrap (Int.ofNat 0 + 1) = 1 := rfl
      rw [thn_assoc] at hal
      by_cases hk : v.k = w.k
      · simp [hk, hlt, hge, hw1]
        refine ⟨⟨1, by decide⟩, ?_⟩
        have q1 := hi1
        have q2 := hi2
        simp at q1 q2
        simp [hk, q1, q2]
        rfl
      · rw [thn_ne (fun e => hk ((zI6 _ _).1 e))] at hal
        simp [hk, hlt, hge, hal, cmpI]
        repeat' (first | apply And.intro | intro _)
        all_goals first | omega | (split <;> (try split) <;> omega)
    | 1, hi1, hi2, hi3 =>
      refine zE2 fun C hC => ?_
      generalize Q0 : v.enc = Z0
      generalize Q1 : w.enc = Z1
      generalize Q2 : DV.int .i64 v.k = Z2
      generalize Q3 : DV.int .i64 v.n = Z3
      generalize Q4 : DV.int .i64 v.e = Z4
      generalize Q5 : DV.int .i64 w.k = Z5
      generalize Q6 : DV.int .i64 w.n = Z6
      generalize Q7 : DV.int .i64 w.e = Z7
      cbv
      subst Q0 Q1 Q2 Q3 Q4 Q5 Q6 Q7
      subst hC
      refine ⟨?_⟩
      simp (maxSteps:=9999999) only [hI, hF, std]
      simp only [smp, smo, lookOk, lookRes, sfOf, ↓reduceIte, Nat.reduceEqDiff, reduceCtorEq, qA]
      have hlt : (Int.ofNat 1 < 3) := by decide
      have hge : (0 ≤ Int.ofNat 1) := by decide
      have hw1 : IntKind.i64.wrap (Int.ofNat 1 + 1) = 2 := rfl
      rw [thn_eq (a := cmpI v.k w.k) ((zI6 _ _).2 (hi1 (by simp))), thn_assoc] at hal
      by_cases hk : v.n = w.n
      · simp [hk, hlt, hge, hw1]
        refine ⟨⟨2, by decide⟩, ?_⟩
        have q1 := hi1
        have q2 := hi2
        simp at q1 q2
        simp [hk, q1, q2]
        rfl
      · rw [thn_ne (fun e => hk ((zI6 _ _).1 e))] at hal
        simp [hk, hlt, hge, hal, cmpI]
        repeat' (first | apply And.intro | intro _)
        all_goals first | omega | (split <;> (try split) <;> omega)
    | 2, hi1, hi2, hi3 =>
      refine zE2 fun C hC => ?_
      generalize Q0 : v.enc = Z0
      generalize Q1 : w.enc = Z1
      generalize Q2 : DV.int .i64 v.k = Z2
      generalize Q3 : DV.int .i64 v.n = Z3
      generalize Q4 : DV.int .i64 v.e = Z4
      generalize Q5 : DV.int .i64 w.k = Z5
      generalize Q6 : DV.int .i64 w.n = Z6
      generalize Q7 : DV.int .i64 w.e = Z7
      cbv
      subst Q0 Q1 Q2 Q3 Q4 Q5 Q6 Q7
      subst hC
      refine ⟨?_⟩
      simp (maxSteps:=9999999) only [hI, hF, std]
      simp only [smp, smo, lookOk, lookRes, sfOf, ↓reduceIte, Nat.reduceEqDiff, reduceCtorEq, qA]
      have hlt : (Int.ofNat 2 < 3) := by decide
      have hge : (0 ≤ Int.ofNat 2) := by decide
      have hw1 : IntKind.i64.wrap (Int.ofNat 2 + 1) = 3 := rfl
      rw [thn_eq (a := cmpI v.k w.k) ((zI6 _ _).2 (hi1 (by simp))), thn_eq (a := cmpI v.n w.n) ((zI6 _ _).2 (hi2 (by simp)))] at hal
      by_cases hk : v.e = w.e
      · simp [hk, hlt, hge, hw1]
        refine ⟨⟨3, by decide⟩, ?_⟩
        have q1 := hi1
        have q2 := hi2
        simp at q1 q2
        simp [hk, q1, q2]
        rfl
      · rw [thn_ne (fun e => hk ((zI6 _ _).1 e))] at hal
        simp [hk, hlt, hge, hal, cmpI]
        repeat' (first | apply And.intro | intro _)
        all_goals first | omega | (split <;> (try split) <;> omega)
    | 3, hi1, hi2, hi3 =>
      refine zE2 fun C hC => ?_
      generalize Q0 : v.enc = Z0
      generalize Q1 : w.enc = Z1
      generalize Q2 : DV.int .i64 v.k = Z2
      generalize Q3 : DV.int .i64 v.n = Z3
      generalize Q4 : DV.int .i64 v.e = Z4
      generalize Q5 : DV.int .i64 w.k = Z5
      generalize Q6 : DV.int .i64 w.n = Z6
      generalize Q7 : DV.int .i64 w.e = Z7
      cbv
      subst Q0 Q1 Q2 Q3 Q4 Q5 Q6 Q7
      subst hC
      refine ⟨?_⟩
      simp (maxSteps:=9999999) only [hI, hF, std]
      have hlt : ¬ (Int.ofNat 3 < 3) := by decide
      rw [thn_eq (a := cmpI v.k w.k) ((zI6 _ _).2 (hi1 (by decide))), thn_eq (a := cmpI v.n w.n) ((zI6 _ _).2 (hi2 (by decide))), thn_eq (a := cmpI v.e w.e) ((zI6 _ _).2 (hi3 (by decide)))] at hal
      have e85' : ∀ a b, e85.res [.str a, .str b] = .int .i64 (cmpS a b) := fun a b => rfl
      have e85k : ∀ a b, e85.ok [.str a, .str b] = true := fun a b => rfl
      have f85 : e85.f = 106 := rfl
      have f86 : e86.f = 107 := rfl
      have e86' : e86.res [encS v.nm, encS w.nm] = .int .i64 (cmpN v.names w.names) := by unfold e86; simp only [zA5]; rfl
      have e86k : e86.ok [encS v.nm, encS w.nm] = true := by unfold e86; simp [zA6, V.ok_nm hv, V.ok_nm hw]
      simp only [smp, smo, lookOk, lookRes, sfOf, ↓reduceIte, Nat.reduceEqDiff, reduceCtorEq, qA, f85, f86, e85', e85k, e86', e86k, scalarV_enc]
      by_cases h1 : cmpS v.s w.s = 0
      · rw [thn_eq h1] at hal
        by_cases h2 : cmpN v.names w.names = 0
        · rw [thn_eq h2] at hal
          simp [hlt, h1, h2, hal]
        · rw [thn_ne h2] at hal
          simp [hlt, h1, h2, hal]
      · rw [thn_ne h1] at hal
        simp [hlt, h1, hal]
theorem pc68 (v w : V) (hv : v.ok) (hw : w.ok) : PureCall Tryz.prog [0] 82 [v.enc, w.enc] (dRet (.int .i64 (cmpV v w))) := pc68n (v.sz + 1) v w hv hw (by omega)
open Classical in
noncomputable def e68 : Ent := ⟨82, fun | [d_v, d_w] => decide (isV d_v ∧ isV d_w) | _ => false, fun | [d_v, d_w] => .int .i64 (cmpV (toV d_v) (toV d_w)) | _ => .inil⟩
open Classical in
theorem ok68 : EntOk Tryz.prog [0] e68 := fun ds h => by
  unfold e68 at h ⊢
  simp only at h ⊢
  split at h
  · rw [decide_eq_true_iff] at h
    obtain ⟨⟨v0, rfl, k0⟩, ⟨v1, rfl, k1⟩⟩ := h
    simp only [zB2, zA4, zA5]
    exact pc68 _ _ k0 k1
  · cases h
end Go.Proofs.Sx

namespace Go.Proofs.Sx
open Go Go.Proofs Go.Proofs.Am 
variable {gs : List Nat}

theorem cmpI_anti (a b : Int) : cmpI b a = - cmpI a b := by unfold cmpI; split <;> split <;> (try split) <;> (try split) <;> omega
theorem thn_neg (a b : Int) : thn (-a) (-b) = - thn a b := by unfold thn; split <;> split <;> omega
theorem cmpN_anti : ∀ (a b : List ByteArray), cmpN b a = - cmpN a b
  | [], [] => by simp [cmpN]
  | [], _ :: _ => by simp [cmpN]
  | _ :: _, [] => by simp [cmpN]
  | x :: l, y :: r => by simp only [cmpN]; rw [cmpS_anti, cmpN_anti l r, thn_neg]
mutual
theorem cmpV_anti : ∀ (v w : V), cmpV w v = - cmpV v w
  | .mk k n e s nm it, .mk k' n' e' s' nm' it' => by
    rw [cmpV, cmpV, cmpI_anti k k', cmpI_anti n n', cmpI_anti e e', cmpS_anti s s', cmpN_anti, cmpO_eq, cmpO_eq, cmpOO_anti it it', thn_neg, thn_neg, thn_neg, thn_neg, thn_neg]
theorem cmpOO_anti : ∀ (a b : Option (List V)), cmpL (b.getD []) (a.getD []) = - cmpL (a.getD []) (b.getD [])
  | none, none => by simp [cmpL]
  | none, some [] => by simp [cmpL]
  | none, some (_ :: _) => by simp [cmpL]
  | some [], none => by simp [cmpL]
  | some (_ :: _), none => by simp [cmpL]
  | some l, some r => cmpL_anti l r
theorem cmpL_anti : ∀ (a b : List V), cmpL b a = - cmpL a b
  | [], [] => by simp [cmpL]
  | [], _ :: _ => by simp [cmpL]
  | _ :: _, [] => by simp [cmpL]
  | x :: l, y :: r => by rw [cmpL, cmpL, cmpV_anti x y, cmpL_anti l r, thn_neg]
end
def SortedP (l : List V) : Prop := ∀ i, 1 ≤ i → i < l.length → cmpV (l.getD (i - 1) default) (l.getD i default) ≤ 0
open Classical in
noncomputable def sortedOk (l : List V) : Bool := decide (SortedP l)
theorem sortedOk_t (l : List V) : sortedOk l = true ↔ SortedP l := by simp [sortedOk]
theorem sortedOk_f (l : List V) : sortedOk l = false ↔ ¬ SortedP l := by simp [sortedOk]
def lv67 : Nat → List Nat × List Nat
  | 2 => ([0, 1, 5], [])
  | _ => ([], [])
theorem wrap_of {x : Int} {n : Nat} (h : x = n) (h2 : n ≤ 1152921504606846976) : IntKind.i64.wrap x = (n : Int) := by rw [zJ4 (by omega) (by omega), h]
theorem pc67 (o : Option (List V)) (ho : okO o) : PureCall Tryz.prog [0] 81 [encO o, .fn 82 []] (dRet (.bool (sortedOk (o.getD [])))) := by
  have hl := okO_len ho
  refine zD0 mixed fn67 (Nat.le_of_ble_eq_true rfl) (Nat.lt_of_succ_le (Nat.le_of_ble_eq_true rfl)) (sfOk (.cons ok68 .nil)) TbOk (lv := lv67) fun I F hI hF => ?_
  refine zE2 fun C hC => ?_
  generalize Q0 : encO o = Z0
  cbv
  subst Q0
  subst hC
  refine ⟨?_⟩
  simp (maxSteps:=9999999) only [hI, hF, std]
  simp only [smp, smo, lookOk, lookRes, sfOf, ↓reduceIte, Nat.reduceEqDiff, reduceCtorEq, qA]
  have wl : IntKind.i64.wrap (((o.getD []).length : Int) - 1) = ((o.getD []).length : Int) - 1 := zJ4 (by omega) (by omega)
  simp [wl]
  refine zE1 (kend := fun I => kEndF I Tb [.tmp 4]) hI hF (sfOk (.cons ok68 .nil)) TbOk (by exact fun Bk e s h => endF TbOk Bk e s h) (lv := lv67) 0 (fun i : {i : Nat // i ≤ (o.getD []).length ∧ ∀ j, i ≤ j → 1 ≤ j → j < (o.getD []).length → cmpV ((o.getD []).getD (j - 1) default) ((o.getD []).getD j default) ≤ 0} => [.d (encO o), .d (.fn 82 []), .d (.int .i64 ((i.1 : Int) - 1))]) (fun i : {i : Nat // i ≤ (o.getD []).length ∧ ∀ j, i ≤ j → 1 ≤ j → j < (o.getD []).length → cmpV ((o.getD []).getD (j - 1) default) ((o.getD []).getD j default) ≤ 0} => []) (fun i : {i : Nat // i ≤ (o.getD []).length ∧ ∀ j, i ≤ j → 1 ≤ j → j < (o.getD []).length → cmpV ((o.getD []).getD (j - 1) default) ((o.getD []).getD j default) ≤ 0} => i.1) [] (⟨(o.getD []).length, by omega, fun j h1 h2 h3 => by omega⟩ : {i : Nat // i ≤ (o.getD []).length ∧ ∀ j, i ≤ j → 1 ≤ j → j < (o.getD []).length → cmpV ((o.getD []).getD (j - 1) default) ((o.getD []).getD j default) ≤ 0}) (by rfl) (by rfl) ?_ ?_ fun i => ?_
  · rfl
  · rfl
  obtain ⟨i, hi1, hi2⟩ := i
  refine zE2 fun C hC => ?_
  generalize Q0 : encO o = Z0
  generalize Q1 : DV.int .i64 ((i : Int) - 1) = Z1
  cbv
  subst Q0 Q1
  subst hC
  refine ⟨?_⟩
  simp (maxSteps:=9999999) only [hI, hF, std]
  by_cases hlt : 1 < i
  · have h1 : i - 1 < (o.getD []).length := by omega
    have h2 : i - 2 < (o.getD []).length := by omega
    have t1 : ((i : Int) - 1).toNat = i - 1 := by omega
    have t2 : IntKind.i64.wrap ((i : Int) - 1 - 1) = ((i - 2 : Nat) : Int) := wrap_of (by omega) (by omega)
    have g1 := zH8 _ _ h1
    have g2 := zH8 _ _ h2
    have k1 := okO_get ho h1
    have k2 := okO_get ho h2
    simp only [smp, smo, lookOk, lookRes, sfOf, ↓reduceIte, Nat.reduceEqDiff, reduceCtorEq, qA, e68, t1, t2, g1, g2]
    simp [- List.getD_eq_getElem?_getD, qA, k1, k2, natCast_fold]
    have ha := cmpV_anti ((o.getD []).getD (i - 1) default) ((o.getD []).getD (i - 2) default)
    have hj : ∀ j, i - 1 ≤ j → 1 ≤ j → j < (o.getD []).length → 0 ≤ cmpV ((o.getD []).getD (i - 1) default) ((o.getD []).getD (i - 2) default) → cmpV ((o.getD []).getD (j - 1) default) ((o.getD []).getD j default) ≤ 0 := fun j a b c hc => by
      by_cases hji : j = i - 1
      · subst hji
        rw [show i - 1 - 1 = i - 2 by omega]; omega
      · exact hi2 j (by omega) b c
    refine ⟨fun _ => ⟨by clear t2; omega, by clear t2; omega, fun h => (sortedOk_f _).2 fun hs => ?_, fun h => ⟨i - 1, by clear t2; omega, ⟨by clear t2; omega, fun j a b c => hj j a b c h⟩, by clear t2; omega⟩⟩, fun h => by clear t2; omega⟩
    have := hs (i - 1) (by clear t2; omega) h1
    rw [show i - 1 - 1 = i - 2 by omega] at this
    omega
  · have hs : sortedOk (o.getD []) = true := (sortedOk_t _).2 fun j a b => hi2 j (by omega) a b
    have hn : ¬ (1 : Int) < i := by omega
    simp only [smp, smo, lookOk, lookRes, sfOf, ↓reduceIte, Nat.reduceEqDiff, reduceCtorEq, qA, e68]
    simp [- List.getD_eq_getElem?_getD, hn, hs]
open Classical in
noncomputable def e67 : Ent := ⟨81, fun | [d_o, .fn 82 []] => decide (isVs d_o) | _ => false, fun | [d_o, .fn 82 []] => .bool (sortedOk ((toVs d_o).getD [])) | _ => .inil⟩
open Classical in
theorem ok67 : EntOk Tryz.prog [0] e67 := fun ds h => by
  unfold e67 at h ⊢
  simp only at h ⊢
  split at h
  · rw [decide_eq_true_iff] at h
    obtain ⟨v0, rfl, k0⟩ := h
    simp only [zB2, zA4, zA5]
    exact pc67 _ k0
  · cases h

def NamesP (l : List ByteArray) : Prop := ∀ i, i < l.length → nameOk (l.getD i ⟨#[]⟩) = true
def DoubleP (l : List ByteArray) : Prop := ∃ i j, j < i ∧ i < l.length ∧ l.getD j ⟨#[]⟩ = l.getD i ⟨#[]⟩
open Classical in
noncomputable def ownE (v : V) : Int :=
  if ¬ ((1 ≤ v.k ∧ v.k ≤ 6) ∨ (9 ≤ v.k ∧ v.k ≤ 12) ∨ v.k = 14) then 4
  else if v.e ≠ 0 ∨ (¬(v.k = 1 ∨ v.k = 2 ∨ v.k = 14) ∧ v.n ≠ 0) ∨ (¬(3 ≤ v.k ∧ v.k ≤ 6) ∧ v.s ≠ ⟨#[]⟩) ∨ (¬(v.k = 9 ∨ v.k = 12) ∧ v.names ≠ []) ∨ (¬(9 ≤ v.k ∧ v.k ≤ 12) ∧ v.items ≠ []) then 5
  else if (v.k = 1 ∧ ¬(0 ≤ v.n ∧ v.n ≤ 1)) ∨ (v.k = 14 ∧ ¬(0 ≤ v.n ∧ v.n ≤ 4)) then 5
  else if ((v.k = 9 ∨ v.k = 12) ∧ (v.names.length : Int) ≠ v.items.length) ∨ (v.k = 12 ∧ (v.items.length : Int) ≠ 1) then 6
  else if (v.s.size : Int) > 200 ∨ (v.k = 9 ∧ (v.items.length : Int) > 16) ∨ (v.items.length : Int) > 40 then 2
  else if (v.k = 2 ∧ ¬(-1152921504606846976 ≤ v.n ∧ v.n ≤ 1152921504606846976)) ∨ charsOk v = false then 3
  else if (v.k = 3 ∧ nameOk v.s = false) ∨ ¬ NamesP v.names then 7
  else if DoubleP v.names then 13
  else if v.k = 11 ∧ sortedOk v.items = false then 14
  else 0

structure Good (v : V) : Prop where
  kind : (1 ≤ v.k ∧ v.k ≤ 6) ∨ (9 ≤ v.k ∧ v.k ≤ 12) ∨ v.k = 14
  form : ¬ (v.e ≠ 0 ∨ (¬(v.k = 1 ∨ v.k = 2 ∨ v.k = 14) ∧ v.n ≠ 0) ∨ (¬(3 ≤ v.k ∧ v.k ≤ 6) ∧ v.s ≠ ⟨#[]⟩) ∨ (¬(v.k = 9 ∨ v.k = 12) ∧ v.names ≠ []) ∨ (¬(9 ≤ v.k ∧ v.k ≤ 12) ∧ v.items ≠ []))
  form2 : ¬ ((v.k = 1 ∧ ¬(0 ≤ v.n ∧ v.n ≤ 1)) ∨ (v.k = 14 ∧ ¬(0 ≤ v.n ∧ v.n ≤ 4)))
  shape : ¬ (((v.k = 9 ∨ v.k = 12) ∧ (v.names.length : Int) ≠ v.items.length) ∨ (v.k = 12 ∧ (v.items.length : Int) ≠ 1))
  large : ¬ ((v.s.size : Int) > 200 ∨ (v.k = 9 ∧ (v.items.length : Int) > 16) ∨ (v.items.length : Int) > 40)
  range : ¬ ((v.k = 2 ∧ ¬(-1152921504606846976 ≤ v.n ∧ v.n ≤ 1152921504606846976)) ∨ charsOk v = false)
  name : ¬ (v.k = 3 ∧ nameOk v.s = false)
theorem ownE_good {v : V} (h : Good v) : (¬ NamesP v.names → ownE v = 7) ∧ (NamesP v.names → DoubleP v.names → ownE v = 13) ∧ (NamesP v.names → ¬ DoubleP v.names → v.k = 11 ∧ sortedOk v.items = false → ownE v = 14) ∧ (NamesP v.names → ¬ DoubleP v.names → ¬ (v.k = 11 ∧ sortedOk v.items = false) → ownE v = 0) := by
  have hk : ¬ ¬ ((1 ≤ v.k ∧ v.k ≤ 6) ∨ (9 ≤ v.k ∧ v.k ≤ 12) ∨ v.k = 14) := fun hn => hn h.kind
  unfold ownE
  rw [if_neg hk, if_neg h.form, if_neg h.form2, if_neg h.shape, if_neg h.large, if_neg h.range]
  refine ⟨fun a => if_pos (.inr a), fun a b => ?_, fun a b c => ?_, fun a b c => ?_⟩
  · rw [if_neg (fun hc => hc.elim h.name (fun x => x a)), if_pos b]
  · rw [if_neg (fun hc => hc.elim h.name (fun x => x a)), if_neg b, if_pos c]
  · rw [if_neg (fun hc => hc.elim h.name (fun x => x a)), if_neg b, if_neg c]

theorem idxS_self : ∀ {l : List ByteArray} {m : Nat}, m < l.length → (idxS l (l.getD m ⟨#[]⟩) = (m : Int) ↔ ∀ j, j < m → l.getD j ⟨#[]⟩ ≠ l.getD m ⟨#[]⟩)
  | l, m, h => by
    constructor
    · intro he j hj hc
      -- the first place is not behind j
      have : ∀ {l : List ByteArray} {s : ByteArray} {j : Nat}, j < l.length → l.getD j ⟨#[]⟩ = s → idxS l s ≤ j := by
        intro l
        induction l with
        | nil => intro s j hj; simp at hj
        | cons x l ih =>
          intro s j hj hs
          simp only [idxS]
          cases j with
          | zero => simp at hs; simp [hs]
          | succ j =>
            have := ih (s := s) (j := j) (by simpa using hj) (by simpa using hs)
            split
            · omega
            · split <;> omega
      have := this (by omega) hc
      omega
    · intro hn; exact idxS_some h rfl hn
def lv69 : Nat → List Nat × List Nat
  | 21 => ([1, 3, 8], [0])
  | 26 => ([1, 3, 9], [0])
  | 31 => ([1, 3, 10], [0])
  | _ => ([], [])
set_option maxHeartbeats 8000000 in
theorem pc69 (v : V) (hv : v.ok) : PureCall Tryz.prog [0] 60 [v.enc] (dRet (.int .i64 (ownE v))) := by
  refine zD0 mixed fn69 (Nat.le_of_ble_eq_true rfl) (Nat.lt_of_succ_le (Nat.le_of_ble_eq_true rfl)) (sfOk (.cons ok88 (.cons ok41 (.cons ok89 (.cons ok25 (.cons ok90 (.cons ok36 .nil))))))) TbOk (lv := lv69) fun I F hI hF => ?_
  refine zE2 fun C hC => ?_
  generalize Q0 : v.enc = Z0
  cbv
  subst Q0
  subst hC
  refine ⟨?_⟩
  simp (maxSteps:=9999999) only [hI, hF, std]
  simp only [smp, smo, lookOk, lookRes, sfOf, ↓reduceIte, Nat.reduceEqDiff, reduceCtorEq, qA, e88, e41, e89, e25, e90, e36]
  have e1 : v.nm.getD [] = v.names := rfl
  have e3 : v.it.getD [] = v.items := rfl
  generalize hL : Sat Tryz.prog [0] _ (Tree.loop _ _ _ _ _ _ _) = L
  have loops : Good v → L := by
    intro hg
    rw [← hL]
    clear hL
    obtain ⟨o1, o2, o3, o4⟩ := ownE_good hg
    have nl := V.ok_nl hv
    have il := V.ok_il hv
    refine zE1 (kend := fun I => kEndF I Tb [.tmp 2]) hI hF (sfOk (.cons ok88 (.cons ok41 (.cons ok89 (.cons ok25 (.cons ok90 (.cons ok36 .nil))))))) TbOk (by exact fun Bk e s h => endF TbOk Bk e s h) (lv := lv69) 0 (fun i : {i : Nat // i ≤ v.names.length ∧ ∀ j, j < i → nameOk (v.names.getD j ⟨#[]⟩) = true} => [.loc 0 6 0 0, .d (.int .i64 v.k), .d (.int .i64 (i.1 : Int))]) (fun i : {i : Nat // i ≤ v.names.length ∧ ∀ j, j < i → nameOk (v.names.getD j ⟨#[]⟩) = true} => [(0, some ⟨[.d v.enc], 6, 25, true, true⟩)]) (fun i : {i : Nat // i ≤ v.names.length ∧ ∀ j, j < i → nameOk (v.names.getD j ⟨#[]⟩) = true} => v.names.length - i.1) [0] (⟨0, by omega, fun j h => by omega⟩ : {i : Nat // i ≤ v.names.length ∧ ∀ j, j < i → nameOk (v.names.getD j ⟨#[]⟩) = true}) (by rfl) (by rfl) ?_ ?_ fun i => ?_
    · rfl
    · rfl
    obtain ⟨i, hi1, hi2⟩ := i
    refine zE2 fun C hC => ?_
    generalize Q0 : v.enc = Z0
    generalize Q1 : DV.int .i64 v.k = Z1
    generalize Q2 : DV.int .i64 (i : Int) = Z2
    cbv
    subst Q0 Q1 Q2
    subst hC
    refine ⟨?_⟩
    simp (maxSteps:=9999999) only [hI, hF, std]
    have w3 := zE6 (n := i) (by omega)
    by_cases hlt : i < v.names.length
    · have g1 := zJ7 _ _ hlt
      simp only [smp, smo, lookOk, lookRes, sfOf, ↓reduceIte, Nat.reduceEqDiff, reduceCtorEq, qA, e88, e41, e89, e25, e90, e36, e1, g1]
      simp [hlt, w3, - List.getD_eq_getElem?_getD]
      refine ⟨fun h => (o1 fun hn => ?_).symm, fun h => ⟨i + 1, by omega, ⟨by omega, fun j hj => ?_⟩, by simp⟩⟩
      · have := hn i hlt
        rw [h] at this; cases this
      · by_cases hji : j = i
        · subst hji; exact h
        · exact hi2 j (by omega)
    have hnames : NamesP v.names := fun j hj => hi2 j (by omega)
    simp only [smp, smo, lookOk, lookRes, sfOf, ↓reduceIte, Nat.reduceEqDiff, reduceCtorEq, qA, e88, e41, e89, e25, e90, e36, e1]
    have hn : ¬ (i : Int) < v.names.length := by omega
    simp [hlt, hn, - List.getD_eq_getElem?_getD]
    refine zE1 (kend := fun I => kEndF I Tb [.tmp 2]) hI hF (sfOk (.cons ok88 (.cons ok41 (.cons ok89 (.cons ok25 (.cons ok90 (.cons ok36 .nil))))))) TbOk (by exact fun Bk e s h => endF TbOk Bk e s h) (lv := lv69) 1 (fun i : {i : Nat // i ≤ v.names.length ∧ ∀ a b, a < i → b < a → v.names.getD b ⟨#[]⟩ ≠ v.names.getD a ⟨#[]⟩} => [.loc 0 6 0 0, .d (.int .i64 v.k), .d (.int .i64 (i.1 : Int))]) (fun i : {i : Nat // i ≤ v.names.length ∧ ∀ a b, a < i → b < a → v.names.getD b ⟨#[]⟩ ≠ v.names.getD a ⟨#[]⟩} => [(0, some ⟨[.d v.enc], 6, 25, true, true⟩)]) (fun i : {i : Nat // i ≤ v.names.length ∧ ∀ a b, a < i → b < a → v.names.getD b ⟨#[]⟩ ≠ v.names.getD a ⟨#[]⟩} => v.names.length - i.1) [0] (⟨0, by omega, fun a b h => by omega⟩ : {i : Nat // i ≤ v.names.length ∧ ∀ a b, a < i → b < a → v.names.getD b ⟨#[]⟩ ≠ v.names.getD a ⟨#[]⟩}) (by rfl) (by rfl) ?_ ?_ fun i => ?_
    · rfl
    · rfl
    clear hlt w3 hn
    obtain ⟨m, hm1, hm2⟩ := i
    refine zE2 fun C hC => ?_
    generalize Q0 : v.enc = Z0
    generalize Q1 : DV.int .i64 v.k = Z1
    generalize Q2 : DV.int .i64 (m : Int) = Z2
    cbv
    subst Q0 Q1 Q2
    subst hC
    refine ⟨?_⟩
    simp (maxSteps:=9999999) only [hI, hF, std]
    have w3 := zE6 (n := m) (by omega)
    by_cases hlt : m < v.names.length
    · have g1 := zJ7 _ _ hlt
      have hok : okS0 v.nm := V.ok_nm hv
      simp only [smp, smo, lookOk, lookRes, sfOf, ↓reduceIte, Nat.reduceEqDiff, reduceCtorEq, qA, e88, e41, e89, e25, e90, e36, e1, g1]
      simp [hlt, w3, - List.getD_eq_getElem?_getD, hok, qA]
      have hself := idxS_self hlt
      refine ⟨fun h => (o2 hnames ?_).symm, fun h => ⟨m + 1, by omega, ⟨by omega, fun a b ha hb => ?_⟩, by simp⟩⟩
      · by_cases hd : ∃ j, j < m ∧ v.names.getD j ⟨#[]⟩ = v.names.getD m ⟨#[]⟩
        · obtain ⟨j, h1, h2⟩ := hd; exact ⟨m, j, h1, hlt, h2⟩
        · exact absurd (hself.2 fun j hj he => hd ⟨j, hj, he⟩) h
      · by_cases ham : a = m
        · subst ham; exact hself.1 h b hb
        · exact hm2 a b (by omega) hb
    have hdbl : ¬ DoubleP v.names := fun ⟨a, b, h1, h2, h3⟩ => hm2 a b (by omega) h1 h3
    simp only [smp, smo, lookOk, lookRes, sfOf, ↓reduceIte, Nat.reduceEqDiff, reduceCtorEq, qA, e88, e41, e89, e25, e90, e36, e1]
    have hn : ¬ (m : Int) < v.names.length := by omega
    simp [hlt, hn, - List.getD_eq_getElem?_getD]
    clear hlt w3 hn
    refine zE1 (kend := fun I => kEndF I Tb [.tmp 2]) hI hF (sfOk (.cons ok88 (.cons ok41 (.cons ok89 (.cons ok25 (.cons ok90 (.cons ok36 .nil))))))) TbOk (by exact fun Bk e s h => endF TbOk Bk e s h) (lv := lv69) 2 (fun i : {i : Nat // 1 ≤ i ∧ i ≤ v.items.length + 1 ∧ (v.k = 11 → ∀ j, 1 ≤ j → j < i → j < v.items.length → cmpV (v.items.getD (j - 1) default) (v.items.getD j default) ≤ 0)} => [.loc 0 6 0 0, .d (.int .i64 v.k), .d (.int .i64 (i.1 : Int))]) (fun i : {i : Nat // 1 ≤ i ∧ i ≤ v.items.length + 1 ∧ (v.k = 11 → ∀ j, 1 ≤ j → j < i → j < v.items.length → cmpV (v.items.getD (j - 1) default) (v.items.getD j default) ≤ 0)} => [(0, some ⟨[.d v.enc], 6, 25, true, true⟩)]) (fun i : {i : Nat // 1 ≤ i ∧ i ≤ v.items.length + 1 ∧ (v.k = 11 → ∀ j, 1 ≤ j → j < i → j < v.items.length → cmpV (v.items.getD (j - 1) default) (v.items.getD j default) ≤ 0)} => v.items.length + 1 - i.1) [0] (⟨1, by omega, by omega, fun _ j a b => by omega⟩ : {i : Nat // 1 ≤ i ∧ i ≤ v.items.length + 1 ∧ (v.k = 11 → ∀ j, 1 ≤ j → j < i → j < v.items.length → cmpV (v.items.getD (j - 1) default) (v.items.getD j default) ≤ 0)}) (by rfl) (by rfl) ?_ ?_ fun i => ?_
    · rfl
    · rfl
    obtain ⟨q, hq1, hq2, hq3⟩ := i
    refine zE2 fun C hC => ?_
    generalize Q0 : v.enc = Z0
    generalize Q1 : DV.int .i64 v.k = Z1
    generalize Q2 : DV.int .i64 (q : Int) = Z2
    cbv
    subst Q0 Q1 Q2
    subst hC
    refine ⟨?_⟩
    simp (maxSteps:=9999999) only [hI, hF, std]
    have w3 := zE6 (n := q) (by omega)
    have w2 := wrap_pred hq1 (by omega)
    by_cases hlt : q < v.items.length ∧ v.k = 11
    · have hp : q - 1 < v.items.length := by omega
      have g1 := zH8 _ _ hlt.1
      have g2 := zH8 _ _ hp
      have k1 := V.ok_get hv hlt.1
      have k2 := V.ok_get hv hp
      simp only [smp, smo, lookOk, lookRes, sfOf, ↓reduceIte, Nat.reduceEqDiff, reduceCtorEq, qA, e88, e41, e89, e25, e90, e36, e3, w2, g1, g2]
      simp [hlt, w3, - List.getD_eq_getElem?_getD, k1, k2, qA]
      refine ⟨hp, fun h => (o3 hnames hdbl ⟨hlt.2, (sortedOk_f _).2 fun hs => ?_⟩).symm, fun h => ⟨q + 1, by omega, ⟨by omega, by omega, fun j a b c => ?_⟩, by simp⟩⟩
      · have := hs q hq1 hlt.1; omega
      · by_cases hj : j = q
        · subst hj; exact h
        · exact hq3 hlt.2 j a (by omega) c
    · simp only [smp, smo, lookOk, lookRes, sfOf, ↓reduceIte, Nat.reduceEqDiff, reduceCtorEq, qA, e88, e41, e89, e25, e90, e36, e3]
      have hn : ¬ ((q : Int) < v.items.length ∧ v.k = 11) := by omega
      simp [- List.getD_eq_getElem?_getD]
      refine ⟨fun a b => absurd ⟨a, b⟩ hlt, fun _ => (o4 hnames hdbl fun hc => ?_).symm⟩
      have hle : ¬ q < v.items.length := fun h => hlt ⟨h, hc.1⟩
      exact (sortedOk_f _).1 hc.2 fun j a b => hq3 hc.1 j a (by omega) b
  simp only [qA, hv, e1, e3, decide_true]
  by_cases c1 : ¬ ((1 ≤ v.k ∧ v.k ≤ 6) ∨ (9 ≤ v.k ∧ v.k ≤ 12) ∨ v.k = 14)
  · have hE : ownE v = 4 := by unfold ownE; rw [if_pos c1]
    have q1 : (decide (1 ≤ v.k) && decide (v.k ≤ 6)) = false := by simp; omega
    have q2 : (decide (9 ≤ v.k) && decide (v.k ≤ 12)) = false := by simp; omega
    have q3 : ¬ v.k = 14 := by omega
    simp [q1, q2, q3, hE]
  have hk : v.k = 1 ∨ v.k = 2 ∨ v.k = 3 ∨ v.k = 4 ∨ v.k = 5 ∨ v.k = 6 ∨ v.k = 9 ∨ v.k = 10 ∨ v.k = 11 ∨ v.k = 12 ∨ v.k = 14 := by omega
  have hE : ownE v = ownE v := rfl
  conv at hE => rhs; unfold ownE
  rw [if_neg c1] at hE
  have gd : (¬ (v.e ≠ 0 ∨ (¬(v.k = 1 ∨ v.k = 2 ∨ v.k = 14) ∧ v.n ≠ 0) ∨ (¬(3 ≤ v.k ∧ v.k ≤ 6) ∧ v.s ≠ ⟨#[]⟩) ∨ (¬(v.k = 9 ∨ v.k = 12) ∧ v.names ≠ []) ∨ (¬(9 ≤ v.k ∧ v.k ≤ 12) ∧ v.items ≠ []))) →
    ¬ ((v.k = 1 ∧ ¬(0 ≤ v.n ∧ v.n ≤ 1)) ∨ (v.k = 14 ∧ ¬(0 ≤ v.n ∧ v.n ≤ 4))) →
    ¬ (((v.k = 9 ∨ v.k = 12) ∧ (v.names.length : Int) ≠ v.items.length) ∨ (v.k = 12 ∧ (v.items.length : Int) ≠ 1)) →
    ¬ ((v.s.size : Int) > 200 ∨ (v.k = 9 ∧ (v.items.length : Int) > 16) ∨ (v.items.length : Int) > 40) →
    ¬ ((v.k = 2 ∧ ¬(-1152921504606846976 ≤ v.n ∧ v.n ≤ 1152921504606846976)) ∨ charsOk v = false) →
    ¬ (v.k = 3 ∧ nameOk v.s = false) → L := fun a b c d e f => loops ⟨Classical.not_not.1 c1, a, b, c, d, e, f⟩
  clear loops hL
  rcases hk with h | h | h | h | h | h | h | h | h | h | h
  all_goals simp [h] at hE gd
  all_goals simp [h]
  all_goals clear hI hF hv c1 e1 e3
  all_goals have ln : 0 < v.names.length ↔ ¬ v.names = [] := List.length_pos_iff
  all_goals have li : 0 < v.items.length ↔ ¬ v.items = [] := List.length_pos_iff
  all_goals try simp only [ln, li]
  all_goals clear ln li
  all_goals grind
open Classical in
noncomputable def e69 : Ent := ⟨60, fun | [d_v] => decide (isV d_v) | _ => false, fun | [d_v] => .int .i64 (ownE (toV d_v)) | _ => .inil⟩
open Classical in
theorem ok69 : EntOk Tryz.prog [0] e69 := fun ds h => by
  unfold e69 at h ⊢
  simp only at h ⊢
  split at h
  · rw [decide_eq_true_iff] at h
    obtain ⟨v0, rfl, k0⟩ := h
    simp only [zB2, zA4, zA5]
    exact pc69 _ k0
  · cases h
end Go.Proofs.Sx

namespace Go.Proofs.Sx
open Go Go.Proofs Go.Proofs.Am 
variable {gs : List Nat}

def lv47 : Nat → List Nat × List Nat
  | 25 => ([1, 3, 130, 131, 132], [0, 1])
  | _ => ([], [])
theorem shape_form {k : Int} (h : (1 ≤ k ∧ k ≤ 6) ∨ (9 ≤ k ∧ k ≤ 12) ∨ k = 14) : ∃ lo hi t n i m o ins, shapeK k = shapeD lo hi t n i m o (decide (k = 11)) ins true := by
  have hk : k = 1 ∨ k = 2 ∨ k = 3 ∨ k = 4 ∨ k = 5 ∨ k = 6 ∨ k = 9 ∨ k = 10 ∨ k = 11 ∨ k = 12 ∨ k = 14 := by omega
  rcases hk with h | h | h | h | h | h | h | h | h | h | h <;> subst h <;> exact ⟨_, _, _, _, _, _, _, _, rfl⟩
theorem zH9 (l : List ByteArray) : (0 ≤ idxN l) ↔ ¬ NamesP l := by
  rw [idxN_iff]
  constructor
  · intro h hn
    apply h
    intro x hx
    obtain ⟨i, hi, rfl⟩ := List.getElem_of_mem hx
    have := hn i hi
    simpa [List.getD, List.getElem?_eq_getElem hi] using this
  · intro h hn
    apply h
    intro i hi
    apply hn
    simp [List.getD, List.getElem?_eq_getElem hi]
theorem idxN_lt (l : List ByteArray) : (idxN l < 0) ↔ NamesP l := by
  have := zH9 l
  constructor
  · intro h; exact Classical.byContradiction fun hn => by have := this.2 hn; omega
  · intro h; exact Classical.byContradiction fun hn => this.1 (by omega) h
theorem slD_encS (o : Option (List ByteArray)) (i : Nat) : slD (encS o) none (some (.int .i64 (i : Int))) = encS (o.map (·.take i)) := by
  cases o with
  | none => rfl
  | some l =>
    simp only [slD, encS, isSnil_sim, if_false, Option.map, lstD_sim]
    show DV.sim _ = _
    simp [loN, hiN]
    rfl
theorem intO_none : intO none = true := rfl
theorem intO_int (k : IntKind) (i : Int) : intO (some (.int k i)) = true := rfl
theorem loN_none : loN none = 0 := rfl
theorem hiN_int (n : Nat) (k : IntKind) (i : Int) : hiN n (some (.int k i)) = i := rfl
theorem cells_one (s : ByteArray) : (DV.str s).cells = [.str s] := rfl
theorem okS0_take {o : Option (List ByteArray)} (h : okS0 o) (i : Nat) : okS0 (o.map (·.take i)) := by
  cases o with
  | none => exact h
  | some l =>
    refine ⟨Nat.le_trans ?_ h.1, fun x hx => h.2 x ?_⟩
    · simp; omega
    · simp only [Option.map, Option.getD_some] at hx ⊢; exact List.mem_of_mem_take hx
theorem getD_take (o : Option (List ByteArray)) (i : Nat) : (o.map (·.take i)).getD [] = (o.getD []).take i := by
  cases o <;> simp
theorem idxS_take : ∀ {l : List ByteArray} {s : ByteArray} {i : Nat}, i ≤ l.length → (0 ≤ idxS (l.take i) s ↔ ∃ j, j < i ∧ l.getD j ⟨#[]⟩ = s)
  | [], s, i, h => by simp at h; subst h; simp [idxS]
  | x :: l, s, 0, h => by simp [idxS]
  | x :: l, s, i + 1, h => by
    have ih := idxS_take (l := l) (s := s) (i := i) (by simpa using h)
    have hge := idxS_ge (l.take i) s
    simp only [List.take_succ_cons, idxS]
    constructor
    · intro h1
      by_cases hx : x = s
      · exact ⟨0, by omega, by simpa using hx⟩
      · rw [if_neg hx] at h1
        obtain ⟨j, a, b⟩ := ih.1 (by split at h1 <;> omega)
        exact ⟨j + 1, by omega, by simpa using b⟩
    · rintro ⟨j, a, b⟩
      split
      · omega
      cases j with
      | zero => simp at b; contradiction
      | succ j =>
        have := ih.2 ⟨j, by omega, by simpa using b⟩
        rw [if_neg (by omega)]; omega
set_option maxHeartbeats 8000000 in
theorem pc47 (v : V) (hv : v.ok) : PureCall Tryz.prog [0] 58 [v.enc] (dRet (.int .i64 (ownE v))) := by
  refine zD0 mixed fn47 (Nat.le_of_ble_eq_true rfl) (Nat.lt_of_succ_le (Nat.le_of_ble_eq_true rfl)) (sfOk (.cons ok62 (.cons ok63 (.cons ok21 (.cons ok64 (.cons ok66 (.cons ok67 .nil))))))) TbOk (lv := lv47) fun I F hI hF => ?_
  refine zE2 fun C hC => ?_
  generalize Q0 : v.enc = Z0
  cbv
  subst Q0
  subst hC
  refine ⟨?_⟩
  simp (maxSteps:=9999999) only [hI, hF, std]
  have e1 : v.nm.getD [] = v.names := rfl
  have e3 : v.it.getD [] = v.items := rfl
  simp only [smp, smo, lookOk, lookRes, sfOf, ↓reduceIte, Nat.reduceEqDiff, reduceCtorEq, qA, e62, e63, e21, e64, e66, e67]
  generalize hL : Sat Tryz.prog [0] _ (Tree.loop _ _ _ _ _ _ _) = L
  have loops : Good v → NamesP v.names → L := by
    intro hg hN
    rw [← hL]
    clear hL
    obtain ⟨o1, o2, o3, o4⟩ := ownE_good hg
    have nl := V.ok_nl hv
    have il := V.ok_il hv
    obtain ⟨lo, hi, t, n, i0, m, o, ins, hs⟩ := shape_form hg.kind
    rw [hs, shapeD]
    simp only [zJ9, List.getD_cons_zero]
    clear hs e1
    refine zE1 (kend := fun I => kEndF I Tb [.tmp 2]) hI hF (sfOk (.cons ok62 (.cons ok63 (.cons ok21 (.cons ok64 (.cons ok66 (.cons ok67 .nil))))))) TbOk (by exact fun Bk e s h => endF TbOk Bk e s h) (lv := lv47) 0 (fun i : {i : Nat // i ≤ v.names.length ∧ ∀ a b, a < i → b < a → v.names.getD b ⟨#[]⟩ ≠ v.names.getD a ⟨#[]⟩} => [.loc 0 6 0 0, .loc 1 9 0 0, .d (encS v.nm), .d (.int .i64 (v.names.length : Int)), .d (.int .i64 (i.1 : Int))]) (fun i : {i : Nat // i ≤ v.names.length ∧ ∀ a b, a < i → b < a → v.names.getD b ⟨#[]⟩ ≠ v.names.getD a ⟨#[]⟩} => [(0, some ⟨[.d v.enc], 6, 25, true, true⟩), (1, some ⟨[.d (.agg [.int .i64 lo, .int .i64 hi, .bool t, .bool n, .bool i0, .int .i64 m, .bool o, .bool (decide (v.k = 11)), .bool ins])], 9, 101, true, true⟩)]) (fun i : {i : Nat // i ≤ v.names.length ∧ ∀ a b, a < i → b < a → v.names.getD b ⟨#[]⟩ ≠ v.names.getD a ⟨#[]⟩} => v.names.length - i.1) [0, 1] (⟨0, by omega, fun a b h => by omega⟩ : {i : Nat // i ≤ v.names.length ∧ ∀ a b, a < i → b < a → v.names.getD b ⟨#[]⟩ ≠ v.names.getD a ⟨#[]⟩}) (by rfl) (by rfl) ?_ ?_ fun i => ?_
    · simp [V.names]
    · rfl
    obtain ⟨i, hi1, hi2⟩ := i
    refine zE2 fun C hC => ?_
    generalize Q0 : v.enc = Z0
    generalize Q1 : encS v.nm = Z1
    generalize Q2 : DV.int .i64 (v.names.length : Int) = Z2
    generalize Q3 : DV.int .i64 (i : Int) = Z3
    generalize Q4 : DV.int .i64 lo = Z4
    generalize Q5 : DV.int .i64 hi = Z5
    generalize Q6 : DV.bool t = Z6
    generalize Q7 : DV.bool n = Z7
    generalize Q8 : DV.bool i0 = Z8
    generalize Q9 : DV.int .i64 m = Z9
    generalize Q10 : DV.bool o = Z10
    generalize Q11 : DV.bool ins = Z11
    generalize Q12 : DV.bool (decide (v.k = 11)) = Z12
    cbv
    subst Q0 Q1 Q2 Q3 Q4 Q5 Q6 Q7 Q8 Q9 Q10 Q11 Q12
    subst hC
    refine ⟨?_⟩
    simp (maxSteps:=9999999) only [hI, hF, std]
    have w3 := zE6 (n := i) (by omega)
    have hok : okS0 v.nm := V.ok_nm hv
    have hoi : okO v.it := V.ok_it hv
    by_cases hlt : i < v.names.length
    · have g1 := zJ7 _ _ hlt
      have e2 : v.nm.getD [] = v.names := rfl
      simp only [smp, smo, lookOk, lookRes, sfOf, ↓reduceIte, Nat.reduceEqDiff, reduceCtorEq, qA, e62, e63, e21, e64, e66, e67, slD_encS, e2, g1, cells_one, intO_none, intO_int, loN_none, hiN_int]
      have hx := idxS_take (s := v.names.getD i ⟨#[]⟩) (i := i) (Nat.le_of_lt hlt)
      simp [hlt, w3, - List.getD_eq_getElem?_getD, hok, qA, okS0_take hok, getD_take, e2]
      refine ⟨⟨fun x _ => rfl, by omega⟩, fun h => (o2 hN ?_).symm, fun h => ⟨i + 1, by omega, ⟨by omega, fun a b ha hb => ?_⟩, by simp⟩⟩
      · obtain ⟨j, a, b⟩ := hx.1 h
        exact ⟨i, j, a, hlt, b⟩
      · by_cases hai : a = i
        · subst hai
          intro he
          have := hx.2 ⟨b, hb, he⟩
          clear w3; omega
        · exact hi2 a b (by clear w3; omega) hb
    · simp only [smp, smo, lookOk, lookRes, sfOf, ↓reduceIte, Nat.reduceEqDiff, reduceCtorEq, qA, e62, e63, e21, e64, e66, e67]
      have hn : ¬ (i : Int) < v.names.length := by omega
      simp [hlt, hn, - List.getD_eq_getElem?_getD, qA, hoi, e3]
      have hdbl : ¬ DoubleP v.names := fun ⟨a, b, h1, h2, h3⟩ => hi2 a b (by omega) h1 h3
      refine ⟨fun a b => (o3 hN hdbl ⟨a, b⟩).symm, fun h => (o4 hN hdbl fun hc => ?_).symm⟩
      rw [h hc.1] at hc; cases hc.2
  have ngood : Good v → ¬ NamesP v.names → ownE v = 7 := fun h hn => (ownE_good h).1 hn
  clear hL
  by_cases c1 : ¬ ((1 ≤ v.k ∧ v.k ≤ 6) ∨ (9 ≤ v.k ∧ v.k ≤ 12) ∨ v.k = 14)
  · have hE : ownE v = 4 := by unfold ownE; rw [if_pos c1]
    have hs : shapeK v.k = shapeD 0 0 false false false 0 false false false false := by
      unfold shapeK
      repeat rw [if_neg (by omega)]
    rw [hs, shapeD]
    simp [qA, hE, zJ9, zH5, zJ0, zI5, zH2, one_int, zI9]
    rfl
  have hk : v.k = 1 ∨ v.k = 2 ∨ v.k = 3 ∨ v.k = 4 ∨ v.k = 5 ∨ v.k = 6 ∨ v.k = 9 ∨ v.k = 10 ∨ v.k = 11 ∨ v.k = 12 ∨ v.k = 14 := by omega
  have hE : ownE v = ownE v := rfl
  conv at hE => rhs; unfold ownE
  rw [if_neg c1] at hE
  have gd : (¬ (v.e ≠ 0 ∨ (¬(v.k = 1 ∨ v.k = 2 ∨ v.k = 14) ∧ v.n ≠ 0) ∨ (¬(3 ≤ v.k ∧ v.k ≤ 6) ∧ v.s ≠ ⟨#[]⟩) ∨ (¬(v.k = 9 ∨ v.k = 12) ∧ v.names ≠ []) ∨ (¬(9 ≤ v.k ∧ v.k ≤ 12) ∧ v.items ≠ []))) →
    ¬ ((v.k = 1 ∧ ¬(0 ≤ v.n ∧ v.n ≤ 1)) ∨ (v.k = 14 ∧ ¬(0 ≤ v.n ∧ v.n ≤ 4))) →
    ¬ (((v.k = 9 ∨ v.k = 12) ∧ (v.names.length : Int) ≠ v.items.length) ∨ (v.k = 12 ∧ (v.items.length : Int) ≠ 1)) →
    ¬ ((v.s.size : Int) > 200 ∨ (v.k = 9 ∧ (v.items.length : Int) > 16) ∨ (v.items.length : Int) > 40) →
    ¬ ((v.k = 2 ∧ ¬(-1152921504606846976 ≤ v.n ∧ v.n ≤ 1152921504606846976)) ∨ charsOk v = false) →
    ¬ (v.k = 3 ∧ nameOk v.s = false) → (NamesP v.names → L) := fun a b c d e f => loops ⟨Classical.not_not.1 c1, a, b, c, d, e, f⟩
  clear loops ngood
  rcases hk with h | h | h | h | h | h | h | h | h | h | h
  · have hs : shapeK v.k = shapeD 0 1 false false false 0 false false false true := by rw [h]; rfl
    rw [hs, shapeD]
    clear hs
    simp only [qA, zJ9, zH5, zJ0, zI5, zH2, one_int, zI9, smp, smo, lookOk, lookRes, sfOf, ↓reduceIte, Nat.reduceEqDiff, reduceCtorEq, e1, e3]
    simp [h] at hE gd ⊢
    simp only [zB3, hv, V.ok_s hv, V.ok_nm hv, V.ok_it hv, zA6, zA7, implies_true, and_true, true_and, zH9, idxN_lt, e1, e3]
    have hd : ∀ b, isBoolD (DV.bool b) = true := fun _ => rfl
    try simp only [hd, implies_true, and_true, true_and]
    clear hI hF hv c1 e1 e3 hd
    have ln : 0 < v.names.length ↔ ¬ v.names = [] := List.length_pos_iff
    have li : 0 < v.items.length ↔ ¬ v.items = [] := List.length_pos_iff
    try simp only [ln, li]
    clear ln li
    have lz : v.items = [] → ((v.items.length : Nat) : Int) = 0 := fun h => by rw [h]; rfl
    have nz : v.names = [] → ((v.names.length : Nat) : Int) = 0 := fun h => by rw [h]; rfl
    have sz : v.s = ⟨#[]⟩ → ((v.s.size : Nat) : Int) = 0 := fun h => by rw [h]; rfl
    try simp only [h, Int.reduceEq, false_and, false_or] at hE
    try simp only [h, Int.reduceEq, false_and, false_or] at gd
    grind (splits := 30)
  · have hs : shapeK v.k = shapeD (-1152921504606846976) 1152921504606846976 false false false 0 false false true true := by rw [h]; rfl
    rw [hs, shapeD]
    clear hs
    simp only [qA, zJ9, zH5, zJ0, zI5, zH2, one_int, zI9, smp, smo, lookOk, lookRes, sfOf, ↓reduceIte, Nat.reduceEqDiff, reduceCtorEq, e1, e3]
    simp [h] at hE gd ⊢
    simp only [zB3, hv, V.ok_s hv, V.ok_nm hv, V.ok_it hv, zA6, zA7, implies_true, and_true, true_and, zH9, idxN_lt, e1, e3]
    have hd : ∀ b, isBoolD (DV.bool b) = true := fun _ => rfl
    try simp only [hd, implies_true, and_true, true_and]
    clear hI hF hv c1 e1 e3 hd
    have ln : 0 < v.names.length ↔ ¬ v.names = [] := List.length_pos_iff
    have li : 0 < v.items.length ↔ ¬ v.items = [] := List.length_pos_iff
    try simp only [ln, li]
    clear ln li
    have lz : v.items = [] → ((v.items.length : Nat) : Int) = 0 := fun h => by rw [h]; rfl
    have nz : v.names = [] → ((v.names.length : Nat) : Int) = 0 := fun h => by rw [h]; rfl
    have sz : v.s = ⟨#[]⟩ → ((v.s.size : Nat) : Int) = 0 := fun h => by rw [h]; rfl
    try simp only [h, Int.reduceEq, false_and, false_or] at hE
    try simp only [h, Int.reduceEq, false_and, false_or] at gd
    grind (splits := 30)
  · have hs : shapeK v.k = shapeD 0 0 true false false 0 false false false true := by rw [h]; rfl
    rw [hs, shapeD]
    clear hs
    simp only [qA, zJ9, zH5, zJ0, zI5, zH2, one_int, zI9, smp, smo, lookOk, lookRes, sfOf, ↓reduceIte, Nat.reduceEqDiff, reduceCtorEq, e1, e3]
    simp [h] at hE gd ⊢
    simp only [zB3, hv, V.ok_s hv, V.ok_nm hv, V.ok_it hv, zA6, zA7, implies_true, and_true, true_and, zH9, idxN_lt, e1, e3]
    have hd : ∀ b, isBoolD (DV.bool b) = true := fun _ => rfl
    try simp only [hd, implies_true, and_true, true_and]
    clear hI hF hv c1 e1 e3 hd
    have ln : 0 < v.names.length ↔ ¬ v.names = [] := List.length_pos_iff
    have li : 0 < v.items.length ↔ ¬ v.items = [] := List.length_pos_iff
    try simp only [ln, li]
    clear ln li
    have lz : v.items = [] → ((v.items.length : Nat) : Int) = 0 := fun h => by rw [h]; rfl
    have nz : v.names = [] → ((v.names.length : Nat) : Int) = 0 := fun h => by rw [h]; rfl
    have sz : v.s = ⟨#[]⟩ → ((v.s.size : Nat) : Int) = 0 := fun h => by rw [h]; rfl
    try simp only [h, Int.reduceEq, false_and, false_or] at hE
    try simp only [h, Int.reduceEq, false_and, false_or] at gd
    grind (splits := 30)
  · have hs : shapeK v.k = shapeD 0 0 true false false 0 false false false true := by rw [h]; rfl
    rw [hs, shapeD]
    clear hs
    simp only [qA, zJ9, zH5, zJ0, zI5, zH2, one_int, zI9, smp, smo, lookOk, lookRes, sfOf, ↓reduceIte, Nat.reduceEqDiff, reduceCtorEq, e1, e3]
    simp [h] at hE gd ⊢
    simp only [zB3, hv, V.ok_s hv, V.ok_nm hv, V.ok_it hv, zA6, zA7, implies_true, and_true, true_and, zH9, idxN_lt, e1, e3]
    have hd : ∀ b, isBoolD (DV.bool b) = true := fun _ => rfl
    try simp only [hd, implies_true, and_true, true_and]
    clear hI hF hv c1 e1 e3 hd
    have ln : 0 < v.names.length ↔ ¬ v.names = [] := List.length_pos_iff
    have li : 0 < v.items.length ↔ ¬ v.items = [] := List.length_pos_iff
    try simp only [ln, li]
    clear ln li
    have lz : v.items = [] → ((v.items.length : Nat) : Int) = 0 := fun h => by rw [h]; rfl
    have nz : v.names = [] → ((v.names.length : Nat) : Int) = 0 := fun h => by rw [h]; rfl
    have sz : v.s = ⟨#[]⟩ → ((v.s.size : Nat) : Int) = 0 := fun h => by rw [h]; rfl
    try simp only [h, Int.reduceEq, false_and, false_or] at hE
    try simp only [h, Int.reduceEq, false_and, false_or] at gd
    grind (splits := 30)
  · have hs : shapeK v.k = shapeD 0 0 true false false 0 false false false true := by rw [h]; rfl
    rw [hs, shapeD]
    clear hs
    simp only [qA, zJ9, zH5, zJ0, zI5, zH2, one_int, zI9, smp, smo, lookOk, lookRes, sfOf, ↓reduceIte, Nat.reduceEqDiff, reduceCtorEq, e1, e3]
    simp [h] at hE gd ⊢
    simp only [zB3, hv, V.ok_s hv, V.ok_nm hv, V.ok_it hv, zA6, zA7, implies_true, and_true, true_and, zH9, idxN_lt, e1, e3]
    have hd : ∀ b, isBoolD (DV.bool b) = true := fun _ => rfl
    try simp only [hd, implies_true, and_true, true_and]
    clear hI hF hv c1 e1 e3 hd
    have ln : 0 < v.names.length ↔ ¬ v.names = [] := List.length_pos_iff
    have li : 0 < v.items.length ↔ ¬ v.items = [] := List.length_pos_iff
    try simp only [ln, li]
    clear ln li
    have lz : v.items = [] → ((v.items.length : Nat) : Int) = 0 := fun h => by rw [h]; rfl
    have nz : v.names = [] → ((v.names.length : Nat) : Int) = 0 := fun h => by rw [h]; rfl
    have sz : v.s = ⟨#[]⟩ → ((v.s.size : Nat) : Int) = 0 := fun h => by rw [h]; rfl
    try simp only [h, Int.reduceEq, false_and, false_or] at hE
    try simp only [h, Int.reduceEq, false_and, false_or] at gd
    grind (splits := 30)
  · have hs : shapeK v.k = shapeD 0 0 true false false 0 false false false true := by rw [h]; rfl
    rw [hs, shapeD]
    clear hs
    simp only [qA, zJ9, zH5, zJ0, zI5, zH2, one_int, zI9, smp, smo, lookOk, lookRes, sfOf, ↓reduceIte, Nat.reduceEqDiff, reduceCtorEq, e1, e3]
    simp [h] at hE gd ⊢
    simp only [zB3, hv, V.ok_s hv, V.ok_nm hv, V.ok_it hv, zA6, zA7, implies_true, and_true, true_and, zH9, idxN_lt, e1, e3]
    have hd : ∀ b, isBoolD (DV.bool b) = true := fun _ => rfl
    try simp only [hd, implies_true, and_true, true_and]
    clear hI hF hv c1 e1 e3 hd
    have ln : 0 < v.names.length ↔ ¬ v.names = [] := List.length_pos_iff
    have li : 0 < v.items.length ↔ ¬ v.items = [] := List.length_pos_iff
    try simp only [ln, li]
    clear ln li
    have lz : v.items = [] → ((v.items.length : Nat) : Int) = 0 := fun h => by rw [h]; rfl
    have nz : v.names = [] → ((v.names.length : Nat) : Int) = 0 := fun h => by rw [h]; rfl
    have sz : v.s = ⟨#[]⟩ → ((v.s.size : Nat) : Int) = 0 := fun h => by rw [h]; rfl
    try simp only [h, Int.reduceEq, false_and, false_or] at hE
    try simp only [h, Int.reduceEq, false_and, false_or] at gd
    grind (splits := 30)
  · have hs : shapeK v.k = shapeD 0 0 false true true 16 false false false true := by rw [h]; rfl
    rw [hs, shapeD]
    clear hs
    simp only [qA, zJ9, zH5, zJ0, zI5, zH2, one_int, zI9, smp, smo, lookOk, lookRes, sfOf, ↓reduceIte, Nat.reduceEqDiff, reduceCtorEq, e1, e3]
    simp [h] at hE gd ⊢
    simp only [zB3, hv, V.ok_s hv, V.ok_nm hv, V.ok_it hv, zA6, zA7, implies_true, and_true, true_and, zH9, idxN_lt, e1, e3]
    have hd : ∀ b, isBoolD (DV.bool b) = true := fun _ => rfl
    try simp only [hd, implies_true, and_true, true_and]
    clear hI hF hv c1 e1 e3 hd
    have ln : 0 < v.names.length ↔ ¬ v.names = [] := List.length_pos_iff
    have li : 0 < v.items.length ↔ ¬ v.items = [] := List.length_pos_iff
    try simp only [ln, li]
    clear ln li
    have lz : v.items = [] → ((v.items.length : Nat) : Int) = 0 := fun h => by rw [h]; rfl
    have nz : v.names = [] → ((v.names.length : Nat) : Int) = 0 := fun h => by rw [h]; rfl
    have sz : v.s = ⟨#[]⟩ → ((v.s.size : Nat) : Int) = 0 := fun h => by rw [h]; rfl
    try simp only [h, Int.reduceEq, false_and, false_or] at hE
    try simp only [h, Int.reduceEq, false_and, false_or] at gd
    grind (splits := 30)
  · have hs : shapeK v.k = shapeD 0 0 false false true 40 false false false true := by rw [h]; rfl
    rw [hs, shapeD]
    clear hs
    simp only [qA, zJ9, zH5, zJ0, zI5, zH2, one_int, zI9, smp, smo, lookOk, lookRes, sfOf, ↓reduceIte, Nat.reduceEqDiff, reduceCtorEq, e1, e3]
    simp [h] at hE gd ⊢
    simp only [zB3, hv, V.ok_s hv, V.ok_nm hv, V.ok_it hv, zA6, zA7, implies_true, and_true, true_and, zH9, idxN_lt, e1, e3]
    have hd : ∀ b, isBoolD (DV.bool b) = true := fun _ => rfl
    try simp only [hd, implies_true, and_true, true_and]
    clear hI hF hv c1 e1 e3 hd
    have ln : 0 < v.names.length ↔ ¬ v.names = [] := List.length_pos_iff
    have li : 0 < v.items.length ↔ ¬ v.items = [] := List.length_pos_iff
    try simp only [ln, li]
    clear ln li
    have lz : v.items = [] → ((v.items.length : Nat) : Int) = 0 := fun h => by rw [h]; rfl
    have nz : v.names = [] → ((v.names.length : Nat) : Int) = 0 := fun h => by rw [h]; rfl
    have sz : v.s = ⟨#[]⟩ → ((v.s.size : Nat) : Int) = 0 := fun h => by rw [h]; rfl
    try simp only [h, Int.reduceEq, false_and, false_or] at hE
    try simp only [h, Int.reduceEq, false_and, false_or] at gd
    grind (splits := 30)
  · have hs : shapeK v.k = shapeD 0 0 false false true 40 false true false true := by rw [h]; rfl
    rw [hs, shapeD]
    clear hs
    simp only [qA, zJ9, zH5, zJ0, zI5, zH2, one_int, zI9, smp, smo, lookOk, lookRes, sfOf, ↓reduceIte, Nat.reduceEqDiff, reduceCtorEq, e1, e3]
    simp [h] at hE gd ⊢
    simp only [zB3, hv, V.ok_s hv, V.ok_nm hv, V.ok_it hv, zA6, zA7, implies_true, and_true, true_and, zH9, idxN_lt, e1, e3]
    have hd : ∀ b, isBoolD (DV.bool b) = true := fun _ => rfl
    try simp only [hd, implies_true, and_true, true_and]
    clear hI hF hv c1 e1 e3 hd
    have ln : 0 < v.names.length ↔ ¬ v.names = [] := List.length_pos_iff
    have li : 0 < v.items.length ↔ ¬ v.items = [] := List.length_pos_iff
    try simp only [ln, li]
    clear ln li
    have lz : v.items = [] → ((v.items.length : Nat) : Int) = 0 := fun h => by rw [h]; rfl
    have nz : v.names = [] → ((v.names.length : Nat) : Int) = 0 := fun h => by rw [h]; rfl
    have sz : v.s = ⟨#[]⟩ → ((v.s.size : Nat) : Int) = 0 := fun h => by rw [h]; rfl
    try simp only [h, Int.reduceEq, false_and, false_or] at hE
    try simp only [h, Int.reduceEq, false_and, false_or] at gd
    grind (splits := 30)
  · have hs : shapeK v.k = shapeD 0 0 false true true 1 true false false true := by rw [h]; rfl
    rw [hs, shapeD]
    clear hs
    simp only [qA, zJ9, zH5, zJ0, zI5, zH2, one_int, zI9, smp, smo, lookOk, lookRes, sfOf, ↓reduceIte, Nat.reduceEqDiff, reduceCtorEq, e1, e3]
    simp [h] at hE gd ⊢
    simp only [zB3, hv, V.ok_s hv, V.ok_nm hv, V.ok_it hv, zA6, zA7, implies_true, and_true, true_and, zH9, idxN_lt, e1, e3]
    have hd : ∀ b, isBoolD (DV.bool b) = true := fun _ => rfl
    try simp only [hd, implies_true, and_true, true_and]
    clear hI hF hv c1 e1 e3 hd
    have ln : 0 < v.names.length ↔ ¬ v.names = [] := List.length_pos_iff
    have li : 0 < v.items.length ↔ ¬ v.items = [] := List.length_pos_iff
    try simp only [ln, li]
    clear ln li
    have lz : v.items = [] → ((v.items.length : Nat) : Int) = 0 := fun h => by rw [h]; rfl
    have nz : v.names = [] → ((v.names.length : Nat) : Int) = 0 := fun h => by rw [h]; rfl
    have sz : v.s = ⟨#[]⟩ → ((v.s.size : Nat) : Int) = 0 := fun h => by rw [h]; rfl
    try simp only [h, Int.reduceEq, false_and, false_or] at hE
    try simp only [h, Int.reduceEq, false_and, false_or] at gd
    grind (splits := 30)
  · have hs : shapeK v.k = shapeD 0 4 false false false 0 false false false true := by rw [h]; rfl
    rw [hs, shapeD]
    clear hs
    simp only [qA, zJ9, zH5, zJ0, zI5, zH2, one_int, zI9, smp, smo, lookOk, lookRes, sfOf, ↓reduceIte, Nat.reduceEqDiff, reduceCtorEq, e1, e3]
    simp [h] at hE gd ⊢
    simp only [zB3, hv, V.ok_s hv, V.ok_nm hv, V.ok_it hv, zA6, zA7, implies_true, and_true, true_and, zH9, idxN_lt, e1, e3]
    have hd : ∀ b, isBoolD (DV.bool b) = true := fun _ => rfl
    try simp only [hd, implies_true, and_true, true_and]
    clear hI hF hv c1 e1 e3 hd
    have ln : 0 < v.names.length ↔ ¬ v.names = [] := List.length_pos_iff
    have li : 0 < v.items.length ↔ ¬ v.items = [] := List.length_pos_iff
    try simp only [ln, li]
    clear ln li
    have lz : v.items = [] → ((v.items.length : Nat) : Int) = 0 := fun h => by rw [h]; rfl
    have nz : v.names = [] → ((v.names.length : Nat) : Int) = 0 := fun h => by rw [h]; rfl
    have sz : v.s = ⟨#[]⟩ → ((v.s.size : Nat) : Int) = 0 := fun h => by rw [h]; rfl
    try simp only [h, Int.reduceEq, false_and, false_or] at hE
    try simp only [h, Int.reduceEq, false_and, false_or] at gd
    grind (splits := 30)
end Go.Proofs.Sx

namespace Go.Proofs.Sx
open Go Go.Proofs Go.Proofs.Am 
variable {gs : List Nat}

open Classical in
noncomputable def e47 : Ent := ⟨58, fun | [d_v] => decide (isV d_v) | _ => false, fun | [d_v] => .int .i64 (ownE (toV d_v)) | _ => .inil⟩
open Classical in
theorem ok47 : EntOk Tryz.prog [0] e47 := fun ds h => by
  unfold e47 at h ⊢
  simp only at h ⊢
  split at h
  · rw [decide_eq_true_iff] at h
    obtain ⟨v0, rfl, k0⟩ := h
    simp only [zB2, zA4, zA5]
    exact pc47 _ k0
  · cases h
mutual
noncomputable def plainE : V → Int
  | .mk k n e s nm it => if ownE (.mk k n e s nm it) ≠ 0 then ownE (.mk k n e s nm it) else plainO it
noncomputable def plainO : Option (List V) → Int
  | none => 0
  | some l => plainL l
noncomputable def plainL : List V → Int
  | [] => 0
  | v :: r => if plainE v ≠ 0 then plainE v else plainL r
end
theorem plainO_eq (o : Option (List V)) : plainO o = plainL (o.getD []) := by cases o <;> rw [plainO] <;> simp [plainL]
theorem plainE_eq (v : V) : plainE v = if ownE v ≠ 0 then ownE v else plainL v.items := by
  cases v; rw [plainE, plainO_eq]; rfl
theorem plainL_step (l : List V) (i : Nat) (h : i < l.length) : plainL (l.drop i) = if plainE (l.getD i default) ≠ 0 then plainE (l.getD i default) else plainL (l.drop (i + 1)) := by
  rw [List.drop_eq_getElem_cons h, plainL]
  simp [List.getD, h]
open Classical in
noncomputable def eVn (f : Nat) (r : V → DV) (n : Nat) : Ent := ⟨f, fun | [a] => decide (isV a ∧ (toV a).sz < n) | _ => false, fun | [a] => r (toV a) | _ => .inil⟩
open Classical in
theorem okVn {f n : Nat} {r : V → DV} (h : ∀ v : V, v.ok → v.sz < n → PureCall Tryz.prog [0] f [v.enc] (dRet (r v))) : EntOk Tryz.prog [0] (eVn f r n) := fun ds hk => by
  unfold eVn at hk ⊢
  simp only at hk ⊢
  split at hk
  · rw [decide_eq_true_iff] at hk
    obtain ⟨⟨v, rfl, h1⟩, h3⟩ := hk
    simp only [zB2] at h3 ⊢
    exact h v h1 h3
  · cases hk
def lv28 : Nat → List Nat × List Nat
  | 5 => ([1, 13, 14, 15], [0])
  | _ => ([], [])
theorem pc28n : ∀ (n : Nat) (v : V), v.ok → v.sz < n → PureCall Tryz.prog [0] 40 [v.enc] (dRet (.int .i64 (plainE v)))
  | 0, v, _, h => by omega
  | n + 1, v, hv, hn => by
    have ok28' := okVn (r := fun v => .int .i64 (plainE v)) (pc28n n)
    refine zD0 mixed fn28 (Nat.le_of_ble_eq_true rfl) (Nat.lt_of_succ_le (Nat.le_of_ble_eq_true rfl)) (sfOk (.cons ok47 (.cons ok28' .nil))) TbOk (lv := lv28) fun I F hI hF => ?_
    refine zE2 fun C hC => ?_
    generalize Q0 : v.enc = Z0
    cbv
    subst Q0
    subst hC
    refine ⟨?_⟩
    simp (maxSteps:=9999999) only [hI, hF, std]
    have e3 : v.it.getD [] = v.items := rfl
    have il := V.ok_il hv
    have hE := plainE_eq v
    simp only [smp, smo, lookOk, lookRes, sfOf, ↓reduceIte, Nat.reduceEqDiff, reduceCtorEq, qA, e47, eVn, e3]
    simp [hv, qA]
    refine ⟨fun h => ?_, fun h => ?_⟩
    · rw [hE, if_pos h]
    rw [if_neg (fun hc => hc h)] at hE
    refine zE1 (kend := fun I => kEndF I Tb [.tmp 2]) hI hF (sfOk (.cons ok47 (.cons ok28' .nil))) TbOk (by exact fun Bk e s h => endF TbOk Bk e s h) (lv := lv28) 0 (fun i : {i : Nat // i ≤ v.items.length ∧ plainL v.items = plainL (v.items.drop i)} => [.loc 0 6 0 0, .d (encO v.it), .d (.int .i64 (v.items.length : Int)), .d (.int .i64 (i.1 : Int))]) (fun i : {i : Nat // i ≤ v.items.length ∧ plainL v.items = plainL (v.items.drop i)} => [(0, some ⟨[.d v.enc], 6, 25, true, true⟩)]) (fun i : {i : Nat // i ≤ v.items.length ∧ plainL v.items = plainL (v.items.drop i)} => v.items.length - i.1) [0] (⟨0, by omega, by simp⟩ : {i : Nat // i ≤ v.items.length ∧ plainL v.items = plainL (v.items.drop i)}) (by rfl) (by rfl) ?_ ?_ fun i => ?_
    · rfl
    · rfl
    obtain ⟨i, hi1, hi2⟩ := i
    refine zE2 fun C hC => ?_
    generalize Q0 : v.enc = Z0
    generalize Q1 : encO v.it = Z1
    generalize Q2 : DV.int .i64 (v.items.length : Int) = Z2
    generalize Q3 : DV.int .i64 (i : Int) = Z3
    cbv
    subst Q0 Q1 Q2 Q3
    subst hC
    refine ⟨?_⟩
    simp (maxSteps:=9999999) only [hI, hF, std]
    have w3 := zE6 (n := i) (by omega)
    by_cases hlt : i < v.items.length
    · have g1 := zH8 _ _ hlt
      have k1 := V.ok_get hv hlt
      have k2 := V.sz_get hlt
      have k3 : (v.items.getD i default).sz < n := by omega
      have hs := plainL_step v.items i hlt
      simp only [smp, smo, lookOk, lookRes, sfOf, ↓reduceIte, Nat.reduceEqDiff, reduceCtorEq, qA, e47, eVn, e3, g1]
      simp [hlt, w3, - List.getD_eq_getElem?_getD, k1, k3, qA]
      refine ⟨fun h => ?_, fun h => ⟨i + 1, by omega, ⟨by omega, ?_⟩, by simp⟩⟩
      · rw [hE, hi2, hs, if_pos h]
      · rw [hi2, hs, if_neg (fun hc => hc h)]
    · have hs : v.items.drop i = [] := List.drop_eq_nil_of_le (by omega)
      simp only [smp, smo, lookOk, lookRes, sfOf, ↓reduceIte, Nat.reduceEqDiff, reduceCtorEq, qA, e47, eVn, e3]
      simp [hlt, hE, hi2, hs, plainL]
theorem pc28 (v : V) (hv : v.ok) : PureCall Tryz.prog [0] 40 [v.enc] (dRet (.int .i64 (plainE v))) := pc28n (v.sz + 1) v hv (by omega)
open Classical in
noncomputable def e28 : Ent := ⟨40, fun | [d_v] => decide (isV d_v) | _ => false, fun | [d_v] => .int .i64 (plainE (toV d_v)) | _ => .inil⟩
open Classical in
theorem ok28 : EntOk Tryz.prog [0] e28 := fun ds h => by
  unfold e28 at h ⊢
  simp only at h ⊢
  split at h
  · rw [decide_eq_true_iff] at h
    obtain ⟨v0, rfl, k0⟩ := h
    simp only [zB2, zA4, zA5]
    exact pc28 _ k0
  · cases h
def lv49 : Nat → List Nat × List Nat
  | 5 => ([1, 4], [0])
  | _ => ([], [])
theorem pc49n : ∀ (n : Nat) (v : V), v.ok → v.sz < n → PureCall Tryz.prog [0] 43 [v.enc] (dRet (.int .i64 (plainE v)))
  | 0, v, _, h => by omega
  | n + 1, v, hv, hn => by
    have ok49' := okVn (r := fun v => .int .i64 (plainE v)) (pc49n n)
    refine zD0 mixed fn49 (Nat.le_of_ble_eq_true rfl) (Nat.lt_of_succ_le (Nat.le_of_ble_eq_true rfl)) (sfOk (.cons ok69 (.cons ok49' .nil))) TbOk (lv := lv49) fun I F hI hF => ?_
    refine zE2 fun C hC => ?_
    generalize Q0 : v.enc = Z0
    cbv
    subst Q0
    subst hC
    refine ⟨?_⟩
    simp (maxSteps:=9999999) only [hI, hF, std]
    have e3 : v.it.getD [] = v.items := rfl
    have il := V.ok_il hv
    have hE := plainE_eq v
    simp only [smp, smo, lookOk, lookRes, sfOf, ↓reduceIte, Nat.reduceEqDiff, reduceCtorEq, qA, e69, eVn, e3]
    simp [hv, qA]
    refine ⟨fun h => ?_, fun h => ?_⟩
    · rw [hE, if_pos h]
    rw [if_neg (fun hc => hc h)] at hE
    refine zE1 (kend := fun I => kEndF I Tb [.tmp 2]) hI hF (sfOk (.cons ok69 (.cons ok49' .nil))) TbOk (by exact fun Bk e s h => endF TbOk Bk e s h) (lv := lv49) 0 (fun i : {i : Nat // i ≤ v.items.length ∧ plainL v.items = plainL (v.items.drop i)} => [.loc 0 6 0 0, .d (.int .i64 (i.1 : Int))]) (fun i : {i : Nat // i ≤ v.items.length ∧ plainL v.items = plainL (v.items.drop i)} => [(0, some ⟨[.d v.enc], 6, 25, true, true⟩)]) (fun i : {i : Nat // i ≤ v.items.length ∧ plainL v.items = plainL (v.items.drop i)} => v.items.length - i.1) [0] (⟨0, by omega, by simp⟩ : {i : Nat // i ≤ v.items.length ∧ plainL v.items = plainL (v.items.drop i)}) (by rfl) (by rfl) ?_ ?_ fun i => ?_
    · rfl
    · rfl
    obtain ⟨i, hi1, hi2⟩ := i
    refine zE2 fun C hC => ?_
    generalize Q0 : v.enc = Z0
    generalize Q1 : DV.int .i64 (i : Int) = Z1
    cbv
    subst Q0 Q1
    subst hC
    refine ⟨?_⟩
    simp (maxSteps:=9999999) only [hI, hF, std]
    have w3 := zE6 (n := i) (by omega)
    by_cases hlt : i < v.items.length
    · have g1 := zH8 _ _ hlt
      have k1 := V.ok_get hv hlt
      have k2 := V.sz_get hlt
      have k3 : (v.items.getD i default).sz < n := by omega
      have hs := plainL_step v.items i hlt
      simp only [smp, smo, lookOk, lookRes, sfOf, ↓reduceIte, Nat.reduceEqDiff, reduceCtorEq, qA, e69, eVn, e3, g1]
      simp [hlt, w3, - List.getD_eq_getElem?_getD, k1, k3, qA]
      refine ⟨fun h => ?_, fun h => ⟨i + 1, by omega, ⟨by omega, ?_⟩, by simp⟩⟩
      · rw [hE, hi2, hs, if_pos h]
      · rw [hi2, hs, if_neg (fun hc => hc h)]
    · have hs : v.items.drop i = [] := List.drop_eq_nil_of_le (by omega)
      simp only [smp, smo, lookOk, lookRes, sfOf, ↓reduceIte, Nat.reduceEqDiff, reduceCtorEq, qA, e69, eVn, e3]
      simp [hlt, hE, hi2, hs, plainL]
theorem pc49 (v : V) (hv : v.ok) : PureCall Tryz.prog [0] 43 [v.enc] (dRet (.int .i64 (plainE v))) := pc49n (v.sz + 1) v hv (by omega)
open Classical in
noncomputable def e49 : Ent := ⟨43, fun | [d_v] => decide (isV d_v) | _ => false, fun | [d_v] => .int .i64 (plainE (toV d_v)) | _ => .inil⟩
open Classical in
theorem ok49 : EntOk Tryz.prog [0] e49 := fun ds h => by
  unfold e49 at h ⊢
  simp only at h ⊢
  split at h
  · rw [decide_eq_true_iff] at h
    obtain ⟨v0, rfl, k0⟩ := h
    simp only [zB2, zA4, zA5]
    exact pc49 _ k0
  · cases h
end Go.Proofs.Sx

namespace Go.Proofs.Sx
open Go Go.Proofs Go.Proofs.Am 
variable {gs : List Nat}

def Zst : Type := Int × Bool
def encZ (s : Zst) : DV := .agg [.int .i64 s.1, .bool s.2]
def meetS (s : Zst) (d : Int) : Zst := (s.1 - 1, s.2 || decide (s.1 - 1 < 0) || decide (d < 1))
noncomputable def h59 : HEnt := {
  f := 56
  es := 2
  ty := 66
  ok x ds := match x, ds with
    | .agg [.int .i64 n, .bool b], [.int .i64 d] => decide (-1048576 ≤ n ∧ n ≤ 1048576)
    | _, _ => false
  res x ds := match x, ds with
    | .agg [.int .i64 n, .bool b], [.int .i64 d] => .bool (!(meetS (n, b) d).2)
    | _, _ => .inil
  out x ds := match x, ds with
    | .agg [.int .i64 n, .bool b], [.int .i64 d] => encZ (meetS (n, b) d)
    | _, _ => .inil }
theorem pc59 (n : Int) (b : Bool) (d : Int) (hn : -1048576 ≤ n ∧ n ≤ 1048576) : PtrCall Tryz.prog [0] 56 2 66 (.agg [.int .i64 n, .bool b]) [.int .i64 d] (encZ (meetS (n, b) d)) (.bool (!(meetS (n, b) d).2)) := by
  refine ptr_of_tree (H := shP [] (sgOf [])) mixed fn59 (Nat.le_of_ble_eq_true rfl) (Nat.lt_of_succ_le (Nat.le_of_ble_eq_true rfl)) (sfOkH .nil .nil) TbOk (lv := lv0) fun I F hI hF => ?_
  generalize hG : sgOf [] = G
  refine zE2 fun C hC => ?_
  generalize Q0 : DV.int .i64 n = Z0
  generalize Q1 : DV.bool b = Z1
  generalize Q2 : DV.int .i64 d = Z2
  generalize Q3 : encZ (meetS (n, b) d) = Z3
  cbv
  subst Q0 Q1 Q2 Q3
  subst hC
  subst hG
  refine ⟨?_⟩
  simp (maxSteps:=9999999) only [hI, hF, std]
  have w : IntKind.i64.wrap (n - 1) = n - 1 := zJ4 (by omega) (by omega)
  simp only [smp, smo, lookOk, lookRes, sfOf, sgOf, hOk, hRes, hOut, ↓reduceIte, Nat.reduceEqDiff, reduceCtorEq, qA, w]
  simp [meetS, encZ, cond_eq_ite]
theorem okh59 : HEntOk Tryz.prog [0] h59 := fun x ds h => by
  unfold h59 at h ⊢
  simp only at h ⊢
  split at h
  · rw [decide_eq_true_iff] at h
    exact pc59 _ _ _ h
  · cases h

mutual
def sizV : V → Int → Zst → Zst
  | .mk _ _ _ _ _ it, d, s => if (meetS s d).2 = true then meetS s d else sizO it (d - 1) (meetS s d)
def sizO : Option (List V) → Int → Zst → Zst
  | none, _, s => s
  | some l, d, s => sizL l d s
def sizL : List V → Int → Zst → Zst
  | [], _, s => s
  | v :: r, d, s => if s.2 = true then s else sizL r d (sizV v d s)
end
theorem sizO_eq (o : Option (List V)) (d : Int) (s : Zst) : sizO o d s = sizL (o.getD []) d s := by cases o <;> rw [sizO] <;> simp [sizL]
theorem sizV_eq (v : V) (d : Int) (s : Zst) : sizV v d s = if (meetS s d).2 = true then meetS s d else sizL v.items (d - 1) (meetS s d) := by
  cases v; rw [sizV, sizO_eq]; rfl
theorem sizL_step (l : List V) (i : Nat) (d : Int) (s : Zst) (h : i < l.length) : sizL (l.drop i) d s = if s.2 = true then s else sizL (l.drop (i + 1)) d (sizV (l.getD i default) d s) := by
  rw [List.drop_eq_getElem_cons h, sizL]
  simp [List.getD, h]
theorem sizL_over (l : List V) (d : Int) (s : Zst) (h : s.2 = true) : sizL l d s = s := by
  cases l <;> simp [sizL, h]
structure ZOk (m : Int) (s : Zst) : Prop where
  lo : -1 ≤ s.1
  hi : s.1 ≤ m
  pos : s.2 = false → 0 ≤ s.1
theorem meetS_ok {m : Int} {s : Zst} {d : Int} (h : ZOk m s) (h2 : s.2 = false) : ZOk m (meetS s d) := by
  have h3 := h.pos h2
  have h4 := h.hi
  refine ⟨by simp only [meetS]; omega, by simp only [meetS]; omega, fun h5 => ?_⟩
  simp [meetS] at h5 ⊢
  omega
mutual
theorem sizV_ok : ∀ (v : V) (m d : Int) (s : Zst), ZOk m s → s.2 = false → ZOk m (sizV v d s)
  | .mk _ _ _ _ _ it, m, d, s, h, h2 => by
    rw [sizV]
    split
    · exact meetS_ok h h2
    · exact sizO_ok it m (d - 1) _ (meetS_ok h h2)
theorem sizO_ok : ∀ (o : Option (List V)) (m d : Int) (s : Zst), ZOk m s → ZOk m (sizO o d s)
  | none, m, d, s, h => by rw [sizO]; exact h
  | some l, m, d, s, h => by rw [sizO]; exact sizL_ok l m d s h
theorem sizL_ok : ∀ (l : List V) (m d : Int) (s : Zst), ZOk m s → ZOk m (sizL l d s)
  | [], m, d, s, h => by rw [sizL]; exact h
  | v :: r, m, d, s, h => by
    rw [sizL]
    split
    · exact h
    · rename_i h2; exact sizL_ok r m d _ (sizV_ok v m d s h (by simpa using h2))
end

open Classical in
noncomputable def h37n (N : Nat) : HEnt := {
  f := 38
  es := 2
  ty := 66
  ok x ds := match x, ds with
    | .agg [.int .i64 n, .bool b], [v, .int .i64 d] => decide (isV v ∧ (toV v).sz < N ∧ ZOk 1048576 (n, b) ∧ b = false ∧ 0 ≤ d ∧ d ≤ 1048576)
    | _, _ => false
  res x ds := .tup []
  out x ds := match x, ds with
    | .agg [.int .i64 n, .bool b], [v, .int .i64 d] => encZ (sizV (toV v) d (n, b))
    | _, _ => .inil }
open Classical in
theorem okh37n {N : Nat} (h : ∀ (v : V) (n : Int) (b : Bool) (d : Int), v.ok → v.sz < N → ZOk 1048576 (n, b) → b = false → 0 ≤ d → d ≤ 1048576 → PtrCall Tryz.prog [0] 38 2 66 (encZ (n, b)) [v.enc, .int .i64 d] (encZ (sizV v d (n, b))) (.tup [])) : HEntOk Tryz.prog [0] (h37n N) := fun x ds hk => by
  unfold h37n at hk ⊢
  simp only at hk ⊢
  split at hk
  · rw [decide_eq_true_iff] at hk
    obtain ⟨⟨v, rfl, h1⟩, h2, h3, h4, h5, h6⟩ := hk
    simp only [zB2] at h2 ⊢
    exact h v _ _ _ h1 h2 h3 h4 h5 h6
  · cases hk
def lv37 : Nat → List Nat × List Nat
  | 3 => ([0, 2, 4, 6], [0, 1])
  | _ => ([], [])
theorem pc37n : ∀ (N : Nat) (v : V) (n : Int) (b : Bool) (d : Int), v.ok → v.sz < N → ZOk 1048576 (n, b) → b = false → 0 ≤ d → d ≤ 1048576 → PtrCall Tryz.prog [0] 38 2 66 (encZ (n, b)) [v.enc, .int .i64 d] (encZ (sizV v d (n, b))) (.tup [])
  | 0, v, _, _, _, _, h, _, _, _, _ => by omega
  | N + 1, v, n, b, d, hv, hn, hz, hb, hd, hd2 => by
    have okh37' := okh37n (pc37n N)
    refine ptr_of_tree (H := shP [(56, 2, 66), (38, 2, 66)] (sgOf [h59, (h37n _)])) mixed fn37 (Nat.le_of_ble_eq_true rfl) (Nat.lt_of_succ_le (Nat.le_of_ble_eq_true rfl)) (sfOkH .nil (.cons okh59 (.cons okh37' .nil))) TbOk (lv := lv37) fun I F hI hF => ?_
    generalize hG : sgOf [h59, (h37n _)] = G
    refine zE2 fun C hC => ?_
    generalize Q0 : encZ (n, b) = Z0
    generalize Q1 : v.enc = Z1
    generalize Q2 : DV.int .i64 d = Z2
    generalize Q3 : encZ (sizV v d (n, b)) = Z3
    cbv
    subst Q0 Q1 Q2 Q3
    subst hC
    subst hG
    refine ⟨?_⟩
    simp (maxSteps:=9999999) only [hI, hF, std]
    simp only [smp, smo, lookOk, lookRes, sfOf, sgOf, hOk, hRes, hOut, ↓reduceIte, Nat.reduceEqDiff, reduceCtorEq, qA, h59, h37n, encZ]
    have hb2 : -1048576 ≤ n ∧ n ≤ 1048576 := by have := hz.lo; have := hz.hi; simp only at *; omega
    have hE := sizV_eq v d (n, b)
    have hm := meetS_ok (d := d) hz hb
    have e3 : v.it.getD [] = v.items := rfl
    have il := V.ok_il hv
    simp [hb2]
    refine ⟨fun h => ?_, fun h => ?_⟩
    · rw [hE, if_pos h]; exact ⟨rfl, rfl⟩
    rw [if_neg (by rw [h]; simp)] at hE
    have hd3 : 1 ≤ d := by simp [meetS] at h; omega
    have wd : IntKind.i64.wrap (d - 1) = d - 1 := zJ4 (by omega) (by omega)
    refine zE1 (kend := fun I => kEndP I Tb 2 66 []) (H := shP [(56, 2, 66), (38, 2, 66)] (sgOf [h59, (h37n _)])) hI hF (sfOkH .nil (.cons okh59 (.cons okh37' .nil))) TbOk (by exact fun Bk e s h => endP TbOk Bk e s h) (lv := lv37) 0 (fun i : {i : Nat × Zst // i.1 ≤ v.items.length ∧ sizL v.items (d - 1) (meetS (n, b) d) = sizL (v.items.drop i.1) (d - 1) i.2 ∧ ZOk 1048576 i.2} => [.loc 0 2 0 0, .d (.int .i64 d), .loc 1 6 0 0, .d (.int .i64 (i.1.1 : Int))]) (fun i : {i : Nat × Zst // i.1 ≤ v.items.length ∧ sizL v.items (d - 1) (meetS (n, b) d) = sizL (v.items.drop i.1) (d - 1) i.2 ∧ ZOk 1048576 i.2} => [(0, some ⟨[.d (encZ i.1.2)], 2, 66, true, true⟩), (1, some ⟨[.d v.enc], 6, 25, true, true⟩)]) (fun i : {i : Nat × Zst // i.1 ≤ v.items.length ∧ sizL v.items (d - 1) (meetS (n, b) d) = sizL (v.items.drop i.1) (d - 1) i.2 ∧ ZOk 1048576 i.2} => v.items.length - i.1.1) [0, 1] (⟨(0, meetS (n, b) d), by omega, by simp, hm⟩ : {i : Nat × Zst // i.1 ≤ v.items.length ∧ sizL v.items (d - 1) (meetS (n, b) d) = sizL (v.items.drop i.1) (d - 1) i.2 ∧ ZOk 1048576 i.2}) (by rfl) (by rfl) ?_ ?_ fun i => ?_
    · rfl
    · rfl
    obtain ⟨⟨i, s⟩, hi1, hi2, hi3⟩ := i
    generalize hG : sgOf [h59, (h37n _)] = G
    refine zE2 fun C hC => ?_
    generalize Q0 : encZ s = Z0
    generalize Q1 : v.enc = Z1
    generalize Q2 : DV.int .i64 d = Z2
    generalize Q3 : DV.int .i64 (i : Int) = Z3
    cbv
    subst Q0 Q1 Q2 Q3
    subst hC
    subst hG
    refine ⟨?_⟩
    simp (maxSteps:=9999999) only [hI, hF, std]
    have w3 := zE6 (n := i) (by omega)
    by_cases hlt : i < v.items.length ∧ s.2 = false
    · have g1 := zH8 _ _ hlt.1
      have k1 := V.ok_get hv hlt.1
      have k2 := V.sz_get hlt.1
      have k3 : (v.items.getD i default).sz < N := by omega
      have hs := sizL_step v.items i (d - 1) s hlt.1
      rw [if_neg (by simp [hlt.2])] at hs
      simp only [smp, smo, lookOk, lookRes, sfOf, sgOf, hOk, hRes, hOut, ↓reduceIte, Nat.reduceEqDiff, reduceCtorEq, qA, h59, h37n, encZ, e3, g1, wd]
      simp [hlt, w3, - List.getD_eq_getElem?_getD, k1, k3, qA, hi3]
      have hse : ((s.1, false) : Zst) = s := by rw [← hlt.2]; rfl
      have hse' : (s.fst, false) = s := hse
      rw [hse']
      exact ⟨⟨hi3, hd3, by omega⟩, i + 1, by omega, by simp, _, rfl, ⟨by omega, by rw [hi2, hs], sizV_ok _ _ _ _ hi3 hlt.2⟩, rfl⟩
    · simp only [smp, smo, lookOk, lookRes, sfOf, sgOf, hOk, hRes, hOut, ↓reduceIte, Nat.reduceEqDiff, reduceCtorEq, qA, h59, h37n, encZ, e3]
      simp [hE, hi2]
      refine ⟨fun a b => absurd ⟨a, b⟩ hlt, fun h => ?_⟩
      have : sizL (v.items.drop i) (d - 1) s = s := by
        by_cases hi : i < v.items.length
        · exact sizL_over _ _ _ (h hi)
        · rw [List.drop_eq_nil_of_le (by omega), sizL]
      rw [this]; exact ⟨rfl, rfl⟩
theorem pc37 (v : V) (n : Int) (d : Int) (hv : v.ok) (h : 0 ≤ n ∧ n ≤ 1048576) (h2 : 0 ≤ d ∧ d ≤ 1048576) : PtrCall Tryz.prog [0] 38 2 66 (encZ (n, false)) [v.enc, .int .i64 d] (encZ (sizV v d (n, false))) (.tup []) :=
  pc37n (v.sz + 1) v n false d hv (by omega) ⟨by simp only; omega, h.2, fun _ => h.1⟩ rfl h2.1 h2.2
open Classical in
noncomputable def h37 : HEnt := {
  f := 38
  es := 2
  ty := 66
  ok x ds := match x, ds with
    | .agg [.int .i64 n, .bool b], [v, .int .i64 d] => decide (isV v ∧ ZOk 1048576 (n, b) ∧ b = false ∧ 0 ≤ d ∧ d ≤ 1048576)
    | _, _ => false
  res x ds := .tup []
  out x ds := match x, ds with
    | .agg [.int .i64 n, .bool b], [v, .int .i64 d] => encZ (sizV (toV v) d (n, b))
    | _, _ => .inil }
open Classical in
theorem okh37 : HEntOk Tryz.prog [0] h37 := fun x ds hk => by
  unfold h37 at hk ⊢
  simp only at hk ⊢
  split at hk
  · rw [decide_eq_true_iff] at hk
    obtain ⟨⟨v, rfl, h1⟩, h3, rfl, h5, h6⟩ := hk
    simp only [zB2]
    exact pc37 v _ _ h1 ⟨h3.pos rfl, h3.hi⟩ ⟨h5, h6⟩
  · cases hk
noncomputable def smallV (v : V) (n : Int) : Bool := !(sizV v 8 (n, false)).2
theorem pc48 (v : V) (n : Int) (hv : v.ok) (h : 0 ≤ n ∧ n ≤ 1048576) : PureCall Tryz.prog [0] 34 [v.enc, .int .i64 n] (dRet (.bool (smallV v n))) := by
  refine zD0 (H := shP [(38, 2, 66)] (sgOf [h37])) mixed fn48 (Nat.le_of_ble_eq_true rfl) (Nat.lt_of_succ_le (Nat.le_of_ble_eq_true rfl)) (sfOkH .nil (.cons okh37 .nil)) TbOk (lv := lv0) fun I F hI hF => ?_
  generalize hG : sgOf [h37] = G
  refine zE2 fun C hC => ?_
  generalize Q0 : v.enc = Z0
  generalize Q1 : DV.int .i64 n = Z1
  generalize Q2 : smallV v n = Z2
  cbv
  subst Q0 Q1 Q2
  subst hC
  subst hG
  refine ⟨?_⟩
  simp (maxSteps:=9999999) only [hI, hF, std]
  have hz : ZOk 1048576 (n, false) := ⟨by simp only; omega, h.2, fun _ => h.1⟩
  simp only [smp, smo, lookOk, lookRes, sfOf, sgOf, hOk, hRes, hOut, ↓reduceIte, Nat.reduceEqDiff, reduceCtorEq, qA, h37, encZ]
  simp [hv, hz, qA, smallV]
open Classical in
noncomputable def e48 : Ent := ⟨34, fun | [d_v, .int .i64 n] => decide (isV d_v ∧ 0 ≤ n ∧ n ≤ 1048576) | _ => false, fun | [d_v, .int .i64 n] => .bool (smallV (toV d_v) n) | _ => .inil⟩
open Classical in
theorem ok48 : EntOk Tryz.prog [0] e48 := fun ds h => by
  unfold e48 at h ⊢
  simp only at h ⊢
  split at h
  · rw [decide_eq_true_iff] at h
    obtain ⟨⟨v0, rfl, k0⟩, kx⟩ := h
    simp only [zB2, zA4, zA5] at kx ⊢
    exact pc48 _ _ k0 kx
  · cases h
def encM (n : Int) : DV := .agg [.int .i64 n]
mutual
def fitV : V → Int → Int → Int × Bool
  | .mk _ _ _ _ _ it, d, n => if n - 1 < 0 ∨ d < 1 then (n - 1, false) else fitO it (d - 1) (n - 1)
def fitO : Option (List V) → Int → Int → Int × Bool
  | none, _, n => (n, true)
  | some l, d, n => fitL l d n
def fitL : List V → Int → Int → Int × Bool
  | [], _, n => (n, true)
  | v :: r, d, n => if (fitV v d n).2 = true then fitL r d (fitV v d n).1 else ((fitV v d n).1, false)
end
theorem fitO_eq (o : Option (List V)) (d n : Int) : fitO o d n = fitL (o.getD []) d n := by cases o <;> rw [fitO] <;> simp [fitL]
theorem fitV_eq (v : V) (d n : Int) : fitV v d n = if n - 1 < 0 ∨ d < 1 then (n - 1, false) else fitL v.items (d - 1) (n - 1) := by
  cases v; rw [fitV, fitO_eq]; rfl
theorem fitL_step (l : List V) (i : Nat) (d n : Int) (h : i < l.length) : fitL (l.drop i) d n = if (fitV (l.getD i default) d n).2 = true then fitL (l.drop (i + 1)) d (fitV (l.getD i default) d n).1 else ((fitV (l.getD i default) d n).1, false) := by
  rw [List.drop_eq_getElem_cons h, fitL]
  simp [List.getD, h]
theorem sizV_1 (k m e : Int) (s : ByteArray) (nm : Option (List ByteArray)) (it : Option (List V)) (d : Int) (z : Zst) : sizV (.mk k m e s nm it) d z = if (meetS z d).2 = true then meetS z d else sizO it (d - 1) (meetS z d) := by rw [sizV]
theorem sizO_1 (d : Int) (z : Zst) : sizO none d z = z := by rw [sizO]
theorem sizO_2 (l : List V) (d : Int) (z : Zst) : sizO (some l) d z = sizL l d z := by rw [sizO]
theorem sizL_1 (d : Int) (z : Zst) : sizL [] d z = z := by rw [sizL]
theorem sizL_2 (v : V) (r : List V) (d : Int) (z : Zst) : sizL (v :: r) d z = if z.2 = true then z else sizL r d (sizV v d z) := by rw [sizL]
def z0 (n : Int) : Zst := (n, false)
theorem meet_t {d n : Int} (h : n - 1 < 0 ∨ d < 1) : (meetS (z0 n) d).2 = true := by
  simp only [meetS, z0, Bool.false_or, Bool.or_eq_true]
  exact h.imp (fun h => decide_eq_true h) (fun h => decide_eq_true h)
theorem meet_f {d n : Int} (h : ¬ (n - 1 < 0 ∨ d < 1)) : meetS (z0 n) d = z0 (n - 1) := by
  have h1 : ¬ n - 1 < 0 := fun a => h (.inl a)
  have h2 : ¬ d < 1 := fun a => h (.inr a)
  simp [meetS, z0, h1, h2]
  rfl
mutual
theorem fit_siz : ∀ (v : V) (d n : Int), 0 ≤ n → (sizV v d (z0 n)).2 = !(fitV v d n).2 ∧ ((fitV v d n).2 = true → (sizV v d (z0 n)).1 = (fitV v d n).1 ∧ 0 ≤ (fitV v d n).1)
  | .mk _ _ _ _ _ it, d, n, hn => by
    rw [sizV_1, fitV]
    by_cases h : n - 1 < 0 ∨ d < 1
    · rw [if_pos (meet_t h), if_pos h, meet_t h]
      exact ⟨rfl, fun h => by cases h⟩
    · rw [meet_f h, if_neg (by simp [z0]), if_neg h]
      exact fit_sizO it (d - 1) (n - 1) (by omega)
theorem fit_sizO : ∀ (o : Option (List V)) (d n : Int), 0 ≤ n → (sizO o d (z0 n)).2 = !(fitO o d n).2 ∧ ((fitO o d n).2 = true → (sizO o d (z0 n)).1 = (fitO o d n).1 ∧ 0 ≤ (fitO o d n).1)
  | none, d, n, hn => by rw [sizO_1, fitO]; exact ⟨rfl, fun _ => ⟨rfl, hn⟩⟩
  | some l, d, n, hn => by rw [sizO_2, fitO]; exact fit_sizL l d n hn
theorem fit_sizL : ∀ (l : List V) (d n : Int), 0 ≤ n → (sizL l d (z0 n)).2 = !(fitL l d n).2 ∧ ((fitL l d n).2 = true → (sizL l d (z0 n)).1 = (fitL l d n).1 ∧ 0 ≤ (fitL l d n).1)
  | [], d, n, hn => by rw [sizL_1, fitL]; exact ⟨rfl, fun _ => ⟨rfl, hn⟩⟩
  | v :: r, d, n, hn => by
    obtain ⟨h1, h2⟩ := fit_siz v d n hn
    rw [sizL_2, fitL, if_neg (by simp [z0])]
    cases hf : (fitV v d n).2 with
    | true =>
      obtain ⟨h3, h4⟩ := h2 hf
      rw [hf] at h1
      have : sizV v d (z0 n) = z0 (fitV v d n).1 := Prod.ext h3 h1
      rw [this, if_pos rfl]
      exact fit_sizL r d _ h4
    | false =>
      rw [hf] at h1
      rw [if_neg (by simp), sizL_over r d _ h1]
      exact ⟨h1, fun h => by cases h⟩
end
mutual
theorem fitV_lo : ∀ (v : V) (d n : Int), 0 ≤ n → -1 ≤ (fitV v d n).1 ∧ (fitV v d n).1 ≤ n ∧ ((fitV v d n).2 = true → 0 ≤ (fitV v d n).1)
  | .mk _ _ _ _ _ it, d, n, hn => by
    rw [fitV]
    split
    · exact ⟨by simp only; omega, by simp only; omega, fun h => by cases h⟩
    · have := fitO_lo it (d - 1) (n - 1) (by omega); exact ⟨this.1, by omega, this.2.2⟩
theorem fitO_lo : ∀ (o : Option (List V)) (d n : Int), 0 ≤ n → -1 ≤ (fitO o d n).1 ∧ (fitO o d n).1 ≤ n ∧ ((fitO o d n).2 = true → 0 ≤ (fitO o d n).1)
  | none, d, n, hn => by rw [fitO]; exact ⟨by simp only; omega, by simp only; omega, fun _ => hn⟩
  | some l, d, n, hn => by rw [fitO]; exact fitL_lo l d n hn
theorem fitL_lo : ∀ (l : List V) (d n : Int), 0 ≤ n → -1 ≤ (fitL l d n).1 ∧ (fitL l d n).1 ≤ n ∧ ((fitL l d n).2 = true → 0 ≤ (fitL l d n).1)
  | [], d, n, hn => by rw [fitL]; exact ⟨by simp only; omega, by simp only; omega, fun _ => hn⟩
  | v :: r, d, n, hn => by
    have h := fitV_lo v d n hn
    rw [fitL]
    split
    · rename_i hf
      have := fitL_lo r d _ (h.2.2 hf)
      exact ⟨this.1, by omega, this.2.2⟩
    · exact ⟨h.1, h.2.1, fun h => by cases h⟩
end

open Classical in
noncomputable def h46n (N : Nat) : HEnt := {
  f := 57
  es := 1
  ty := 84
  ok x ds := match x, ds with
    | .agg [.int .i64 n], [v, .int .i64 d] => decide (isV v ∧ (toV v).sz < N ∧ (0 ≤ n ∧ n ≤ 1048576) ∧ 0 ≤ d ∧ d ≤ 1048576)
    | _, _ => false
  res x ds := match x, ds with
    | .agg [.int .i64 n], [v, .int .i64 d] => .bool (fitV (toV v) d n).2
    | _, _ => .inil
  out x ds := match x, ds with
    | .agg [.int .i64 n], [v, .int .i64 d] => encM (fitV (toV v) d n).1
    | _, _ => .inil }
open Classical in
theorem okh46n {N : Nat} (h : ∀ (v : V) (n : Int) (d : Int), v.ok → v.sz < N → (0 ≤ n ∧ n ≤ 1048576) → 0 ≤ d → d ≤ 1048576 → PtrCall Tryz.prog [0] 57 1 84 (encM n) [v.enc, .int .i64 d] (encM (fitV v d n).1) (.bool (fitV v d n).2)) : HEntOk Tryz.prog [0] (h46n N) := fun x ds hk => by
  unfold h46n at hk ⊢
  simp only at hk ⊢
  split at hk
  · rw [decide_eq_true_iff] at hk
    obtain ⟨⟨v, rfl, h1⟩, h2, h3, h5, h6⟩ := hk
    simp only [zB2] at h2 ⊢
    exact h v _ _ h1 h2 h3 h5 h6
  · cases hk
def lv46 : Nat → List Nat × List Nat
  | 5 => ([0, 2, 4, 26, 27, 28], [0, 1])
  | _ => ([], [])
def cm : Bool → Int → AV
  | true, n => .agg [.d (.int .i64 n)]
  | false, n => .d (encM n)
theorem pc46n : ∀ (N : Nat) (v : V) (n : Int) (d : Int), v.ok → v.sz < N → (0 ≤ n ∧ n ≤ 1048576) → 0 ≤ d → d ≤ 1048576 → PtrCall Tryz.prog [0] 57 1 84 (encM n) [v.enc, .int .i64 d] (encM (fitV v d n).1) (.bool (fitV v d n).2)
  | 0, v, _, _, _, h, _, _, _ => by omega
  | N + 1, v, n, d, hv, hn, hz, hd, hd2 => by
    have okh46' := okh46n (pc46n N)
    generalize hr : fitV v d n = fr
    refine ptr_of_tree (H := shP [(57, 1, 84)] (sgOf [(h46n _)])) mixed fn46 (Nat.le_of_ble_eq_true rfl) (Nat.lt_of_succ_le (Nat.le_of_ble_eq_true rfl)) (sfOkH .nil (.cons okh46' .nil)) TbOk (lv := lv46) fun I F hI hF => ?_
    generalize hG : sgOf [(h46n _)] = G
    refine zE2 fun C hC => ?_
    generalize Q0 : encM n = Z0
    generalize Q1 : v.enc = Z1
    generalize Q2 : DV.int .i64 d = Z2
    generalize Q3 : encM fr.1 = Z3
    generalize Q4 : DV.bool fr.2 = Z4
    cbv
    subst Q0 Q1 Q2 Q3 Q4
    subst hC
    subst hG
    refine ⟨?_⟩
    simp (maxSteps:=9999999) only [hI, hF, std]
    have e3 : v.it.getD [] = v.items := rfl
    have il := V.ok_il hv
    have hE := fitV_eq v d n
    rw [hr] at hE
    have w : IntKind.i64.wrap (n - 1) = n - 1 := zJ4 (by omega) (by omega)
    simp only [smp, smo, lookOk, lookRes, sfOf, sgOf, hOk, hRes, hOut, ↓reduceIte, Nat.reduceEqDiff, reduceCtorEq, qA, h46n, encM, w]
    simp
    by_cases hc : n - 1 < 0 ∨ d < 1
    · rw [if_pos hc] at hE
      rw [hE]
      simp [cond_eq_ite]
      intro h1 h2
      omega
    rw [if_neg hc] at hE
    have hc1 : ¬ n - 1 < 0 := fun a => hc (.inl a)
    have hc2 : ¬ d < 1 := fun a => hc (.inr a)
    have wd : IntKind.i64.wrap (d - 1) = d - 1 := zJ4 (by omega) (by omega)
    have p1 : 1 ≤ n := by omega
    have p2 : 1 ≤ d := by omega
    have p3 : ¬ n < 1 := by omega
    simp [hc1, hc2, p1, p2, p3]
    refine zE1 (kend := fun I => kEndP I Tb 1 84 [.tmp 6]) (H := shP [(57, 1, 84)] (sgOf [(h46n _)])) hI hF (sfOkH .nil (.cons okh46' .nil)) TbOk (by exact fun Bk e s h => endP TbOk Bk e s h) (lv := lv46) 0 (fun i : {i : Bool × Nat × Int // i.2.1 ≤ v.items.length ∧ fitL v.items (d - 1) (n - 1) = fitL (v.items.drop i.2.1) (d - 1) i.2.2 ∧ 0 ≤ i.2.2 ∧ i.2.2 ≤ n} => [.loc 0 1 0 0, .d (.int .i64 d), .loc 1 6 0 0, .d (encO v.it), .d (.int .i64 (v.items.length : Int)), .d (.int .i64 (i.1.2.1 : Int))]) (fun i : {i : Bool × Nat × Int // i.2.1 ≤ v.items.length ∧ fitL v.items (d - 1) (n - 1) = fitL (v.items.drop i.2.1) (d - 1) i.2.2 ∧ 0 ≤ i.2.2 ∧ i.2.2 ≤ n} => [(0, some ⟨[cm i.1.1 i.1.2.2], 1, 84, true, true⟩), (1, some ⟨[.d v.enc], 6, 25, true, true⟩)]) (fun i : {i : Bool × Nat × Int // i.2.1 ≤ v.items.length ∧ fitL v.items (d - 1) (n - 1) = fitL (v.items.drop i.2.1) (d - 1) i.2.2 ∧ 0 ≤ i.2.2 ∧ i.2.2 ≤ n} => v.items.length - i.1.2.1) [0, 1] (⟨(true, 0, n - 1), by simp, by simp, by simp; omega, by simp; omega⟩ : {i : Bool × Nat × Int // i.2.1 ≤ v.items.length ∧ fitL v.items (d - 1) (n - 1) = fitL (v.items.drop i.2.1) (d - 1) i.2.2 ∧ 0 ≤ i.2.2 ∧ i.2.2 ≤ n}) (by rfl) (by rfl) ?_ ?_ fun i => ?_
    · simp [e3]
    · rfl
    obtain ⟨⟨bf, i, m⟩, hi1, hi2, hi3, hi4⟩ := i
    have hi1 : i ≤ v.items.length := hi1
    have hi2 : fitL v.items (d - 1) (n - 1) = fitL (v.items.drop i) (d - 1) m := hi2
    have hi3 : 0 ≤ m := hi3
    have hi4 : m ≤ n := hi4
    have w3 := zE6 (n := i) (by omega)
    cases bf
    · rw [show cm false m = .d (encM m) from rfl]
      generalize hG : sgOf [(h46n _)] = G
      refine zE2 fun C hC => ?_
      generalize Q0 : encM m = Z0
      generalize Q1 : v.enc = Z1
      generalize Q2 : encO v.it = Z2
      generalize Q3 : DV.int .i64 d = Z3
      generalize Q4 : DV.int .i64 (v.items.length : Int) = Z4
      generalize Q5 : DV.int .i64 (i : Int) = Z5
      cbv
      subst Q0 Q1 Q2 Q3 Q4 Q5
      subst hC
      subst hG
      refine ⟨?_⟩
      simp (maxSteps:=9999999) only [hI, hF, std]
      by_cases hlt : i < v.items.length
      · have g1 := zH8 _ _ hlt
        have k1 := V.ok_get hv hlt
        have k2 := V.sz_get hlt
        have k3 : (v.items.getD i default).sz < N := by omega
        have hs := fitL_step v.items i (d - 1) m hlt
        have hlo := fitV_lo (v.items.getD i default) (d - 1) m hi3
        have hm : m ≤ 1048576 := by omega
        have hd4 : 1 ≤ d ∧ d - 1 ≤ 1048576 := by omega
        simp only [smp, smo, lookOk, lookRes, sfOf, sgOf, hOk, hRes, hOut, ↓reduceIte, Nat.reduceEqDiff, reduceCtorEq, qA, h46n, encM, e3, g1, wd]
        simp [hlt, w3, - List.getD_eq_getElem?_getD, k1, k3, qA, hi3, hm, hd4, cm]
        refine ⟨fun h => ?_, fun h => ⟨i + 1, by omega, by simp, _, ⟨by omega, by rw [hi2, hs, if_pos h], hlo.2.2 h, by omega⟩, rfl⟩⟩
        rw [hE, hi2, hs, if_neg (by rw [h]; simp)]; exact ⟨rfl, rfl⟩
      · simp only [smp, smo, lookOk, lookRes, sfOf, sgOf, hOk, hRes, hOut, ↓reduceIte, Nat.reduceEqDiff, reduceCtorEq, qA, h46n, encM, e3]
        have hn : v.items.drop i = [] := List.drop_eq_nil_of_le (by omega)
        simp [hlt, hE, hi2, hn, fitL]
    · rw [show cm true m = .agg [.d (.int .i64 m)] from rfl]
      generalize hG : sgOf [(h46n _)] = G
      refine zE2 fun C hC => ?_
      generalize Q0 : DV.int .i64 m = Z0
      generalize Q1 : v.enc = Z1
      generalize Q2 : encO v.it = Z2
      generalize Q3 : DV.int .i64 d = Z3
      generalize Q4 : DV.int .i64 (v.items.length : Int) = Z4
      generalize Q5 : DV.int .i64 (i : Int) = Z5
      cbv
      subst Q0 Q1 Q2 Q3 Q4 Q5
      subst hC
      subst hG
      refine ⟨?_⟩
      simp (maxSteps:=9999999) only [hI, hF, std]
      by_cases hlt : i < v.items.length
      · have g1 := zH8 _ _ hlt
        have k1 := V.ok_get hv hlt
        have k2 := V.sz_get hlt
        have k3 : (v.items.getD i default).sz < N := by omega
        have hs := fitL_step v.items i (d - 1) m hlt
        have hlo := fitV_lo (v.items.getD i default) (d - 1) m hi3
        have hm : m ≤ 1048576 := by omega
        have hd4 : 1 ≤ d ∧ d - 1 ≤ 1048576 := by omega
        simp only [smp, smo, lookOk, lookRes, sfOf, sgOf, hOk, hRes, hOut, ↓reduceIte, Nat.reduceEqDiff, reduceCtorEq, qA, h46n, encM, e3, g1, wd]
        simp [hlt, w3, - List.getD_eq_getElem?_getD, k1, k3, qA, hi3, hm, hd4, cm]
        refine ⟨fun h => ?_, fun h => ⟨i + 1, by omega, by simp, _, ⟨by omega, by rw [hi2, hs, if_pos h], hlo.2.2 h, by omega⟩, rfl⟩⟩
        rw [hE, hi2, hs, if_neg (by rw [h]; simp)]; exact ⟨rfl, rfl⟩
      · simp only [smp, smo, lookOk, lookRes, sfOf, sgOf, hOk, hRes, hOut, ↓reduceIte, Nat.reduceEqDiff, reduceCtorEq, qA, h46n, encM, e3]
        have hn : v.items.drop i = [] := List.drop_eq_nil_of_le (by omega)
        simp [hlt, hE, hi2, hn, fitL]
open Classical in
noncomputable def h46 : HEnt := {
  f := 57
  es := 1
  ty := 84
  ok x ds := match x, ds with
    | .agg [.int .i64 n], [v, .int .i64 d] => decide (isV v ∧ (0 ≤ n ∧ n ≤ 1048576) ∧ 0 ≤ d ∧ d ≤ 1048576)
    | _, _ => false
  res x ds := match x, ds with
    | .agg [.int .i64 n], [v, .int .i64 d] => .bool (fitV (toV v) d n).2
    | _, _ => .inil
  out x ds := match x, ds with
    | .agg [.int .i64 n], [v, .int .i64 d] => encM (fitV (toV v) d n).1
    | _, _ => .inil }
open Classical in
theorem okh46 : HEntOk Tryz.prog [0] h46 := fun x ds hk => by
  unfold h46 at hk ⊢
  simp only at hk ⊢
  split at hk
  · rw [decide_eq_true_iff] at hk
    obtain ⟨⟨v, rfl, h1⟩, h3, h5, h6⟩ := hk
    simp only [zB2]
    exact pc46n (v.sz + 1) v _ _ h1 (by omega) h3 h5 h6
  · cases hk
theorem pc27 (v : V) (hv : v.ok) : PureCall Tryz.prog [0] 39 [v.enc] (dRet (.bool (smallV v 120))) := by
  have hf := (fit_siz v 8 120 (by omega)).1
  have hs : smallV v 120 = (fitV v 8 120).2 := by
    show (!(sizV v 8 (z0 120)).2) = _
    rw [hf]; simp
  rw [hs]
  refine zD0 (H := shP [(57, 1, 84)] (sgOf [h46])) mixed fn27 (Nat.le_of_ble_eq_true rfl) (Nat.lt_of_succ_le (Nat.le_of_ble_eq_true rfl)) (sfOkH .nil (.cons okh46 .nil)) TbOk (lv := lv0) fun I F hI hF => ?_
  generalize hG : sgOf [h46] = G
  refine zE2 fun C hC => ?_
  generalize Q0 : v.enc = Z0
  cbv
  subst Q0
  subst hC
  subst hG
  refine ⟨?_⟩
  simp (maxSteps:=9999999) only [hI, hF, std]
  simp only [smp, smo, lookOk, lookRes, sfOf, sgOf, hOk, hRes, hOut, ↓reduceIte, Nat.reduceEqDiff, reduceCtorEq, qA, h46, encM]
  simp [hv, qA]
open Classical in
noncomputable def e27 : Ent := ⟨39, fun | [d_v] => decide (isV d_v) | _ => false, fun | [d_v] => .bool (smallV (toV d_v) 120) | _ => .inil⟩
open Classical in
theorem ok27 : EntOk Tryz.prog [0] e27 := fun ds h => by
  unfold e27 at h ⊢
  simp only at h ⊢
  split at h
  · rw [decide_eq_true_iff] at h
    obtain ⟨v0, rfl, k0⟩ := h
    simp only [zB2, zA4, zA5]
    exact pc27 _ k0
  · cases h
noncomputable def valE (v : V) : Int := if smallV v 120 then plainE v else 2
theorem pc10 (v : V) (hv : v.ok) : PureCall Tryz.prog [0] 21 [v.enc] (dRet (.int .i64 (valE v))) := by
  refine zD0 mixed fn10 (Nat.le_of_ble_eq_true rfl) (Nat.lt_of_succ_le (Nat.le_of_ble_eq_true rfl)) (sfOk (.cons ok27 (.cons ok28 .nil))) TbOk (lv := lv0) fun I F hI hF => ?_
  refine zE2 fun C hC => ?_
  generalize Q0 : v.enc = Z0
  cbv
  subst Q0
  subst hC
  refine ⟨?_⟩
  simp (maxSteps:=9999999) only [hI, hF, std]
  simp only [smp, smo, lookOk, lookRes, sfOf, ↓reduceIte, Nat.reduceEqDiff, reduceCtorEq, qA, e27, e28]
  simp [hv, qA, valE]
  cases smallV v 120 <;> simp
open Classical in
noncomputable def e10 : Ent := ⟨21, fun | [d_v] => decide (isV d_v) | _ => false, fun | [d_v] => .int .i64 (valE (toV d_v)) | _ => .inil⟩
open Classical in
theorem ok10 : EntOk Tryz.prog [0] e10 := fun ds h => by
  unfold e10 at h ⊢
  simp only at h ⊢
  split at h
  · rw [decide_eq_true_iff] at h
    obtain ⟨v0, rfl, k0⟩ := h
    simp only [zB2, zA4, zA5]
    exact pc10 _ k0
  · cases h
theorem pc31 (v : V) (hv : v.ok) : PureCall Tryz.prog [0] 25 [v.enc] (dRet (.int .i64 (valE v))) := by
  refine zD0 mixed fn31 (Nat.le_of_ble_eq_true rfl) (Nat.lt_of_succ_le (Nat.le_of_ble_eq_true rfl)) (sfOk (.cons ok48 (.cons ok49 .nil))) TbOk (lv := lv0) fun I F hI hF => ?_
  refine zE2 fun C hC => ?_
  generalize Q0 : v.enc = Z0
  cbv
  subst Q0
  subst hC
  refine ⟨?_⟩
  simp (maxSteps:=9999999) only [hI, hF, std]
  simp only [smp, smo, lookOk, lookRes, sfOf, ↓reduceIte, Nat.reduceEqDiff, reduceCtorEq, qA, e48, e49]
  simp [hv, qA, valE]
  cases smallV v 120 <;> simp
open Classical in
noncomputable def e31 : Ent := ⟨25, fun | [d_v] => decide (isV d_v) | _ => false, fun | [d_v] => .int .i64 (valE (toV d_v)) | _ => .inil⟩
open Classical in
theorem ok31 : EntOk Tryz.prog [0] e31 := fun ds h => by
  unfold e31 at h ⊢
  simp only at h ⊢
  split at h
  · rw [decide_eq_true_iff] at h
    obtain ⟨v0, rfl, k0⟩ := h
    simp only [zB2, zA4, zA5]
    exact pc31 _ k0
  · cases h
theorem pc12 (v : V) (hv : v.ok) : PureCall Tryz.prog [0] 8 [v.enc] (dRet (.int .i64 (valE v))) := by
  refine zD0 mixed fn12 (Nat.le_of_ble_eq_true rfl) (Nat.lt_of_succ_le (Nat.le_of_ble_eq_true rfl)) (sfOk (.cons ok31 .nil)) TbOk (lv := lv0) fun I F hI hF => ?_
  refine zE2 fun C hC => ?_
  generalize Q0 : v.enc = Z0
  cbv
  subst Q0
  subst hC
  refine ⟨?_⟩
  simp (maxSteps:=9999999) only [hI, hF, std]
  simp only [smp, smo, lookOk, lookRes, sfOf, ↓reduceIte, Nat.reduceEqDiff, reduceCtorEq, qA, e31]
  simp [hv, qA, valE]
open Classical in
noncomputable def e12 : Ent := ⟨8, fun | [d_v] => decide (isV d_v) | _ => false, fun | [d_v] => .int .i64 (valE (toV d_v)) | _ => .inil⟩
open Classical in
theorem ok12 : EntOk Tryz.prog [0] e12 := fun ds h => by
  unfold e12 at h ⊢
  simp only at h ⊢
  split at h
  · rw [decide_eq_true_iff] at h
    obtain ⟨v0, rfl, k0⟩ := h
    simp only [zB2, zA4, zA5]
    exact pc12 _ k0
  · cases h
end Go.Proofs.Sx

namespace Go.Proofs.Sx
open Go Go.Proofs Go.Proofs.Am 
variable {gs : List Nat}

mutual
def ownV : V → V
  | .mk k n e s nm it => .mk k n e s (some (nm.getD [])) (ownO it)
def ownO : Option (List V) → Option (List V)
  | none => none
  | some l => ownR l
def ownR : List V → Option (List V)
  | [] => none
  | v :: r => some (ownV v :: ownL r)
def ownL : List V → List V
  | [] => []
  | v :: r => ownV v :: ownL r
end
theorem ownL_map : ∀ (l : List V), ownL l = l.map ownV
  | [] => by simp [ownL]
  | v :: r => by simp [ownL, ownL_map r]
theorem ownR_get (l : List V) : (ownR l).getD [] = l.map ownV := by
  cases l with
  | nil => simp [ownR]
  | cons v r => rw [ownR, ownL_map]; rfl
theorem ownO_get (o : Option (List V)) : (ownO o).getD [] = (o.getD []).map ownV := by
  cases o with
  | none => simp [ownO]
  | some l => rw [ownO, ownR_get]; rfl
theorem ownO_eq (o : Option (List V)) : ownO o = if o.getD [] = [] then none else some ((o.getD []).map ownV) := by
  cases o with
  | none => simp [ownO]
  | some l => cases l with
    | nil => rw [ownO, ownR]; rfl
    | cons v r => rw [ownO, ownR, ownL_map]; rfl
theorem own_k (v : V) : (ownV v).k = v.k := by cases v; rw [ownV]; rfl
theorem own_n (v : V) : (ownV v).n = v.n := by cases v; rw [ownV]; rfl
theorem own_e (v : V) : (ownV v).e = v.e := by cases v; rw [ownV]; rfl
theorem own_s (v : V) : (ownV v).s = v.s := by cases v; rw [ownV]; rfl
theorem own_names (v : V) : (ownV v).names = v.names := by cases v; rw [ownV]; rfl
theorem own_items (v : V) : (ownV v).items = v.items.map ownV := by cases v; rw [ownV]; exact ownO_get _
theorem own_eq (v : V) : ownV v = .mk v.k v.n v.e v.s (some v.names) (ownO v.it) := by cases v; rw [ownV]; rfl
mutual
theorem cmpV_own : ∀ (v w : V), cmpV (ownV v) (ownV w) = cmpV v w
  | .mk k n e s nm it, .mk k' n' e' s' nm' it' => by
    rw [ownV, ownV, cmpV, cmpV, cmpO_eq, cmpO_eq, ownO_get, ownO_get, cmpO_own it it']; rfl
theorem cmpO_own : ∀ (a b : Option (List V)), cmpL ((a.getD []).map ownV) ((b.getD []).map ownV) = cmpL (a.getD []) (b.getD [])
  | none, o => by
    simp only [Option.getD_none, List.map_nil]
    cases h : o.getD [] with
    | nil => rfl
    | cons v r => simp [cmpL]
  | some l, o => cmpL_own l (o.getD [])
theorem cmpL_own : ∀ (a b : List V), cmpL (a.map ownV) (b.map ownV) = cmpL a b
  | [], [] => by simp [cmpL]
  | [], _ :: _ => by simp [cmpL]
  | _ :: _, [] => by simp [cmpL]
  | x :: l, y :: r => by simp only [List.map_cons, cmpL]; rw [cmpV_own x y, cmpL_own l r]
end
theorem get_own {l : List V} {i : Nat} (h : i < l.length) : (l.map ownV).getD i default = ownV (l.getD i default) := by
  simp [List.getD, h]
theorem sorted_own (l : List V) : sortedOk (l.map ownV) = sortedOk l := by
  have : SortedP (l.map ownV) = SortedP l := by
    apply propext
    unfold SortedP
    rw [List.length_map]
    constructor
    · intro h i h1 h2
      have := h i h1 h2
      rwa [get_own h2, get_own (by omega), cmpV_own] at this
    · intro h i h1 h2
      rw [get_own h2, get_own (by omega), cmpV_own]
      exact h i h1 h2
  rw [Bool.eq_iff_iff, sortedOk_t, sortedOk_t, this]
theorem chars_own (v : V) : charsOk (ownV v) = charsOk v := by
  have : CharsP (ownV v) = CharsP v := by unfold CharsP; rw [own_s, own_k]
  rw [Bool.eq_iff_iff, charsOk_t, charsOk_t, this]
theorem ownE_own (v : V) : ownE (ownV v) = ownE v := by
  have h : (v.items.map ownV ≠ []) = (v.items ≠ []) := by simp
  have hd : ∀ (p q : Prop) (a : Decidable p) (c : Decidable q) (x y z : Int), p = q → y = z → (@ite _ p a x y) = (@ite _ q c x z) := fun p q a c x y z h1 h2 => by subst h1 h2; congr
  unfold ownE
  refine hd _ _ _ _ _ _ _ ?_ (hd _ _ _ _ _ _ _ ?_ (hd _ _ _ _ _ _ _ ?_ (hd _ _ _ _ _ _ _ ?_ (hd _ _ _ _ _ _ _ ?_ (hd _ _ _ _ _ _ _ ?_ (hd _ _ _ _ _ _ _ ?_ (hd _ _ _ _ _ _ _ ?_ (hd _ _ _ _ _ _ _ ?_ rfl)))))))) <;> simp only [own_k, own_n, own_e, own_s, own_names, own_items, chars_own, sorted_own, List.length_map, h]
mutual
theorem plainE_own : ∀ (v : V), plainE (ownV v) = plainE v
  | .mk k n e s nm it => by
    have h := ownE_own (.mk k n e s nm it)
    rw [plainE_eq, own_items, h, plainE_eq (.mk k n e s nm it)]
    have := plainO_own it
    simp only [V.items, V.it] at this ⊢
    rw [this]
theorem plainO_own : ∀ (o : Option (List V)), plainL ((V.items (.mk 0 0 0 ⟨#[]⟩ none o)).map ownV) = plainL (V.items (.mk 0 0 0 ⟨#[]⟩ none o))
  | none => rfl
  | some l => plainL_own l
theorem plainL_own : ∀ (l : List V), plainL (l.map ownV) = plainL l
  | [] => rfl
  | v :: r => by simp only [List.map_cons, plainL]; rw [plainE_own v, plainL_own r]
end
mutual
theorem sizV_own : ∀ (v : V) (d : Int) (z : Zst), sizV (ownV v) d z = sizV v d z
  | .mk k n e s nm it, d, z => by rw [ownV, sizV_1, sizV_1, sizO_eq, ownO_get, sizO_own it, sizO_eq]
theorem sizO_own : ∀ (o : Option (List V)) (d : Int) (z : Zst), sizL ((o.getD []).map ownV) d z = sizL (o.getD []) d z
  | none, d, z => rfl
  | some l, d, z => sizL_own l d z
theorem sizL_own : ∀ (l : List V) (d : Int) (z : Zst), sizL (l.map ownV) d z = sizL l d z
  | [], d, z => rfl
  | v :: r, d, z => by simp only [List.map_cons, sizL_2]; rw [sizV_own v, sizL_own r]
end
theorem valE_own (v : V) : valE (ownV v) = valE v := by
  have : smallV (ownV v) 120 = smallV v 120 := by
    have := sizV_own v 8 ((120, false) : Zst)
    unfold smallV; exact congrArg (fun z : Zst => !z.2) this
  unfold valE; rw [this, plainE_own]
mutual
theorem own_ok : ∀ {v : V}, v.ok → (ownV v).ok
  | .mk k n e s nm it, h => by
    rw [V.ok] at h
    obtain ⟨h1, h2, h3, h4⟩ := h
    rw [ownV, V.ok]
    exact ⟨h1, h2, h3, ownO_ok h4⟩
theorem ownO_ok : ∀ {o : Option (List V)}, okO o → okO (ownO o)
  | none, h => by rw [ownO]; exact h
  | some [], h => by rw [ownO, ownR]; trivial
  | some (v :: r), h => by
    rw [okO] at h
    have h2 := h.2
    rw [okL] at h2
    rw [ownO, ownR, okO, okL, ownL_map]
    exact ⟨by simpa using h.1, own_ok h2.1, ownL_ok h2.2⟩
theorem ownL_ok : ∀ {l : List V}, okL l → okL (l.map ownV)
  | [], h => by simpa using h
  | v :: r, h => by
    rw [okL] at h
    rw [List.map_cons, okL]
    exact ⟨own_ok h.1, ownL_ok h.2⟩
end
end Go.Proofs.Sx

namespace Go.Proofs.Sx
open Go Go.Proofs Go.Proofs.Am 
variable {gs : List Nat}

structure B where
  nm : ByteArray
  v : V
instance : Inhabited B := ⟨⟨⟨#[]⟩, default⟩⟩
def encB (b : B) : DV := .agg [.str b.nm, .int .i64 b.v.k, .int .i64 b.v.n, .int .i64 b.v.e, .str b.v.s, encS b.v.nm, encO b.v.it]
def encBs (o : Option (List B)) : DV := match o with
  | none => .snil
  | some l => .sim (l.map encB)
theorem encB_eq (b : B) : encB b = .agg (.str b.nm :: b.v.enc.cells) := by rw [zA0]; rfl
theorem encB_inj {a b : B} (h : encB a = encB b) : a = b := by
  rw [encB_eq, encB_eq] at h
  simp only [DV.agg.injEq, List.cons.injEq, DV.str.injEq] at h
  obtain ⟨h1, h2⟩ := h
  have : a.v = b.v := by
    apply V.enc_inj
    rw [zA0, zA0] at h2
    rw [enc_eq, enc_eq, h2]
  cases a; cases b; cases h1; cases this; rfl
theorem encBs_inj {a b : Option (List B)} (h : encBs a = encBs b) : a = b := by
  cases a <;> cases b <;> simp [encBs] at h <;> first | rfl | skip
  rename_i l r
  congr
  induction l generalizing r with
  | nil => cases r <;> first | rfl | simp at h
  | cons x l ih => cases r with
    | nil => simp at h
    | cons y r =>
      simp at h
      rw [encB_inj h.1, ih r h.2]
def okB0 (b : B) : Prop := b.nm.size ≤ 1048576 ∧ b.v.ok
def okBs (o : Option (List B)) : Prop := (o.getD []).length ≤ 1048576 ∧ ∀ x ∈ o.getD [], okB0 x
def isB0 (d : DV) : Prop := ∃ b : B, d = encB b ∧ okB0 b
open Classical in
noncomputable def toB (d : DV) : B := if h : ∃ v, d = encB v then Classical.choose h else default
theorem zG2 (v : B) : toB (encB v) = v := by
  have h : ∃ w, encB v = encB w := ⟨v, rfl⟩
  unfold toB
  rw [dif_pos h]
  exact encB_inj (Classical.choose_spec h).symm
theorem zF9 (v : B) : isB0 (encB v) = okB0 v := by
  apply propext
  constructor
  · rintro ⟨w, h1, h2⟩; rw [encB_inj h1]; exact h2
  · intro h; exact ⟨v, rfl, h⟩
def isBs (d : DV) : Prop := ∃ o : Option (List B), d = encBs o ∧ okBs o
open Classical in
noncomputable def toBs (d : DV) : Option (List B) := if h : ∃ v, d = encBs v then Classical.choose h else none
theorem zF6 (v : Option (List B)) : toBs (encBs v) = v := by
  have h : ∃ w, encBs v = encBs w := ⟨v, rfl⟩
  unfold toBs
  rw [dif_pos h]
  exact encBs_inj (Classical.choose_spec h).symm
theorem zF8 (v : Option (List B)) : isBs (encBs v) = okBs v := by
  apply propext
  constructor
  · rintro ⟨w, h1, h2⟩; rw [encBs_inj h1]; exact h2
  · intro h; exact ⟨v, rfl, h⟩
theorem zF3 (o : Option (List B)) : lstD (encBs o) = (o.getD []).map encB := by
  cases o <;> simp [encBs, lstD]
theorem zE3 (o : Option (List B)) : isSlD (encBs o) = true := by cases o <;> simp [encBs, isSlD]
theorem zD3 (o : Option (List B)) : avOne (.d (encBs o)) = true := by cases o <;> simp [encBs, avOne]
theorem zE5 (b : B) : (encB b).cells = [.str b.nm, .int .i64 b.v.k, .int .i64 b.v.n, .int .i64 b.v.e, .str b.v.s, encS b.v.nm, encO b.v.it] := rfl
theorem zE4 (b : B) : dIsAgg (encB b) = true := rfl
theorem get_encB (l : List B) (i : Nat) (h : i < l.length) : (l.map encB).getD i .inil = encB (l.getD i default) := by
  simp [List.getD, List.getElem?_map, List.getElem?_eq_getElem h]
theorem okBs_len {o : Option (List B)} (h : okBs o) : (o.getD []).length ≤ 1048576 := h.1
theorem okBs_get {o : Option (List B)} (h : okBs o) {i : Nat} (hi : i < (o.getD []).length) : okB0 ((o.getD []).getD i default) := by
  refine h.2 _ ?_
  simp [List.getD, List.getElem?_eq_getElem hi]
theorem zG4 (v : V) : DV.agg [.int .i64 v.k, .int .i64 v.n, .int .i64 v.e, .str v.s, encS v.nm, encO v.it] = v.enc := (enc_eq v).symm
theorem zG0 (b : B) : dlV 7 true (encB b) 0 = encB b := dlV_whole 7 _ rfl
theorem zF4 (b : B) : dlV 6 true (encB b) 1 = b.v.enc := by rw [enc_eq]; rfl
end Go.Proofs.Sx

namespace Go.Proofs.Sx
open Go Go.Proofs Go.Proofs.Am 
variable {gs : List Nat}

def accA (es : Nat) : Bool → Nat → AV
  | false, _ => .d .snil
  | true, n => .slc 0 es 0 n
def accB (es ty : Nat) (els : List AV) : Bool → Option LB
  | false => none
  | true => some ⟨els, es, ty, true, true⟩
theorem mapM_d (lh : Nat → Option LB) (n : Nat) (l : List DV) : (l.map AV.d).mapM (frz lh n) = some l := frz_map_d lh n l
theorem zF5 (a b : Nat) : (Nat.add.match_1 (motive := fun _ _ => Nat) a b (fun a => a) (fun a b => (Nat.add a b).succ)) = a + b := by cases b <;> rfl
theorem frz_row {lh : LM} {b es ty n : Nat} {l : List DV} (hb : lh.get b = some ⟨l.map .d, es, ty, true, true⟩) (hn : l.length = n) (h : n ≤ 1048576) : frz lh.get 8 (.slc b es 0 n) = some (.sim l) := by
  have hl : 0 + n ≤ (l.map AV.d).length ∧ n ≤ big := ⟨by simp; omega, by unfold big; omega⟩
  simp only [frz, hb, if_pos hl, List.drop_zero]
  rw [List.take_of_length_le (by simp; omega), mapM_d]; rfl
theorem pc29 (o : Option (List ByteArray)) (ho : okS0 o) : PureCall Tryz.prog [0] 23 [encS o] (dRet (encS (some (o.getD [])))) := by
  refine zH7 mixed fn29 (Nat.le_of_ble_eq_true rfl) (Nat.lt_of_succ_le (Nat.le_of_ble_eq_true rfl)) (sfOk .nil) TbOk (lv := lv0) fun I F hI hF => ?_
  refine zE2 fun C hC => ?_
  generalize Q0 : encS o = Z0
  cbv
  subst Q0
  subst hC
  refine ⟨?_⟩
  simp (maxSteps:=9999999) only [hI, hF, std]
  simp only [smp, smo, lookOk, lookRes, sfOf, ↓reduceIte, Nat.reduceEqDiff, reduceCtorEq, qA, zF5, tupA, List.take_nil, List.nil_append, List.length_map]
  have hl := ho.1
  refine ⟨fun h => ?_, fun h => ?_⟩
  · cases o with
    | none => rfl
    | some l => cases h
  · cases o with
    | none => cases h
    | some l =>
      refine ⟨by simp [encS, cells_str], by simp; simp at hl; omega, ?_⟩
      exact frz_row (l := l.map .str) rfl (by simp) (by simpa using hl)
open Classical in
noncomputable def e29 : Ent := ⟨23, fun | [d_o] => decide (isSs d_o) | _ => false, fun | [d_o] => encS (some ((toSs d_o).getD [])) | _ => .inil⟩
open Classical in
theorem ok29 : EntOk Tryz.prog [0] e29 := fun ds h => by
  unfold e29 at h ⊢
  simp only at h ⊢
  split at h
  · rw [decide_eq_true_iff] at h
    obtain ⟨v0, rfl, k0⟩ := h
    simp only [zB2, zA4, zA5]
    exact pc29 _ k0
  · cases h
end Go.Proofs.Sx

namespace Go.Proofs.Sx
open Go Go.Proofs Go.Proofs.Am 
variable {gs : List Nat}

def lv30 : Nat → List Nat × List Nat
  | 3 => ([0, 3, 4], [10003])
  | _ => ([], [])
def ownA (l : List V) (i : Nat) : List DV := (l.take i).map fun v => (ownV v).enc
theorem ownA_len {l : List V} {i : Nat} (h : i ≤ l.length) : (ownA l i).length = i := by simp [ownA]; omega
theorem ownA_succ {l : List V} {i : Nat} (h : i < l.length) : ownA l (i + 1) = ownA l i ++ [(ownV (l.getD i default)).enc] := by
  unfold ownA
  rw [List.take_add_one, List.map_append]
  simp [List.getD, h]
theorem ownA_all {o : Option (List V)} {i : Nat} (h : (o.getD []).length ≤ i) (h2 : 0 < (o.getD []).length) : encO (ownO o) = .sim (ownA (o.getD []) i) := by
  rw [ownO_eq, if_neg (fun hc => by rw [hc] at h2; simp at h2)]
  unfold ownA
  rw [List.take_of_length_le h, encO, encL_map, List.map_map]; rfl
theorem pc30n (N : Nat) (h11 : ∀ v : V, v.ok → v.sz < N → PureCall Tryz.prog [0] 7 [v.enc] (dRet (ownV v).enc)) (o : Option (List V)) (ho : okO o) (hs : szO o < N) : PureCall Tryz.prog [0] 24 [encO o] (dRet (encO (ownO o))) := by
  have ok11' := okVn (r := fun v => (ownV v).enc) h11
  have hl := okO_len ho
  refine zH7 mixed fn30 (Nat.le_of_ble_eq_true rfl) (Nat.lt_of_succ_le (Nat.le_of_ble_eq_true rfl)) (sfOk (.cons ok11' .nil)) TbOk (lv := lv30) fun I F hI hF => ?_
  refine zE2 fun C hC => ?_
  generalize Q0 : encO o = Z0
  cbv
  subst Q0
  subst hC
  refine ⟨?_⟩
  simp (maxSteps:=9999999) only [hI, hF, std]
  simp only [smp, smo, lookOk, lookRes, sfOf, ↓reduceIte, Nat.reduceEqDiff, reduceCtorEq, qA, eVn]
  refine zE1 (kend := fun I => kEnd I Tb [.tmp 2]) hI hF (sfOk (.cons ok11' .nil)) TbOk (by exact fun Bk e s h => endR TbOk Bk e s h) (lv := lv30) 0 (fun i : {i : Bool × Nat // i.2 ≤ (o.getD []).length ∧ (i.1 = true ↔ 0 < i.2)} => [.d (encO o), accA 6 i.1.1 i.1.2, .d (.int .i64 (i.1.2 : Int))]) (fun i : {i : Bool × Nat // i.2 ≤ (o.getD []).length ∧ (i.1 = true ↔ 0 < i.2)} => [(0, accB 6 25 ((ownA (o.getD []) i.1.2).map .d) i.1.1)]) (fun i : {i : Bool × Nat // i.2 ≤ (o.getD []).length ∧ (i.1 = true ↔ 0 < i.2)} => (o.getD []).length - i.1.2) [10003] (⟨(false, 0), by simp, by simp⟩ : {i : Bool × Nat // i.2 ≤ (o.getD []).length ∧ (i.1 = true ↔ 0 < i.2)}) (by rfl) (by rfl) ?_ ?_ fun i => ?_
  · rfl
  · rfl
  obtain ⟨⟨b, i⟩, hi1, hi2⟩ := i
  have hi1 : i ≤ (o.getD []).length := hi1
  have hi2 : b = true ↔ 0 < i := hi2
  have w3 := zE6 (n := i) (by omega)
  have hlen := ownA_len hi1
  cases b with
  | false =>
    rw [show accA 6 false i = .d .snil from rfl, show accB 6 25 ((ownA (o.getD []) i).map AV.d) false = none from rfl]
    have h0 : i = 0 := by have := mt hi2.2; simp at this; omega
    refine zE2 fun C hC => ?_
    generalize Q0 : encO o = Z0
    generalize Q1 : DV.int .i64 (i : Int) = Z1
    cbv
    subst Q0 Q1
    subst hC
    refine ⟨?_⟩
    simp (maxSteps:=9999999) only [hI, hF, std]
    by_cases hlt : i < (o.getD []).length
    · have g1 := zH8 _ _ hlt
      have k1 := okO_get ho hlt
      have k3 : ((o.getD []).getD i default).sz < N := Nat.lt_of_le_of_lt (szO_get hlt) hs
      simp only [smp, smo, lookOk, lookRes, sfOf, ↓reduceIte, Nat.reduceEqDiff, reduceCtorEq, qA, eVn, g1, zF5]
      simp [hlt, w3, - List.getD_eq_getElem?_getD, k1, k3, qA]
      subst h0
      refine .inr ⟨1, by omega, ⟨rfl, rfl⟩, ⟨hlt, by omega⟩, ?_⟩
      rw [show ownA (o.getD []) 1 = [(ownV ((o.getD []).getD 0 default)).enc] from by rw [ownA_succ hlt]; rfl]; rfl
    · simp only [smp, smo, lookOk, lookRes, sfOf, ↓reduceIte, Nat.reduceEqDiff, reduceCtorEq, qA, eVn, zF5]
      simp [hlt]
      have he : o.getD [] = [] := List.length_eq_zero_iff.1 (by omega)
      rw [ownO_eq, if_pos he]; rfl
  | true =>
    rw [show accA 6 true i = .slc 0 6 0 i from rfl, show accB 6 25 ((ownA (o.getD []) i).map AV.d) true = some ⟨(ownA (o.getD []) i).map AV.d, 6, 25, true, true⟩ from rfl]
    refine zE2 fun C hC => ?_
    generalize Q0 : encO o = Z0
    generalize Q1 : DV.int .i64 (i : Int) = Z1
    generalize Q2 : (ownA (o.getD []) i).map AV.d = Z2
    cbv
    subst Q0 Q1 Q2
    subst hC
    refine ⟨?_⟩
    simp (maxSteps:=9999999) only [hI, hF, std]
    by_cases hlt : i < (o.getD []).length
    · have g1 := zH8 _ _ hlt
      have k1 := okO_get ho hlt
      have k3 : ((o.getD []).getD i default).sz < N := Nat.lt_of_le_of_lt (szO_get hlt) hs
      simp only [smp, smo, lookOk, lookRes, sfOf, ↓reduceIte, Nat.reduceEqDiff, reduceCtorEq, qA, eVn, g1, zF5]
      simp [hlt, w3, - List.getD_eq_getElem?_getD, k1, k3, qA]
      refine ⟨⟨by rw [← List.length.eq_def]; simp [hlen], by omega⟩, ⟨fun x hx => ?_, rfl⟩, .inr ⟨i + 1, by omega, ⟨rfl, rfl⟩, ⟨hlt, by omega⟩, ?_⟩⟩
      · obtain ⟨d, _, rfl⟩ := List.mem_map.1 (List.mem_of_mem_take hx); rfl
      · rw [List.take_of_length_le (by simp [hlen]), ownA_succ hlt, List.map_append]; rfl
    · simp only [smp, smo, lookOk, lookRes, sfOf, ↓reduceIte, Nat.reduceEqDiff, reduceCtorEq, qA, eVn, zF5]
      simp [hlt]
      rw [ownA_all (i := i) (by omega) (by have := hi2.1 rfl; omega)]
      exact frz_row rfl hlen (by omega)
theorem pc11n : ∀ (N : Nat) (v : V), v.ok → v.sz < N → PureCall Tryz.prog [0] 7 [v.enc] (dRet (ownV v).enc)
  | 0, v, _, h => by omega
  | N + 1, v, hv, hn => by
    have hsz : szO v.it < N := by
      obtain ⟨k, m, e, s, nm, it⟩ := v
      simp only [V.sz] at hn
      simp only [V.it]; omega
    have ok30' : EntOk Tryz.prog [0] ⟨24, fun ds => match ds with | [a] => scalarV a v.it | _ => false, fun _ => encO (ownO v.it)⟩ := fun ds h => by
      simp only at h
      split at h
      · simp only [scalarV, decide_eq_true_iff] at h
        rw [h]; exact pc30n N (pc11n N) v.it (V.ok_it hv) hsz
      · cases h
    refine zD0 mixed fn11 (Nat.le_of_ble_eq_true rfl) (Nat.lt_of_succ_le (Nat.le_of_ble_eq_true rfl)) (sfOk (.cons ok29 (.cons ok30' .nil))) TbOk (lv := lv0) fun I F hI hF => ?_
    refine zE2 fun C hC => ?_
    generalize Q0 : v.enc = Z0
    cbv
    subst Q0
    subst hC
    refine ⟨?_⟩
    simp (maxSteps:=9999999) only [hI, hF, std]
    simp only [smp, smo, lookOk, lookRes, sfOf, ↓reduceIte, Nat.reduceEqDiff, reduceCtorEq, qA, e29, scalarV_enc]
    simp [qA, V.ok_nm hv, scalarV_enc]
    rw [enc_eq (ownV v), own_k, own_n, own_e, own_s, own_eq]; rfl
theorem pc11 (v : V) (hv : v.ok) : PureCall Tryz.prog [0] 7 [v.enc] (dRet (ownV v).enc) := pc11n (v.sz + 1) v hv (by omega)
open Classical in
noncomputable def e11 : Ent := ⟨7, fun | [d_v] => decide (isV d_v) | _ => false, fun | [d_v] => (ownV (toV d_v)).enc | _ => .inil⟩
open Classical in
theorem ok11 : EntOk Tryz.prog [0] e11 := fun ds h => by
  unfold e11 at h ⊢
  simp only at h ⊢
  split at h
  · rw [decide_eq_true_iff] at h
    obtain ⟨v0, rfl, k0⟩ := h
    simp only [zB2, zA4, zA5]
    exact pc11 _ k0
  · cases h
def idxB : List B → ByteArray → Int
  | [], _ => -1
  | x :: l, s => if x.nm = s then 0 else if idxB l s < 0 then -1 else idxB l s + 1
theorem idxB_none : ∀ {l : List B} {s : ByteArray}, (∀ i, i < l.length → (l.getD i default).nm ≠ s) → idxB l s = -1
  | [], s, _ => rfl
  | x :: l, s, h => by
    have h0 := h 0 (by simp)
    have ih := idxB_none (l := l) (s := s) fun i hi => h (i + 1) (by simpa using hi)
    simp only [idxB]
    rw [if_neg (by simpa using h0), ih, if_pos (by omega)]
theorem idxB_some : ∀ {l : List B} {s : ByteArray} {i : Nat}, i < l.length → (l.getD i default).nm = s → (∀ j, j < i → (l.getD j default).nm ≠ s) → idxB l s = i
  | x :: l, s, 0, h, h1, h2 => by
    simp only [idxB]; rw [if_pos (by simpa using h1)]; rfl
  | x :: l, s, i + 1, h, h1, h2 => by
    have h0 := h2 0 (by omega)
    have ih := idxB_some (l := l) (s := s) (i := i) (by simpa using h) (by simpa using h1) fun j hj => h2 (j + 1) (by omega)
    simp only [idxB]
    rw [if_neg (by simpa using h0), ih, if_neg (by omega)]; simp
theorem qC : type_of% (And.intro @zG0 (And.intro @zF4 (And.intro @zE5 (And.intro @zF3 (And.intro @zE3 (And.intro @zD3 (And.intro @zE4 (And.intro @zG2 (And.intro @zF9 (And.intro @zF6 (And.intro @zF8 @zG4))))))))))) :=
  (And.intro @zG0 (And.intro @zF4 (And.intro @zE5 (And.intro @zF3 (And.intro @zE3 (And.intro @zD3 (And.intro @zE4 (And.intro @zG2 (And.intro @zF9 (And.intro @zF6 (And.intro @zF8 @zG4)))))))))))
theorem pc23a (a b : B) : PureCall Tryz.prog [0] 46 [encB a, .pim [encB b] 0 0] (dRet (.bool (decide (a.nm = b.nm)))) := by
  refine zD0 mixed fn23 (Nat.le_of_ble_eq_true rfl) (Nat.lt_of_succ_le (Nat.le_of_ble_eq_true rfl)) (sfOk .nil) TbOk (lv := lv0) fun I F hI hF => ?_
  refine zE2 fun C hC => ?_
  generalize Q0 : encB a = Z0
  generalize Q1 : encB b = Z1
  cbv
  subst Q0 Q1
  subst hC
  refine ⟨?_⟩
  simp (maxSteps:=9999999) only [hI, hF, std]
  simp only [smp, smo, lookOk, lookRes, sfOf, ↓reduceIte, Nat.reduceEqDiff, reduceCtorEq, qA, qC]
  simp
theorem pc23 (a b : B) (ha : okB0 a) (hb : okB0 b) : PureCall Tryz.prog [0] 46 [encB a, .pim [encB b] 0 0] (dRet (.bool (decide (a.nm = b.nm)))) := pc23a a b
open Classical in
noncomputable def e23 : Ent := ⟨46, fun | [d_a, .pim [d_b] 0 0] => decide (isB0 d_a ∧ isB0 d_b) | _ => false, fun | [d_a, .pim [d_b] 0 0] => .bool (decide ((toB d_a).nm = (toB d_b).nm)) | _ => .inil⟩
open Classical in
theorem ok23 : EntOk Tryz.prog [0] e23 := fun ds h => by
  unfold e23 at h ⊢
  simp only at h ⊢
  split at h
  · rw [decide_eq_true_iff] at h
    obtain ⟨⟨v0, rfl, k0⟩, ⟨v1, rfl, k1⟩⟩ := h
    simp only [zB2, zA4, zA5, zG2, zF6]
    exact pc23 _ _ k0 k1
  · cases h
def lv40 : Nat → List Nat × List Nat
  | 2 => ([0, 1, 7, 8], [])
  | _ => ([], [])
theorem pc40 (o : Option (List B)) (b : B) (ho : okBs o) (hb : okB0 b) : PureCall Tryz.prog [0] 63 [encBs o, .fn 46 [.pim [encB b] 0 0]] (dRet (.int .i64 (idxB (o.getD []) b.nm))) := by
  have hl := okBs_len ho
  refine zD0 mixed fn40 (Nat.le_of_ble_eq_true rfl) (Nat.lt_of_succ_le (Nat.le_of_ble_eq_true rfl)) (sfOk (.cons ok23 .nil)) TbOk (lv := lv40) fun I F hI hF => ?_
  refine zE2 fun C hC => ?_
  generalize Q0 : encBs o = Z0
  generalize Q1 : encB b = Z1
  cbv
  subst Q0 Q1
  subst hC
  refine ⟨?_⟩
  simp (maxSteps:=9999999) only [hI, hF, std]
  simp only [smp, smo, lookOk, lookRes, sfOf, ↓reduceIte, Nat.reduceEqDiff, reduceCtorEq, qA, qC]
  refine zE1 (kend := fun I => kEndF I Tb [.tmp 4]) hI hF (sfOk (.cons ok23 .nil)) TbOk (by exact fun Bk e s h => endF TbOk Bk e s h) (lv := lv40) 0 (fun i : {i : Nat // i ≤ (o.getD []).length ∧ ∀ j, j < i → ((o.getD []).getD j default).nm ≠ b.nm} => [.d (encBs o), .d (.fn 46 [.pim [encB b] 0 0]), .d (.int .i64 ((o.getD []).length : Int)), .d (.int .i64 (i.1 : Int))]) (fun i : {i : Nat // i ≤ (o.getD []).length ∧ ∀ j, j < i → ((o.getD []).getD j default).nm ≠ b.nm} => []) (fun i : {i : Nat // i ≤ (o.getD []).length ∧ ∀ j, j < i → ((o.getD []).getD j default).nm ≠ b.nm} => (o.getD []).length - i.1) [] (⟨0, by omega, fun j h => by omega⟩ : {i : Nat // i ≤ (o.getD []).length ∧ ∀ j, j < i → ((o.getD []).getD j default).nm ≠ b.nm}) (by rfl) (by rfl) ?_ ?_ fun i => ?_
  · simp
  · rfl
  obtain ⟨i, hi1, hi2⟩ := i
  refine zE2 fun C hC => ?_
  generalize Q0 : encBs o = Z0
  generalize Q1 : encB b = Z1
  generalize Q2 : DV.int .i64 ((o.getD []).length : Int) = Z2
  generalize Q3 : DV.int .i64 (i : Int) = Z3
  cbv
  subst Q0 Q1 Q2 Q3
  subst hC
  refine ⟨?_⟩
  simp (maxSteps:=9999999) only [hI, hF, std]
  have w3 := zE6 (n := i) (by omega)
  by_cases hlt : i < (o.getD []).length
  · have g1 := get_encB _ _ hlt
    have k1 := okBs_get ho hlt
    simp only [smp, smo, lookOk, lookRes, sfOf, ↓reduceIte, Nat.reduceEqDiff, reduceCtorEq, qA, qC, g1, e23]
    simp [hlt, w3, - List.getD_eq_getElem?_getD, qC, k1, hb]
    refine ⟨fun h => (idxB_some hlt h hi2).symm, fun h => ⟨i + 1, by omega, ⟨by omega, fun j hj => ?_⟩, by simp⟩⟩
    by_cases hji : j = i
    · subst hji; exact h
    · exact hi2 j (by omega)
  · simp only [smp, smo, lookOk, lookRes, sfOf, ↓reduceIte, Nat.reduceEqDiff, reduceCtorEq, qA, qC, e23]
    simp [hlt, - List.getD_eq_getElem?_getD]
    exact (idxB_none fun j hj => hi2 j (by omega)).symm
open Classical in
noncomputable def e40 : Ent := ⟨63, fun | [d_o, .fn 46 [.pim [d_b] 0 0]] => decide (isBs d_o ∧ isB0 d_b) | _ => false, fun | [d_o, .fn 46 [.pim [d_b] 0 0]] => .int .i64 (idxB ((toBs d_o).getD []) (toB d_b).nm) | _ => .inil⟩
open Classical in
theorem ok40 : EntOk Tryz.prog [0] e40 := fun ds h => by
  unfold e40 at h ⊢
  simp only at h ⊢
  split at h
  · rw [decide_eq_true_iff] at h
    obtain ⟨⟨v0, rfl, k0⟩, ⟨v1, rfl, k1⟩⟩ := h
    simp only [zB2, zA4, zA5, zG2, zF6]
    exact pc40 _ _ k0 k1
  · cases h
theorem pc22 (o : Option (List B)) (b : B) (ho : okBs o) (hb : okB0 b) : PureCall Tryz.prog [0] 45 [encBs o, .fn 46 [.pim [encB b] 0 0]] (dRet (.bool (decide (0 ≤ idxB (o.getD []) b.nm)))) := by
  refine zD0 mixed fn22 (Nat.le_of_ble_eq_true rfl) (Nat.lt_of_succ_le (Nat.le_of_ble_eq_true rfl)) (sfOk (.cons ok40 .nil)) TbOk (lv := lv0) fun I F hI hF => ?_
  refine zE2 fun C hC => ?_
  generalize Q0 : encBs o = Z0
  generalize Q1 : encB b = Z1
  cbv
  subst Q0 Q1
  subst hC
  refine ⟨?_⟩
  simp (maxSteps:=9999999) only [hI, hF, std]
  simp only [smp, smo, lookOk, lookRes, sfOf, ↓reduceIte, Nat.reduceEqDiff, reduceCtorEq, qA, qC, e40]
  simp [ho, hb, qC]
open Classical in
noncomputable def e22 : Ent := ⟨45, fun | [d_o, .fn 46 [.pim [d_b] 0 0]] => decide (isBs d_o ∧ isB0 d_b) | _ => false, fun | [d_o, .fn 46 [.pim [d_b] 0 0]] => .bool (decide (0 ≤ idxB ((toBs d_o).getD []) (toB d_b).nm)) | _ => .inil⟩
open Classical in
theorem ok22 : EntOk Tryz.prog [0] e22 := fun ds h => by
  unfold e22 at h ⊢
  simp only at h ⊢
  split at h
  · rw [decide_eq_true_iff] at h
    obtain ⟨⟨v0, rfl, k0⟩, ⟨v1, rfl, k1⟩⟩ := h
    simp only [zB2, zA4, zA5, zG2, zF6]
    exact pc22 _ _ k0 k1
  · cases h
end Go.Proofs.Sx

namespace Go.Proofs.Sx
open Go Go.Proofs Go.Proofs.Am 
variable {gs : List Nat}

noncomputable def chk (pre : List B) : List B → Int × Int
  | [] => (0, 0)
  | b :: r => if nameOk b.nm = false then ((pre.length : Int), 7) else if 0 ≤ idxB pre b.nm then ((pre.length : Int), 13) else if valE b.v ≠ 0 then ((pre.length : Int), valE b.v) else chk (pre ++ [b]) r
noncomputable def envE (l : List B) : Int × Int := if 40 < l.length then (0, 2) else chk [] l
theorem chk_step (l : List B) (i : Nat) (h : i < l.length) : chk (l.take i) (l.drop i) =
    if nameOk (l.getD i default).nm = false then ((i : Int), 7) else if 0 ≤ idxB (l.take i) (l.getD i default).nm then ((i : Int), 13) else if valE (l.getD i default).v ≠ 0 then ((i : Int), valE (l.getD i default).v) else chk (l.take (i + 1)) (l.drop (i + 1)) := by
  rw [List.drop_eq_getElem_cons h, chk]
  have e : l[i] = l.getD i default := by simp [List.getD, h]
  have ht : l.take i ++ [l[i]] = l.take (i + 1) := by rw [List.take_add_one]; simp [h]
  have hl : (l.take i).length = i := by simp; omega
  rw [ht, e, hl]
theorem idxB_ge : ∀ (l : List B) (s : ByteArray), -1 ≤ idxB l s
  | [], s => by simp [idxB]
  | x :: l, s => by have := idxB_ge l s; simp only [idxB]; split <;> (try split) <;> omega
theorem slD_encBs (o : Option (List B)) (i : Nat) : slD (encBs o) none (some (.int .i64 (i : Int))) = encBs (o.map (·.take i)) := by
  cases o with
  | none => rfl
  | some l =>
    simp only [slD, encBs, isSnil_sim, if_false, Option.map, lstD_sim]
    show DV.sim _ = _
    simp [loN, hiN]
    rfl
theorem okBs_take {o : Option (List B)} (h : okBs o) (i : Nat) : okBs (o.map (·.take i)) := by
  cases o with
  | none => exact h
  | some l =>
    refine ⟨Nat.le_trans ?_ h.1, fun x hx => h.2 x ?_⟩
    · simp; omega
    · simp only [Option.map, Option.getD_some] at hx ⊢; exact List.mem_of_mem_take hx
theorem getD_takeB (o : Option (List B)) (i : Nat) : (o.map (·.take i)).getD [] = (o.getD []).take i := by
  cases o <;> simp
def encP (p : Int × Int) : DV := .tup [.int .i64 p.1, .int .i64 p.2]
def lv7 : Nat → List Nat × List Nat
  | 4 => ([0, 10, 11, 12], [])
  | _ => ([], [])
theorem pc7 (o : Option (List B)) (ho : okBs o) : PureCall Tryz.prog [0] 29 [encBs o] (dRet (encP (envE (o.getD [])))) := by
  have hl := okBs_len ho
  generalize hr : envE (o.getD []) = er
  refine zD0 mixed fn7 (Nat.le_of_ble_eq_true rfl) (Nat.lt_of_succ_le (Nat.le_of_ble_eq_true rfl)) (sfOk (.cons ok21 (.cons ok22 (.cons ok10 .nil)))) TbOk (lv := lv7) fun I F hI hF => ?_
  refine zE2 fun C hC => ?_
  generalize Q0 : encBs o = Z0
  generalize Q1 : DV.int .i64 er.1 = Z1
  generalize Q2 : DV.int .i64 er.2 = Z2
  cbv
  subst Q0 Q1 Q2
  subst hC
  refine ⟨?_⟩
  simp (maxSteps:=9999999) only [hI, hF, std]
  unfold envE at hr
  simp only [smp, smo, lookOk, lookRes, sfOf, ↓reduceIte, Nat.reduceEqDiff, reduceCtorEq, qA, qC]
  simp
  refine ⟨fun h => ?_, fun h => ?_⟩
  · rw [if_pos (by omega)] at hr; subst hr; rfl
  rw [if_neg (by omega)] at hr
  refine zE1 (kend := fun I => kEndF I Tb [.tmp 2, .tmp 3]) hI hF (sfOk (.cons ok21 (.cons ok22 (.cons ok10 .nil)))) TbOk (by exact fun Bk e s h => endF TbOk Bk e s h) (lv := lv7) 0 (fun i : {i : Nat // i ≤ (o.getD []).length ∧ chk ((o.getD []).take i) ((o.getD []).drop i) = er} => [.d (encBs o), .d (encBs o), .d (.int .i64 ((o.getD []).length : Int)), .d (.int .i64 (i.1 : Int))]) (fun i : {i : Nat // i ≤ (o.getD []).length ∧ chk ((o.getD []).take i) ((o.getD []).drop i) = er} => []) (fun i : {i : Nat // i ≤ (o.getD []).length ∧ chk ((o.getD []).take i) ((o.getD []).drop i) = er} => (o.getD []).length - i.1) [] (⟨0, by omega, by simpa using hr⟩ : {i : Nat // i ≤ (o.getD []).length ∧ chk ((o.getD []).take i) ((o.getD []).drop i) = er}) (by rfl) (by rfl) ?_ ?_ fun i => ?_
  · rfl
  · rfl
  obtain ⟨i, hi1, hi2⟩ := i
  refine zE2 fun C hC => ?_
  generalize Q0 : encBs o = Z0
  generalize Q1 : DV.int .i64 ((o.getD []).length : Int) = Z1
  generalize Q2 : DV.int .i64 (i : Int) = Z2
  generalize Q3 : DV.int .i64 er.1 = Z3
  generalize Q4 : DV.int .i64 er.2 = Z4
  cbv
  subst Q0 Q1 Q2 Q3 Q4
  subst hC
  refine ⟨?_⟩
  simp (maxSteps:=9999999) only [hI, hF, std]
  have w3 := zE6 (n := i) (by omega)
  by_cases hlt : i < (o.getD []).length
  · have g1 := get_encB _ _ hlt
    have k1 := okBs_get ho hlt
    rw [chk_step _ _ hlt] at hi2
    have hge := idxB_ge ((o.getD []).take i) ((o.getD []).getD i default).nm
    simp only [smp, smo, lookOk, lookRes, sfOf, ↓reduceIte, Nat.reduceEqDiff, reduceCtorEq, qA, qC, g1, e21, e22, e10, slD_encBs, intO_none, intO_int, loN_none, hiN_int]
    simp [hlt, w3, - List.getD_eq_getElem?_getD, qC, qA, k1, k1.1, k1.2, okBs_take ho, getD_takeB]
    by_cases c1 : nameOk ((o.getD []).getD i default).nm = false
    · rw [if_pos c1] at hi2
      subst hi2
      exact ⟨fun _ => rfl, fun h => by rw [c1] at h; cases h⟩
    rw [if_neg c1] at hi2
    refine ⟨fun h => absurd h c1, fun _ => ⟨hi1, ?_⟩⟩
    by_cases c2 : 0 ≤ idxB ((o.getD []).take i) ((o.getD []).getD i default).nm
    · rw [if_pos c2] at hi2
      subst hi2
      exact ⟨fun _ => rfl, fun h => absurd h (by omega)⟩
    rw [if_neg c2] at hi2
    refine ⟨fun h => absurd h c2, fun _ => ?_⟩
    by_cases c3 : valE ((o.getD []).getD i default).v = 0
    · rw [if_neg (by simpa using c3)] at hi2
      exact ⟨fun h => absurd c3 h, fun _ => ⟨i + 1, by omega, ⟨by omega, hi2⟩, by simp⟩⟩
    · rw [if_pos c3] at hi2
      subst hi2
      exact ⟨fun _ => rfl, fun h => absurd h c3⟩
  · simp only [smp, smo, lookOk, lookRes, sfOf, ↓reduceIte, Nat.reduceEqDiff, reduceCtorEq, qA, qC, e21, e22, e10]
    simp [hlt, - List.getD_eq_getElem?_getD]
    have hd : (o.getD []).drop i = [] := List.drop_eq_nil_of_le (by omega)
    rw [hd, chk] at hi2
    subst hi2; rfl
open Classical in
noncomputable def e7 : Ent := ⟨29, fun | [d_o] => decide (isBs d_o) | _ => false, fun | [d_o] => encP (envE ((toBs d_o).getD [])) | _ => .inil⟩
open Classical in
theorem ok7 : EntOk Tryz.prog [0] e7 := fun ds h => by
  unfold e7 at h ⊢
  simp only at h ⊢
  split at h
  · rw [decide_eq_true_iff] at h
    obtain ⟨v0, rfl, k0⟩ := h
    simp only [zB2, zA4, zA5, zG2, zF6]
    exact pc7 _ k0
  · cases h
end Go.Proofs.Sx

namespace Go.Proofs.Sx
open Go Go.Proofs Go.Proofs.Am 
variable {gs : List Nat}

noncomputable def lightS (l : List V) (n d : Int) : Bool := !(sizL l d (n, false)).2
def lv19 : Nat → List Nat × List Nat
  | 3 => ([0, 2, 7, 8], [0])
  | _ => ([], [])
def cz : Bool → Zst → AV
  | true, s => .agg [.d (.int .i64 s.1), .d (.bool s.2)]
  | false, s => .d (encZ s)
theorem pc19 (o : Option (List V)) (n d : Int) (ho : okO o) (hh : (0 ≤ n ∧ n ≤ 1048576) ∧ (0 ≤ d ∧ d ≤ 1048576)) : PureCall Tryz.prog [0] 19 [encO o, .int .i64 n, .int .i64 d] (dRet (.bool (lightS (o.getD []) n d))) := by
  have hl := okO_len ho
  obtain ⟨h, hd⟩ := hh
  refine zD0 (H := shP [(38, 2, 66)] (sgOf [h37])) mixed fn19 (Nat.le_of_ble_eq_true rfl) (Nat.lt_of_succ_le (Nat.le_of_ble_eq_true rfl)) (sfOkH .nil (.cons okh37 .nil)) TbOk (lv := lv19) fun I F hI hF => ?_
  generalize hG : sgOf [h37] = G
  refine zE2 fun C hC => ?_
  generalize Q0 : encO o = Z0
  generalize Q1 : DV.int .i64 n = Z1
  generalize Q2 : DV.int .i64 d = Z2
  generalize Q3 : lightS (o.getD []) n d = Z3
  cbv
  subst Q0 Q1 Q2 Q3
  subst hC
  subst hG
  refine ⟨?_⟩
  simp (maxSteps:=9999999) only [hI, hF, std]
  have hz : ZOk 1048576 (n, false) := ⟨by simp only; omega, h.2, fun _ => h.1⟩
  simp only [smp, smo, lookOk, lookRes, sfOf, sgOf, hOk, hRes, hOut, ↓reduceIte, Nat.reduceEqDiff, reduceCtorEq, qA, h37, encZ]
  try simp
  refine zE1 (kend := fun I => kEndF I Tb [.tmp 6]) (H := shP [(38, 2, 66)] (sgOf [h37])) hI hF (sfOkH .nil (.cons okh37 .nil)) TbOk (by exact fun Bk e s h => endF TbOk Bk e s h) (lv := lv19) 0 (fun i : {i : Bool × Nat × Zst // i.2.1 ≤ (o.getD []).length ∧ sizL (o.getD []) d (n, false) = sizL ((o.getD []).drop i.2.1) d i.2.2 ∧ ZOk 1048576 i.2.2} => [.d (encO o), .d (.int .i64 d), .loc 0 2 0 0, .d (.int .i64 (i.1.2.1 : Int))]) (fun i : {i : Bool × Nat × Zst // i.2.1 ≤ (o.getD []).length ∧ sizL (o.getD []) d (n, false) = sizL ((o.getD []).drop i.2.1) d i.2.2 ∧ ZOk 1048576 i.2.2} => [(0, some ⟨[cz i.1.1 i.1.2.2], 2, 66, true, true⟩)]) (fun i : {i : Bool × Nat × Zst // i.2.1 ≤ (o.getD []).length ∧ sizL (o.getD []) d (n, false) = sizL ((o.getD []).drop i.2.1) d i.2.2 ∧ ZOk 1048576 i.2.2} => (o.getD []).length - i.1.2.1) [0] (⟨(true, 0, (n, false)), Nat.zero_le _, by simp, hz⟩ : {i : Bool × Nat × Zst // i.2.1 ≤ (o.getD []).length ∧ sizL (o.getD []) d (n, false) = sizL ((o.getD []).drop i.2.1) d i.2.2 ∧ ZOk 1048576 i.2.2}) (by rfl) (by rfl) ?_ ?_ fun i => ?_
  · rfl
  · rfl
  obtain ⟨⟨bf, i, s⟩, hi1, hi2, hi3⟩ := i
  have hi1 : i ≤ (o.getD []).length := hi1
  have w3 := zE6 (n := i) (by omega)
  have fin : ¬ (i < (o.getD []).length ∧ s.2 = false) → sizL ((o.getD []).drop i) d s = s := fun hn => by
    by_cases hi : i < (o.getD []).length
    · exact sizL_over _ _ _ (by have : ¬ s.2 = false := fun h => hn ⟨hi, h⟩; simpa using this)
    · rw [List.drop_eq_nil_of_le (by omega), sizL]
  have hi2 : sizL (o.getD []) d (n, false) = sizL ((o.getD []).drop i) d s := hi2
  have hi3 : ZOk 1048576 s := hi3
  cases bf
  · rw [show cz false s = .d (encZ s) from rfl]
    generalize hG : sgOf [h37] = G
    refine zE2 fun C hC => ?_
    generalize Q0 : encZ s = Z0
    generalize Q1 : encO o = Z1
    generalize Q2 : DV.int .i64 d = Z2
    generalize Q3 : DV.int .i64 (i : Int) = Z3
    generalize Q4 : lightS (o.getD []) n d = Z4
    cbv
    subst Q0 Q1 Q2 Q3 Q4
    subst hC
    subst hG
    refine ⟨?_⟩
    simp (maxSteps:=9999999) only [hI, hF, std]
    by_cases hlt : i < (o.getD []).length ∧ s.2 = false
    · have g1 := zH8 _ _ hlt.1
      have k1 := okO_get ho hlt.1
      have hs := sizL_step (o.getD []) i d s hlt.1
      rw [if_neg (by simp [hlt.2])] at hs
      simp only [smp, smo, lookOk, lookRes, sfOf, sgOf, hOk, hRes, hOut, ↓reduceIte, Nat.reduceEqDiff, reduceCtorEq, qA, h37, encZ, g1]
      simp [hlt, w3, - List.getD_eq_getElem?_getD, k1, qA, hi3, cz]
      have hse : ((s.1, false) : Zst) = s := by rw [← hlt.2]; rfl
      have hse' : (s.fst, false) = s := hse
      rw [hse']
      exact ⟨⟨hi3, hd⟩, i + 1, by omega, by simp, _, ⟨by omega, by rw [hi2, hs], sizV_ok _ _ _ _ hi3 hlt.2⟩, rfl⟩
    · simp only [smp, smo, lookOk, lookRes, sfOf, sgOf, hOk, hRes, hOut, ↓reduceIte, Nat.reduceEqDiff, reduceCtorEq, qA, h37, encZ]
      simp [lightS, hi2, cz]
      exact ⟨fun a b => absurd ⟨a, b⟩ hlt, fun h => by rw [fin hlt]⟩
  · rw [show cz true s = .agg [.d (.int .i64 s.1), .d (.bool s.2)] from rfl]
    generalize hG : sgOf [h37] = G
    refine zE2 fun C hC => ?_
    generalize Q0 : DV.int .i64 s.1 = Z0
    generalize Q1 : DV.bool s.2 = Z1
    generalize Q2 : encO o = Z2
    generalize Q3 : DV.int .i64 d = Z3
    generalize Q4 : DV.int .i64 (i : Int) = Z4
    generalize Q5 : lightS (o.getD []) n d = Z5
    cbv
    subst Q0 Q1 Q2 Q3 Q4 Q5
    subst hC
    subst hG
    refine ⟨?_⟩
    simp (maxSteps:=9999999) only [hI, hF, std]
    by_cases hlt : i < (o.getD []).length ∧ s.2 = false
    · have g1 := zH8 _ _ hlt.1
      have k1 := okO_get ho hlt.1
      have hs := sizL_step (o.getD []) i d s hlt.1
      rw [if_neg (by simp [hlt.2])] at hs
      simp only [smp, smo, lookOk, lookRes, sfOf, sgOf, hOk, hRes, hOut, ↓reduceIte, Nat.reduceEqDiff, reduceCtorEq, qA, h37, encZ, g1]
      simp [hlt, w3, - List.getD_eq_getElem?_getD, k1, qA, hi3, cz]
      have hse : ((s.1, false) : Zst) = s := by rw [← hlt.2]; rfl
      have hse' : (s.fst, false) = s := hse
      rw [hse']
      exact ⟨⟨hi3, hd⟩, i + 1, by omega, by simp, _, ⟨by omega, by rw [hi2, hs], sizV_ok _ _ _ _ hi3 hlt.2⟩, rfl⟩
    · simp only [smp, smo, lookOk, lookRes, sfOf, sgOf, hOk, hRes, hOut, ↓reduceIte, Nat.reduceEqDiff, reduceCtorEq, qA, h37, encZ]
      simp [lightS, hi2, cz]
      exact ⟨fun a b => absurd ⟨a, b⟩ hlt, fun h => by rw [fin hlt]⟩
open Classical in
noncomputable def e19 : Ent := ⟨19, fun | [d_o, .int .i64 n, .int .i64 d] => decide (isVs d_o ∧ (0 ≤ n ∧ n ≤ 1048576) ∧ (0 ≤ d ∧ d ≤ 1048576)) | _ => false, fun | [d_o, .int .i64 n, .int .i64 d] => .bool (lightS ((toVs d_o).getD []) n d) | _ => .inil⟩
open Classical in
theorem ok19 : EntOk Tryz.prog [0] e19 := fun ds h => by
  unfold e19 at h ⊢
  simp only at h ⊢
  split at h
  · rw [decide_eq_true_iff] at h
    obtain ⟨⟨v0, rfl, k0⟩, kx⟩ := h
    simp only [zB2, zA4, zA5] at kx ⊢
    exact pc19 _ _ _ k0 kx
  · cases h
def txN : List ByteArray → Bool
  | [] => true
  | s :: r => decide (s.size ≤ 400) && txN r
mutual
def txV : V → Bool
  | .mk _ _ _ s nm it => decide (s.size ≤ 400) && decide ((nm.getD []).length ≤ 60) && txN (nm.getD []) && txO it
def txO : Option (List V) → Bool
  | none => true
  | some l => txL l
def txL : List V → Bool
  | [] => true
  | v :: r => txV v && txL r
end
theorem txO_eq (o : Option (List V)) : txO o = txL (o.getD []) := by cases o <;> rw [txO] <;> simp [txL]
theorem txV_eq (v : V) : txV v = (decide (v.s.size ≤ 400) && decide (v.names.length ≤ 60) && txN v.names && txL v.items) := by cases v; rw [txV, txO_eq]; rfl
theorem txN_step (l : List ByteArray) (i : Nat) (h : i < l.length) : txN (l.drop i) = (decide ((l.getD i ⟨#[]⟩).size ≤ 400) && txN (l.drop (i + 1))) := by
  rw [List.drop_eq_getElem_cons h, txN]
  simp [List.getD, h]
theorem txL_step (l : List V) (i : Nat) (h : i < l.length) : txL (l.drop i) = (txV (l.getD i default) && txL (l.drop (i + 1))) := by
  rw [List.drop_eq_getElem_cons h, txL]
  simp [List.getD, h]
def lv20 : Nat → List Nat × List Nat
  | 4 => ([1, 3], [0])
  | 9 => ([1, 4], [0])
  | _ => ([], [])
theorem pc20n : ∀ (n : Nat) (v : V), v.ok → v.sz < n → PureCall Tryz.prog [0] 20 [v.enc] (dRet (.bool (txV v)))
  | 0, v, _, h => by omega
  | n + 1, v, hv, hn => by
    have ok20' := okVn (r := fun v => .bool (txV v)) (pc20n n)
    generalize hr : txV v = tr
    refine zD0 mixed fn20 (Nat.le_of_ble_eq_true rfl) (Nat.lt_of_succ_le (Nat.le_of_ble_eq_true rfl)) (sfOk (.cons ok20' .nil)) TbOk (lv := lv20) fun I F hI hF => ?_
    refine zE2 fun C hC => ?_
    generalize Q0 : v.enc = Z0
    generalize Q1 : DV.bool tr = Z1
    cbv
    subst Q0 Q1
    subst hC
    refine ⟨?_⟩
    simp (maxSteps:=9999999) only [hI, hF, std]
    have e1 : v.nm.getD [] = v.names := rfl
    have e3 : v.it.getD [] = v.items := rfl
    have nl := V.ok_nl hv
    have il := V.ok_il hv
    have hE := txV_eq v
    rw [hr] at hE
    simp only [smp, smo, lookOk, lookRes, sfOf, ↓reduceIte, Nat.reduceEqDiff, reduceCtorEq, qA, eVn, e1, e3]
    simp [qA]
    refine ⟨fun h => ?_, fun h1 h2 => ?_⟩
    · rw [hE]
      rcases h with h | h
      · have : ¬ v.s.size ≤ 400 := by omega
        simp [this]
      · have : ¬ v.names.length ≤ 60 := by omega
        simp [this]
    have h1' : v.s.size ≤ 400 := by omega
    have h2' : v.names.length ≤ 60 := by omega
    simp only [h1', h2', decide_true, Bool.true_and] at hE
    refine zE1 (kend := fun I => kEndF I Tb [.tmp 2]) hI hF (sfOk (.cons ok20' .nil)) TbOk (by exact fun Bk e s h => endF TbOk Bk e s h) (lv := lv20) 0 (fun i : {i : Nat // i ≤ v.names.length ∧ tr = (txN (v.names.drop i) && txL v.items)} => [.loc 0 6 0 0, .d (.int .i64 (i.1 : Int))]) (fun i : {i : Nat // i ≤ v.names.length ∧ tr = (txN (v.names.drop i) && txL v.items)} => [(0, some ⟨[.d v.enc], 6, 25, true, true⟩)]) (fun i : {i : Nat // i ≤ v.names.length ∧ tr = (txN (v.names.drop i) && txL v.items)} => v.names.length - i.1) [0] (⟨0, by omega, by simpa using hE⟩ : {i : Nat // i ≤ v.names.length ∧ tr = (txN (v.names.drop i) && txL v.items)}) (by rfl) (by rfl) ?_ ?_ fun i => ?_
    · rfl
    · rfl
    obtain ⟨i, hi1, hi2⟩ := i
    refine zE2 fun C hC => ?_
    generalize Q0 : v.enc = Z0
    generalize Q1 : DV.int .i64 (i : Int) = Z1
    generalize Q2 : DV.bool tr = Z2
    cbv
    subst Q0 Q1 Q2
    subst hC
    refine ⟨?_⟩
    simp (maxSteps:=9999999) only [hI, hF, std]
    have w3 := zE6 (n := i) (by omega)
    by_cases hlt : i < v.names.length
    · have g1 := zJ7 _ _ hlt
      rw [txN_step _ _ hlt] at hi2
      simp only [smp, smo, lookOk, lookRes, sfOf, ↓reduceIte, Nat.reduceEqDiff, reduceCtorEq, qA, eVn, e1, e3, g1]
      simp [hlt, w3, - List.getD_eq_getElem?_getD]
      refine ⟨fun h => ?_, fun h => ⟨i + 1, by omega, ⟨by omega, ?_⟩, by simp⟩⟩
      · have : ¬ (v.names.getD i ⟨#[]⟩).size ≤ 400 := by omega
        rw [hi2]; simp [this, - List.getD_eq_getElem?_getD]
      · have : (v.names.getD i ⟨#[]⟩).size ≤ 400 := by omega
        rw [hi2]; simp [this, - List.getD_eq_getElem?_getD]
    have hd : v.names.drop i = [] := List.drop_eq_nil_of_le (by omega)
    rw [hd, txN, Bool.true_and] at hi2
    simp only [smp, smo, lookOk, lookRes, sfOf, ↓reduceIte, Nat.reduceEqDiff, reduceCtorEq, qA, eVn, e1, e3]
    have hn : ¬ (i : Int) < v.names.length := by omega
    simp [hlt, hn, - List.getD_eq_getElem?_getD]
    refine zE1 (kend := fun I => kEndF I Tb [.tmp 2]) hI hF (sfOk (.cons ok20' .nil)) TbOk (by exact fun Bk e s h => endF TbOk Bk e s h) (lv := lv20) 1 (fun i : {i : Nat // i ≤ v.items.length ∧ tr = txL (v.items.drop i)} => [.loc 0 6 0 0, .d (.int .i64 (i.1 : Int))]) (fun i : {i : Nat // i ≤ v.items.length ∧ tr = txL (v.items.drop i)} => [(0, some ⟨[.d v.enc], 6, 25, true, true⟩)]) (fun i : {i : Nat // i ≤ v.items.length ∧ tr = txL (v.items.drop i)} => v.items.length - i.1) [0] (⟨0, by omega, by simpa using hi2⟩ : {i : Nat // i ≤ v.items.length ∧ tr = txL (v.items.drop i)}) (by rfl) (by rfl) ?_ ?_ fun i => ?_
    · rfl
    · rfl
    clear hlt w3 hn hd
    obtain ⟨m, hm1, hm2⟩ := i
    refine zE2 fun C hC => ?_
    generalize Q0 : v.enc = Z0
    generalize Q1 : DV.int .i64 (m : Int) = Z1
    generalize Q2 : DV.bool tr = Z2
    cbv
    subst Q0 Q1 Q2
    subst hC
    refine ⟨?_⟩
    simp (maxSteps:=9999999) only [hI, hF, std]
    have w3 := zE6 (n := m) (by omega)
    by_cases hlt : m < v.items.length
    · have g1 := zH8 _ _ hlt
      have k1 := V.ok_get hv hlt
      have k2 := V.sz_get hlt
      have k3 : (v.items.getD m default).sz < n := by omega
      rw [txL_step _ _ hlt] at hm2
      simp only [smp, smo, lookOk, lookRes, sfOf, ↓reduceIte, Nat.reduceEqDiff, reduceCtorEq, qA, eVn, e1, e3, g1]
      simp [hlt, w3, - List.getD_eq_getElem?_getD, k1, k3, qA]
      refine ⟨fun h => ?_, fun h => ⟨m + 1, by omega, ⟨by omega, ?_⟩, by simp⟩⟩
      · rw [hm2, h]; rfl
      · rw [hm2, h]; rfl
    · have hd : v.items.drop m = [] := List.drop_eq_nil_of_le (by omega)
      rw [hd, txL] at hm2
      simp only [smp, smo, lookOk, lookRes, sfOf, ↓reduceIte, Nat.reduceEqDiff, reduceCtorEq, qA, eVn, e1, e3]
      simp [hlt, - List.getD_eq_getElem?_getD, hm2]
theorem pc20 (v : V) (hv : v.ok) : PureCall Tryz.prog [0] 20 [v.enc] (dRet (.bool (txV v))) := pc20n (v.sz + 1) v hv (by omega)
open Classical in
noncomputable def e20 : Ent := ⟨20, fun | [d_v] => decide (isV d_v) | _ => false, fun | [d_v] => .bool (txV (toV d_v)) | _ => .inil⟩
open Classical in
theorem ok20 : EntOk Tryz.prog [0] e20 := fun ds h => by
  unfold e20 at h ⊢
  simp only at h ⊢
  split at h
  · rw [decide_eq_true_iff] at h
    obtain ⟨v0, rfl, k0⟩ := h
    simp only [zB2, zA4, zA5]
    exact pc20 _ k0
  · cases h
noncomputable def lightV (v : V) : Bool := lightS [v] 400 20 && txV v
theorem sim1 (v : V) : DV.sim [v.enc] = encO (some [v]) := by rw [encO, encL, encL]
theorem pc5 (v : V) (hv : v.ok) : PureCall Tryz.prog [0] 5 [v.enc] (dRet (.bool (lightV v))) := by
  refine zD0 mixed fn5 (Nat.le_of_ble_eq_true rfl) (Nat.lt_of_succ_le (Nat.le_of_ble_eq_true rfl)) (sfOk (.cons ok19 (.cons ok20 .nil))) TbOk (lv := lv0) fun I F hI hF => ?_
  refine zE2 fun C hC => ?_
  generalize Q0 : v.enc = Z0
  cbv
  subst Q0
  subst hC
  refine ⟨?_⟩
  simp (maxSteps:=9999999) only [hI, hF, std]
  have ho : okO (some [v]) := by rw [okO, okL, okL]; exact ⟨by simp, hv, trivial⟩
  simp only [smp, smo, lookOk, lookRes, sfOf, ↓reduceIte, Nat.reduceEqDiff, reduceCtorEq, qA, e19, e20, sim1]
  simp [hv, ho, qA, lightV]
open Classical in
noncomputable def e5 : Ent := ⟨5, fun | [d_v] => decide (isV d_v) | _ => false, fun | [d_v] => .bool (lightV (toV d_v)) | _ => .inil⟩
open Classical in
theorem ok5 : EntOk Tryz.prog [0] e5 := fun ds h => by
  unfold e5 at h ⊢
  simp only at h ⊢
  split at h
  · rw [decide_eq_true_iff] at h
    obtain ⟨v0, rfl, k0⟩ := h
    simp only [zB2, zA4, zA5]
    exact pc5 _ k0
  · cases h
def encSet (o : Option (List B)) : DV := .agg [encBs o]
def FewP (l : List B) : Prop := ∀ i, i < l.length → i ≤ 45 → (l.getD i default).nm.size ≤ 400 ∧ lightV (l.getD i default).v = true
open Classical in
noncomputable def fewS (l : List B) : Bool := decide (FewP l) && decide (l.length ≤ 45)
theorem fewS_f {l : List B} (h : ¬ FewP l) : fewS l = false := by simp [fewS, h]
theorem fewS_t {l : List B} (h : FewP l) : fewS l = decide (l.length ≤ 45) := by simp [fewS, h]
def lv6 : Nat → List Nat × List Nat
  | 2 => ([1, 3], [0])
  | _ => ([], [])
def isSet (d : DV) : Prop := ∃ o : Option (List B), d = encBs o ∧ okBs o
end Go.Proofs.Sx

namespace Go.Proofs.Sx
open Go Go.Proofs Go.Proofs.Am 
variable {gs : List Nat}

mutual
def V.dep : V → Nat
  | .mk _ _ _ _ _ it => 1 + depO it
def depO : Option (List V) → Nat
  | none => 0
  | some l => depL l
def depL : List V → Nat
  | [] => 0
  | v :: r => max v.dep (depL r)
end
theorem V.sz_eq (v : V) : v.sz = 1 + szL v.items := by
  obtain ⟨k, n, e, s, nm, it⟩ := v
  cases it <;> simp [V.sz, szO, V.items, V.it, szL]
theorem V.dep_eq (v : V) : v.dep = 1 + depL v.items := by
  obtain ⟨k, n, e, s, nm, it⟩ := v
  cases it <;> simp [V.dep, depO, V.items, V.it, depL]
theorem depL_mem : ∀ {l : List V} {v : V}, v ∈ l → v.dep ≤ depL l
  | w :: r, v, h => by
    rw [depL]
    rcases List.mem_cons.1 h with rfl | h
    · exact Nat.le_max_left _ _
    · exact Nat.le_trans (depL_mem h) (Nat.le_max_right _ _)
def SizP (v : V) : Prop := ∀ (d : Int) (s : Zst), s.2 = false → 0 ≤ s.1 → ((sizV v d s).2 = false ↔ (v.sz : Int) ≤ s.1 ∧ (v.dep : Int) ≤ d) ∧ ((sizV v d s).2 = false → (sizV v d s).1 = s.1 - v.sz)
theorem sizL_p : ∀ {l : List V}, (∀ x ∈ l, SizP x) → ∀ (d : Int) (s : Zst), s.2 = false → 0 ≤ s.1 → 0 ≤ d → ((sizL l d s).2 = false ↔ (szL l : Int) ≤ s.1 ∧ (depL l : Int) ≤ d) ∧ ((sizL l d s).2 = false → (sizL l d s).1 = s.1 - szL l)
  | [], _, d, s, h, h0, hd => by
    rw [sizL, szL, depL]
    exact ⟨⟨fun _ => ⟨by omega, by omega⟩, fun _ => h⟩, fun _ => by omega⟩
  | v :: r, hl, d, s, h, h0, hd => by
    obtain ⟨p1, p2⟩ := hl v (List.mem_cons_self ..) d s h h0
    rw [sizL, if_neg (by rw [h]; exact fun h => nomatch h), szL, depL]
    rcases Bool.eq_false_or_eq_true (sizV v d s).2 with hs | hs
    · rw [sizL_over _ _ _ hs, hs]
      have : ¬ ((v.sz : Int) ≤ s.1 ∧ (v.dep : Int) ≤ d) := fun hn => by rw [p1.2 hn] at hs; cases hs
      refine ⟨⟨fun h => (nomatch h), fun hn => absurd ⟨by omega, by omega⟩ this⟩, fun h => (nomatch h)⟩
    · have h1 := p1.1 hs
      have h2 := p2 hs
      obtain ⟨q1, q2⟩ := sizL_p (fun x hx => hl x (List.mem_cons_of_mem _ hx)) d (sizV v d s) hs (by omega) hd
      refine ⟨⟨fun h => ?_, fun hn => q1.2 ⟨by omega, by omega⟩⟩, fun h => ?_⟩
      · have := q1.1 h; exact ⟨by omega, by omega⟩
      · have := q2 h; omega
theorem sizV_p : ∀ (n : Nat) (v : V), v.sz < n → SizP v
  | 0, v, h => by omega
  | n + 1, v, h => by
    intro d s hs h0
    have hi : ∀ x ∈ v.items, SizP x := fun x hx => sizV_p n x (by have := V.sz_item hx; omega)
    have e1 := v.sz_eq
    have e2 := v.dep_eq
    rw [sizV_eq]
    by_cases hc : s.1 - 1 < 0 ∨ d < 1
    · have hm : (meetS s d).2 = true := by simp [meetS]; rcases hc with hc | hc <;> simp [hc, hs]
      rw [if_pos hm, hm]
      exact ⟨⟨fun h => (nomatch h), fun hn => by omega⟩, fun h => (nomatch h)⟩
    · have hm : (meetS s d).2 = false := by
        have a : ¬ s.1 - 1 < 0 := fun h => hc (.inl h)
        have b : ¬ d < 1 := fun h => hc (.inr h)
        simp only [meetS, hs, a, b, decide_false, Bool.or_false]
      rw [if_neg (by rw [hm]; exact fun h => nomatch h)]
      have m1 : (meetS s d).1 = s.1 - 1 := rfl
      obtain ⟨q1, q2⟩ := sizL_p hi (d - 1) (meetS s d) hm (by omega) (by omega)
      refine ⟨⟨fun h => ?_, fun hn => q1.2 ⟨by omega, by omega⟩⟩, fun h => ?_⟩
      · have := q1.1 h; exact ⟨by omega, by omega⟩
      · have := q2 h; omega
theorem smallV_iff (v : V) (n : Nat) : smallV v n = true ↔ v.sz ≤ n ∧ v.dep ≤ 8 := by
  obtain ⟨p1, _⟩ := sizV_p _ v (Nat.lt_succ_self _) 8 ((n : Int), false) rfl (by show (0 : Int) ≤ (n : Int); omega)
  have hq : smallV v n = true ↔ (sizV v 8 ((n : Int), false)).2 = false := by
    unfold smallV
    cases (sizV v 8 ((n : Int), false)).2 <;> simp
  rw [hq, p1]
  have e : (((n : Int), false) : Zst).1 = (n : Int) := rfl
  constructor
  · intro h
    have h1 := h.1
    rw [e] at h1
    exact ⟨by omega, by omega⟩
  · intro h; exact ⟨by rw [e]; omega, by omega⟩
theorem lightS_sz {v : V} {n d : Nat} (h : lightS [v] n d = true) : v.sz ≤ n := by
  have hq : (sizL [v] d ((n : Int), false)).2 = false := by
    unfold lightS at h
    cases hz : (sizL [v] d ((n : Int), false)).2 with
    | false => rfl
    | true => rw [hz] at h; cases h
  obtain ⟨p1, _⟩ := sizL_p (l := [v]) (fun x _ => sizV_p _ x (Nat.lt_succ_self _)) d ((n : Int), false) rfl (by show (0 : Int) ≤ (n : Int); omega) (by omega)
  have h1 := (p1.1 hq).1
  have e : (((n : Int), false) : Zst).1 = (n : Int) := rfl
  rw [e, szL, szL] at h1
  omega
theorem light_sz {v : V} (h : lightV v = true) : v.sz ≤ 400 := by
  unfold lightV at h
  rw [Bool.and_eq_true] at h
  exact lightS_sz (n := 400) (d := 20) h.1
#print axioms light_sz
end Go.Proofs.Sx

namespace Go.Proofs.Sx
open Go Go.Proofs Go.Proofs.Am 
variable {gs : List Nat}

def accU (b es : Nat) : Bool → Nat → AV
  | false, _ => .undef
  | true, k => .slc b es 0 k
def mkS (l : List ByteArray) : Option (List ByteArray) := if l = [] then none else some l
theorem isNeq_eql0 : isNeq .eql = false := rfl
theorem isSnil_sim (l : List DV) : isSnil (.sim l) = false := rfl
theorem isSnil_snil : isSnil .snil = true := rfl
theorem pc54 (o : Option (List ByteArray)) (ho : okS0 o) : PureCall Tryz.prog [0] 41 [encS o] (dRet (encS o)) := by
  have hl := ho.1
  refine zH7 mixed fn54 (Nat.le_of_ble_eq_true rfl) (Nat.lt_of_succ_le (Nat.le_of_ble_eq_true rfl)) (sfOk .nil) TbOk (lv := lv0) fun I F hI hF => ?_
  refine zE2 fun C hC => ?_
  generalize Q0 : encS o = Z0
  cbv
  subst Q0
  subst hC
  refine ⟨?_⟩
  simp (maxSteps:=9999999) only [hI, hF, std]
  simp only [smp, smo, lookOk, lookRes, sfOf, ↓reduceIte, Nat.reduceEqDiff, reduceCtorEq, qA, zF5, tupA, List.take_nil, List.nil_append, List.length_map, isNeq_eql0]
  cases o with
  | none => simp [encS, isSnil_snil]; rfl
  | some l =>
    simp only [Option.getD_some] at hl
    have h2 : l.length ≤ 4294967296 := by omega
    simp [- List.getD_eq_getElem?_getD, encS, cells_str, isSnil_sim, h2]
    exact frz_row (es := 1) (ty := 9) (l := l.map .str) (by rw [List.map_map]; rfl) (by simp) hl
open Classical in
noncomputable def e54 : Ent := ⟨41, fun | [d_o] => decide (isSs d_o) | _ => false, fun | [d_o] => encS (toSs d_o) | _ => .inil⟩
open Classical in
theorem ok54 : EntOk Tryz.prog [0] e54 := fun ds h => by
  unfold e54 at h ⊢
  simp only at h ⊢
  split at h
  · rw [decide_eq_true_iff] at h
    obtain ⟨v0, rfl, k0⟩ := h
    simp only [zB2, zA4, zA5]
    exact pc54 _ k0
  · cases h
theorem pc55n : PureCall Tryz.prog [0] 51 [.snil] (dRet .snil) := by
  refine zH7 mixed fn55 (Nat.le_of_ble_eq_true rfl) (Nat.lt_of_succ_le (Nat.le_of_ble_eq_true rfl)) (sfOk .nil) TbOk (lv := lv0) fun I F hI hF => ?_
  refine zE2 fun C hC => ?_
  generalize Q0 : DV.int .i64 0 = Z0
  cbv
  subst Q0
  subst hC
  refine ⟨?_⟩
  simp (maxSteps:=9999999) only [hI, hF, std]
  simp only [smp, smo, lookOk, lookRes, sfOf, ↓reduceIte, Nat.reduceEqDiff, reduceCtorEq, qA, isNeq_eql0, tupA]
  simp; rfl
theorem pc55 (u : DV) (h : u = .snil) : PureCall Tryz.prog [0] 51 [u] (dRet .snil) := h ▸ pc55n
open Classical in
noncomputable def e55 : Ent := ⟨51, fun | [u] => decide (u = DV.snil) | _ => false, fun | [u] => .snil | _ => .inil⟩
open Classical in
theorem ok55 : EntOk Tryz.prog [0] e55 := fun ds h => by
  unfold e55 at h ⊢
  simp only at h ⊢
  split at h
  · exact pc55 _ (of_decide_eq_true h)
  · cases h
theorem pc55s (l : List V) (h : l.length ≤ 1048576) : PureCall Tryz.prog [0] 51 [.sim (l.map V.enc)] (fRet 6 25 (l.map V.enc)) := by
  refine fr_of_tree mixed fn55 (Nat.le_of_ble_eq_true rfl) (Nat.lt_of_succ_le (Nat.le_of_ble_eq_true rfl)) (sfOk .nil) TbOk (lv := lv0) fun I F hI hF => ?_
  refine zE2 fun C hC => ?_
  generalize Q0 : DV.sim (l.map V.enc) = Z0
  cbv
  subst Q0
  subst hC
  refine ⟨?_⟩
  simp (maxSteps:=9999999) only [hI, hF, std]
  simp only [smp, smo, lookOk, lookRes, sfOf, ↓reduceIte, Nat.reduceEqDiff, reduceCtorEq, qA, isNeq_eql0, zF5, tupA, List.take_nil, List.nil_append, List.length_map]
  have h2 : l.length ≤ 4294967296 := by omega
  have h3 : ∀ v : V, v.enc.cells.length = 6 := fun v => by rw [zA0]; rfl
  simp [- List.getD_eq_getElem?_getD, h2, h3]
  rfl
open Classical in
noncomputable def f55 : FEnt := ⟨51, 6, 25, fun | [d] => decide (isVs d ∧ d ≠ .snil) | _ => false, fun | [d] => ((toVs d).getD []).map V.enc | _ => []⟩
open Classical in
theorem fk55 : FEntOk Tryz.prog [0] f55 := fun ds h => by
  unfold f55 at h ⊢
  simp only at h ⊢
  split at h
  · rw [decide_eq_true_iff] at h
    obtain ⟨⟨o, rfl, hk⟩, hn⟩ := h
    simp only [zA4]
    cases o with
    | none => exact absurd rfl hn
    | some l =>
      have h2 := pc55s l (okO_len hk)
      simp only [encO, encL_map]
      exact h2
  · cases h
def TbF53T : BT := (.node 4000051 ⟨none, .other, [], none⟩ .nil (.node 5000816 ⟨none, .other, [], none⟩ .nil (.node 5000819 ⟨none, .other, [], none⟩ .nil (.node 5000820 ⟨none, .other, [], none⟩ .nil (.node 6000002 ⟨none, .other, [], none⟩ .nil .nil)))))
def TbF53 : Nat → Option TRow := orT TbF53T.get Tb
theorem TbF53Ok : TabOk Tryz.prog TbF53 := tabOk_or (zI2 (by kernel_rfl)) TbOk
def lv35 : Nat → List Nat × List Nat
  | 4 => ([1, 2, 14, 15, 16], [0, 1, 2])
  | _ => ([], [])
theorem encO_nil (o : Option (List V)) : (encO o = .snil) = (o = none) := by
  cases o <;> simp [encO]
theorem getR (l : List V) (i : Nat) (h : i < l.length) : (l.map (AV.d ∘ V.enc)).getD i .undef = .d (l.getD i default).enc := by
  simp [List.getD, h]
theorem setR (l : List V) (i : Nat) (h : i < l.length) : (l.map (AV.d ∘ V.enc)).set i (.d (l.getD i default).enc) = l.map (AV.d ∘ V.enc) := by
  apply List.ext_getElem
  · simp
  · intro j h1 h2
    rw [List.getElem_set]
    split
    · rename_i h3; subst h3; simp [List.getD, h]
    · rfl
theorem frz_v {lh : LM} {k n e : Int} {s : ByteArray} {sn : DV} {b es ty m : Nat} {l : List DV} (hb : lh.get b = some ⟨l.map .d, es, ty, true, true⟩) (hn : l.length = m) (h : m ≤ 1048576) :
    frz lh.get 8 (.agg [.d (.int .i64 k), .d (.int .i64 n), .d (.int .i64 e), .d (.str s), .d sn, .slc b es 0 m]) = some (.agg [.int .i64 k, .int .i64 n, .int .i64 e, .str s, sn, .sim l]) := by
  have hl : 0 + m ≤ (l.map AV.d).length ∧ m ≤ big := ⟨by simp; omega, by unfold big; omega⟩
  have h2 : frz lh.get 7 (.slc b es 0 m) = some (.sim l) := by
    simp only [frz, hb, if_pos hl, List.drop_zero]
    rw [List.take_of_length_le (by simp; omega), mapM_d]; rfl
  rw [show frz lh.get 8 (.agg [.d (.int .i64 k), .d (.int .i64 n), .d (.int .i64 e), .d (.str s), .d sn, .slc b es 0 m]) = ([AV.d (.int .i64 k), .d (.int .i64 n), .d (.int .i64 e), .d (.str s), .d sn, .slc b es 0 m].mapM (frz lh.get 7)).map DV.agg from rfl]
  simp only [List.mapM_cons, h2, List.mapM_nil]
  rfl
theorem memD {l : List V} {i : Nat} (h : i < l.length) : l.getD i default ∈ l := by
  simp [List.getD, List.getElem?_eq_getElem h]
set_option maxHeartbeats 1000000 in
theorem pc35n (N : Nat) (h11 : ∀ v : V, v.ok → v.sz < N → PureCall Tryz.prog [0] 32 [v.enc] (dRet v.enc)) (v : V) (hv : v.ok) (hs : v.sz ≤ N) : PureCall Tryz.prog [0] 32 [v.enc] (dRet v.enc) := by
  have ok35' := okVn (r := fun v => v.enc) h11
  have hil := V.ok_il hv
  have hil' : (v.it.getD []).length ≤ 1048576 := hil
  refine zH7 mixed fn35 (Nat.le_of_ble_eq_true rfl) (Nat.lt_of_succ_le (Nat.le_of_ble_eq_true rfl)) (sfOkF (.cons ok54 (.cons ok55 (.cons ok55 (.cons ok35' .nil)))) .nil (.cons fk55 .nil)) TbF53Ok (lv := lv35) fun I F hI hF => ?_
  refine zE2 fun C hC => ?_
  generalize Q0 : v.enc = Z0
  cbv
  subst Q0
  subst hC
  refine ⟨?_⟩
  simp (maxSteps:=9999999) only [hI, hF, std]
  simp only [smp, smo, lookPn, lookPd, sfOfP, lookFo, lookFra, lookFrn, lookFes, lookFty, sfOfF, lookOk, lookRes, sfOf, sgOf, hOk, hRes, hOut, ↓reduceIte, Nat.reduceEqDiff, reduceCtorEq, qA, eVn, e54, e55, f55, encO_nil]
  simp [- List.getD_eq_getElem?_getD, qA]
  refine ⟨V.ok_nm hv, fun k1 h2 => ⟨⟨rfl, fun x hx => rfl⟩, ?_⟩, fun h2 => ?_⟩
  ·
    refine zE1 (kend := fun I => kEnd I TbF53 [.cell 2 25]) hI hF (sfOkF (.cons ok54 (.cons ok55 (.cons ok55 (.cons ok35' .nil)))) .nil (.cons fk55 .nil)) TbF53Ok (by exact fun Bk e s h => endR TbF53Ok Bk e s h) (lv := lv35) 0 (fun i : {i : Nat // i ≤ (v.it.getD []).length} => [.loc 0 6 0 0, .loc 1 6 0 0, .slc 2 6 0 (v.it.getD []).length, .d (.int .i64 ((v.it.getD []).length : Int)), .d (.int .i64 (i.1 : Int))]) (fun i : {i : Nat // i ≤ (v.it.getD []).length} => [(0, some ⟨[.agg [.d (.int .i64 v.k), .d (.int .i64 v.n), .d (.int .i64 v.e), .d (.str v.s), .d (encS v.nm), .slc 2 6 0 (v.it.getD []).length]], 6, 25, true, true⟩), (1, some ⟨[.d (.agg [.int .i64 0, .int .i64 0, .int .i64 0, .str ⟨#[]⟩, .snil, .snil])], 6, 25, true, true⟩), (2, some ⟨(v.it.getD []).map (AV.d ∘ V.enc), 6, 25, true, true⟩)]) (fun i : {i : Nat // i ≤ (v.it.getD []).length} => (v.it.getD []).length - i.1) [0, 1, 2] (⟨0, by omega⟩ : {i : Nat // i ≤ (v.it.getD []).length}) (by rfl) (by rfl) ?_ ?_ fun i => ?_
    · rfl
    · rfl
    obtain ⟨i, hi⟩ := i
    have w3 := zE6 (n := i) (by omega)
    refine zE2 fun C hC => ?_
    generalize Q0 : v.enc = Z0
    generalize Q1 : encS v.nm = Z1
    generalize Q2 : DV.str v.s = Z2
    generalize Q3 : DV.int .i64 v.k = Z3
    generalize Q4 : DV.int .i64 v.n = Z4
    generalize Q5 : DV.int .i64 v.e = Z5
    generalize Q6 : DV.int .i64 ((v.it.getD []).length : Int) = Z6
    generalize Q7 : DV.int .i64 (i : Int) = Z7
    generalize Q8 : (v.it.getD []).map (AV.d ∘ V.enc) = Z8
    generalize Q9 : (v.it.getD []).length = Z9
    cbv
    subst Q0 Q1 Q2 Q3 Q4 Q5 Q6 Q7 Q8 Q9
    subst hC
    refine ⟨?_⟩
    simp (maxSteps:=9999999) only [hI, hF, std]
    by_cases hlt : i < (v.it.getD []).length
    · have g1 : dgetA ((v.it.getD []).map (AV.d ∘ V.enc)) i = ((v.it.getD []).getD i default).enc := by unfold dgetA; rw [getR _ _ hlt]
      have g2 := getR _ _ hlt
      have g3 := setR _ _ hlt
      have k1 := V.ok_get hv (i := i) hlt
      have k3 : ((v.it.getD []).getD i default).sz < N := Nat.lt_of_lt_of_le (V.sz_item (v := v) (memD hlt)) hs
      simp only [smp, smo, lookPn, lookPd, sfOfP, lookFo, lookFra, lookFrn, lookFes, lookFty, sfOfF, lookOk, lookRes, sfOf, sgOf, hOk, hRes, hOut, ↓reduceIte, Nat.reduceEqDiff, reduceCtorEq, qA, eVn, e54, e55, f55, encO_nil, g1, g2, g3]
      simp [- List.getD_eq_getElem?_getD, - Subtype.exists, - Prod.exists, - Bool.exists_bool, hlt, w3, qA, k1, k3, isDatSA]
      refine ⟨k1, fun x hx => ?_, ⟨rfl, fun x hx => rfl⟩, ⟨i + 1, by omega⟩, by show (v.it.getD []).length - (i + 1) < (v.it.getD []).length - i; omega, rfl⟩
      rw [enc_eq] at hx
      simp [AV.cells] at hx
      rcases hx with rfl | rfl | rfl | rfl | rfl | rfl <;> first | exact zA9 _ | exact zA8 _ | rfl
    · simp only [smp, smo, lookPn, lookPd, sfOfP, lookFo, lookFra, lookFrn, lookFes, lookFty, sfOfF, lookOk, lookRes, sfOf, sgOf, hOk, hRes, hOut, ↓reduceIte, Nat.reduceEqDiff, reduceCtorEq, qA, eVn, e54, e55, f55, encO_nil]
      simp only [show decide ((i : Int) < ((v.it.getD []).length : Int)) = false from decide_eq_false (by omega)]
      simp [- List.getD_eq_getElem?_getD, - Subtype.exists, - Prod.exists, - Bool.exists_bool, qA]
      rw [tupA, frz_v (l := (v.it.getD []).map V.enc) (ty := 25) (by rw [List.map_map]; rfl) (by simp) hil', enc_eq]
      cases hvi : v.it with
      | none => rw [hvi] at h2; exact absurd (encO_nil none ▸ rfl) h2
      | some l => simp [encO, encL_map]
  · have h2 : v.it = none := by
      have := h2 (V.ok_it hv)
      cases hv2 : v.it with
      | none => rfl
      | some l => rw [hv2, encO] at this; cases this
    refine ⟨h2, ?_⟩
    refine zE1 (kend := fun I => kEnd I TbF53 [.cell 2 25]) hI hF (sfOkF (.cons ok54 (.cons ok55 (.cons ok55 (.cons ok35' .nil)))) .nil (.cons fk55 .nil)) TbF53Ok (by exact fun Bk e s h => endR TbF53Ok Bk e s h) (lv := lv35) 0 (fun i : Unit => [.loc 0 6 0 0, .loc 1 6 0 0, .d .snil, .d (.int .i64 0), .d (.int .i64 0)]) (fun i : Unit => [(0, some ⟨[.agg [.d (.int .i64 v.k), .d (.int .i64 v.n), .d (.int .i64 v.e), .d (.str v.s), .d (encS v.nm), .d .snil]], 6, 25, true, true⟩), (1, some ⟨[.d (.agg [.int .i64 0, .int .i64 0, .int .i64 0, .str ⟨#[]⟩, .snil, .snil])], 6, 25, true, true⟩), (2, none)]) (fun i : Unit => 0) [0, 1, 2] (() : Unit) (by rfl) (by rfl) ?_ ?_ fun i => ?_
    · rfl
    · rfl
    refine zE2 fun C hC => ?_
    generalize Q0 : v.enc = Z0
    generalize Q1 : encS v.nm = Z1
    generalize Q2 : DV.str v.s = Z2
    generalize Q3 : DV.int .i64 v.k = Z3
    generalize Q4 : DV.int .i64 v.n = Z4
    generalize Q5 : DV.int .i64 v.e = Z5
    cbv
    subst Q0 Q1 Q2 Q3 Q4 Q5
    subst hC
    refine ⟨?_⟩
    simp (maxSteps:=9999999) only [hI, hF, std]
    simp only [smp, smo, lookPn, lookPd, sfOfP, lookFo, lookFra, lookFrn, lookFes, lookFty, sfOfF, lookOk, lookRes, sfOf, sgOf, hOk, hRes, hOut, ↓reduceIte, Nat.reduceEqDiff, reduceCtorEq, qA, eVn, e54, e55, f55, encO_nil]
    simp [- List.getD_eq_getElem?_getD, - Subtype.exists, - Prod.exists, - Bool.exists_bool, qA]
    rw [tupA, enc_eq, h2]; rfl
theorem pc35 (v : V) (hv : v.ok) : PureCall Tryz.prog [0] 32 [v.enc] (dRet v.enc) := by
  have main : ∀ (n : Nat) (v : V), v.ok → v.sz < n → PureCall Tryz.prog [0] 32 [v.enc] (dRet v.enc) := by
    intro n
    induction n with
    | zero => intro v _ h; omega
    | succ n ih => intro v hv h; exact pc35n n ih v hv (by omega)
  exact main (v.sz + 1) v hv (by omega)
open Classical in
noncomputable def e35 : Ent := ⟨32, fun | [d_v] => decide (isV d_v) | _ => false, fun | [d_v] => (toV d_v).enc | _ => .inil⟩
open Classical in
theorem ok35 : EntOk Tryz.prog [0] e35 := fun ds h => by
  unfold e35 at h ⊢
  simp only at h ⊢
  split at h
  · rw [decide_eq_true_iff] at h
    obtain ⟨v0, rfl, k0⟩ := h
    simp only [zB2, zA4, zA5]
    exact pc35 _ k0
  · cases h
end Go.Proofs.Sx

namespace Go.Proofs.Sx
open Go Go.Proofs Go.Proofs.Am 
variable {gs : List Nat}

structure Nd where
  k : Int
  n : Int
  tx : ByteArray
  nm : Option (List ByteArray)
  ar : Option (List Int)
instance : Inhabited Nd := ⟨⟨0, 0, ⟨#[]⟩, none, none⟩⟩
def Nd.names (x : Nd) : List ByteArray := x.nm.getD []
def Nd.args (x : Nd) : List Int := x.ar.getD []
def encIs (o : Option (List Int)) : DV := match o with
  | none => .snil
  | some l => .sim (l.map (.int .i64))
def encN (x : Nd) : DV := .agg [.int .i64 x.k, .int .i64 x.n, .str x.tx, encS x.nm, encIs x.ar]
def encT (o : Option (List Nd)) : DV := match o with
  | none => .snil
  | some l => .sim (l.map encN)
theorem mapI_inj {l r : List Int} (h : l.map (DV.int .i64) = r.map (.int .i64)) : l = r := by
  induction l generalizing r with
  | nil => cases r <;> first | rfl | simp at h
  | cons x l ih => cases r with
    | nil => simp at h
    | cons y r => simp at h; rw [h.1, ih h.2]
theorem encIs_inj {a b : Option (List Int)} (h : encIs a = encIs b) : a = b := by
  cases a <;> cases b <;> simp [encIs] at h <;> first | rfl | skip
  rw [mapI_inj h]
theorem encN_inj {a b : Nd} (h : encN a = encN b) : a = b := by
  simp only [encN, DV.agg.injEq, List.cons.injEq, DV.int.injEq, DV.str.injEq, true_and, and_true] at h
  obtain ⟨h1, h2, h3, h4, h5⟩ := h
  cases a; cases b
  simp only at h1 h2 h3 h4 h5
  subst h1 h2 h3
  cases encS_inj h4
  cases encIs_inj h5
  rfl
theorem encT_inj {a b : Option (List Nd)} (h : encT a = encT b) : a = b := by
  cases a <;> cases b <;> simp [encT] at h <;> first | rfl | skip
  rename_i l r
  congr
  induction l generalizing r with
  | nil => cases r <;> first | rfl | simp at h
  | cons x l ih => cases r with
    | nil => simp at h
    | cons y r =>
      simp at h
      rw [encN_inj h.1, ih r h.2]
def okIs (o : Option (List Int)) : Prop := (o.getD []).length ≤ 1048576
def okN (x : Nd) : Prop := x.tx.size ≤ 1048576 ∧ okS0 x.nm ∧ okIs x.ar
def okT (o : Option (List Nd)) : Prop := (o.getD []).length ≤ 1048576 ∧ ∀ x ∈ o.getD [], okN x
def isIs (d : DV) : Prop := ∃ o, d = encIs o ∧ okIs o
open Classical in
noncomputable def toIs (d : DV) : Option (List Int) := if h : ∃ v, d = encIs v then Classical.choose h else none
theorem zC2 (v : Option (List Int)) : toIs (encIs v) = v := by
  have h : ∃ w, encIs v = encIs w := ⟨v, rfl⟩
  unfold toIs
  rw [dif_pos h]
  exact encIs_inj (Classical.choose_spec h).symm
theorem zC4 (v : Option (List Int)) : isIs (encIs v) = okIs v := by
  apply propext
  constructor
  · rintro ⟨w, h1, h2⟩; rw [encIs_inj h1]; exact h2
  · intro h; exact ⟨v, rfl, h⟩
def isN (d : DV) : Prop := ∃ o, d = encN o ∧ okN o
open Classical in
noncomputable def toN (d : DV) : Nd := if h : ∃ v, d = encN v then Classical.choose h else default
theorem zC8 (v : Nd) : toN (encN v) = v := by
  have h : ∃ w, encN v = encN w := ⟨v, rfl⟩
  unfold toN
  rw [dif_pos h]
  exact encN_inj (Classical.choose_spec h).symm
theorem zD2 (v : Nd) : isN (encN v) = okN v := by
  apply propext
  constructor
  · rintro ⟨w, h1, h2⟩; rw [encN_inj h1]; exact h2
  · intro h; exact ⟨v, rfl, h⟩
def isT (d : DV) : Prop := ∃ o, d = encT o ∧ okT o
open Classical in
noncomputable def toT (d : DV) : Option (List Nd) := if h : ∃ v, d = encT v then Classical.choose h else none
theorem zC9 (v : Option (List Nd)) : toT (encT v) = v := by
  have h : ∃ w, encT v = encT w := ⟨v, rfl⟩
  unfold toT
  rw [dif_pos h]
  exact encT_inj (Classical.choose_spec h).symm
theorem zD1 (v : Option (List Nd)) : isT (encT v) = okT v := by
  apply propext
  constructor
  · rintro ⟨w, h1, h2⟩; rw [encT_inj h1]; exact h2
  · intro h; exact ⟨v, rfl, h⟩
theorem zC5 (o : Option (List Nd)) : lstD (encT o) = (o.getD []).map encN := by cases o <;> simp [encT, lstD]
theorem zC1 (o : Option (List Nd)) : isSlD (encT o) = true := by cases o <;> simp [encT, isSlD]
theorem zC3 (o : Option (List Nd)) : avOne (.d (encT o)) = true := by cases o <;> simp [encT, avOne]
theorem zC0 (o : Option (List Int)) : lstD (encIs o) = (o.getD []).map (.int .i64) := by cases o <;> simp [encIs, lstD]
theorem zB5 (o : Option (List Int)) : isSlD (encIs o) = true := by cases o <;> simp [encIs, isSlD]
theorem zB9 (o : Option (List Int)) : avOne (.d (encIs o)) = true := by cases o <;> simp [encIs, avOne]
theorem zB8 (x : Nd) : (encN x).cells = [.int .i64 x.k, .int .i64 x.n, .str x.tx, encS x.nm, encIs x.ar] := rfl
theorem zB6 (x : Nd) : dIsAgg (encN x) = true := rfl
theorem zB7 (o : Option (List Nd)) : (encT o).cells = [encT o] := by cases o <;> rfl
theorem zC6 (x : Nd) : dlV 5 true (encN x) 0 = encN x := dlV_whole 5 _ rfl
theorem zC7 (x : Nd) : DV.agg [.int .i64 x.k, .int .i64 x.n, .str x.tx, encS x.nm, encIs x.ar] = encN x := rfl
theorem zI4 (l : List Nd) (i : Nat) (h : i < l.length) : (l.map encN).getD i .inil = encN (l.getD i default) := by
  simp [List.getD, List.getElem?_map, List.getElem?_eq_getElem h]
theorem zI0 (l : List Int) (i : Nat) (h : i < l.length) : (l.map (DV.int .i64)).getD i .inil = .int .i64 (l.getD i 0) := by
  simp [List.getD, List.getElem?_map, List.getElem?_eq_getElem h]
theorem okT_get {o : Option (List Nd)} (h : okT o) {i : Nat} (hi : i < (o.getD []).length) : okN ((o.getD []).getD i default) := by
  refine h.2 _ ?_
  simp [List.getD, List.getElem?_eq_getElem hi]
end Go.Proofs.Sx

namespace Go.Proofs.Sx
open Go Go.Proofs Go.Proofs.Am 
variable {gs : List Nat}

structure Kn where
  nm : ByteArray
  kd : Int
instance : Inhabited Kn := ⟨⟨⟨#[]⟩, 0⟩⟩
end Go.Proofs.Sx

namespace Go.Proofs.Sx
open Go Go.Proofs Go.Proofs.Am 
variable {gs : List Nat}

def ownN (x : Nd) : Nd := ⟨x.k, x.n, x.tx, some x.names, some x.args⟩
end Go.Proofs.Sx
