/- Values of the program as trees. -/
import Derived.Test.YtmjkaekhjmlnbaaGreatDoorSx2
import Derived.Test.YtmjkaekhjmlnbaaGreatDoorSxBase
import Derived.Test.YtmjkaekhjmlnbaaGreatDoorAmPtr
set_option linter.unusedVariables false
set_option linter.unusedSimpArgs false
set_option maxRecDepth 100000
namespace Go.Proofs.Sx
open Go Go.Proofs Go.Proofs.Am 
variable {gs : List Nat}

inductive V where
  | mk (k n e : Int) (s : ByteArray) (names : Option (List ByteArray)) (items : Option (List V))

def V.k : V → Int | .mk k _ _ _ _ _ => k
def V.n : V → Int | .mk _ n _ _ _ _ => n
def V.e : V → Int | .mk _ _ e _ _ _ => e
def V.s : V → ByteArray | .mk _ _ _ s _ _ => s
def V.nm : V → Option (List ByteArray) | .mk _ _ _ _ l _ => l
def V.it : V → Option (List V) | .mk _ _ _ _ _ l => l
def V.names (v : V) : List ByteArray := v.nm.getD []
def V.items (v : V) : List V := v.it.getD []

instance : Inhabited V := ⟨.mk 0 0 0 ⟨#[]⟩ none none⟩

def encS (o : Option (List ByteArray)) : DV := match o with
  | none => .snil
  | some l => .sim (l.map .str)

mutual
def V.enc : V → DV
  | .mk k n e s nm it => .agg [.int .i64 k, .int .i64 n, .int .i64 e, .str s, encS nm, encO it]
def encO : Option (List V) → DV
  | none => .snil
  | some l => .sim (encL l)
def encL : List V → List DV
  | [] => []
  | v :: r => v.enc :: encL r
end

theorem encL_map : ∀ (l : List V), encL l = l.map V.enc
  | [] => by simp [encL]
  | v :: r => by simp [encL, encL_map r]

theorem enc_cells (v : V) : v.enc.cells = [.int .i64 v.k, .int .i64 v.n, .int .i64 v.e, .str v.s, encS v.nm, encO v.it] := by
  cases v; rw [V.enc]; rfl
theorem enc_eq (v : V) : v.enc = .agg [.int .i64 v.k, .int .i64 v.n, .int .i64 v.e, .str v.s, encS v.nm, encO v.it] := by
  cases v; rw [V.enc]; rfl
theorem lst_encO (o : Option (List V)) : lstD (encO o) = (o.getD []).map V.enc := by
  cases o <;> simp [encO, lstD, encL_map]
theorem isSl_encO (o : Option (List V)) : isSlD (encO o) = true := by cases o <;> simp [encO, isSlD]
theorem one_encO (o : Option (List V)) : avOne (.d (encO o)) = true := by cases o <;> simp [encO, avOne]
theorem lst_encS (o : Option (List ByteArray)) : lstD (encS o) = (o.getD []).map .str := by
  cases o <;> simp [encS, lstD]
theorem isSl_encS (o : Option (List ByteArray)) : isSlD (encS o) = true := by cases o <;> simp [encS, isSlD]
theorem one_encS (o : Option (List ByteArray)) : avOne (.d (encS o)) = true := by cases o <;> simp [encS, avOne]
theorem isAgg_enc (v : V) : dIsAgg v.enc = true := by rw [enc_eq]; rfl
theorem dlV_enc (v : V) : dlV 6 true v.enc 0 = v.enc := dlV_whole 6 _ (by rw [enc_cells]; rfl)
theorem get_enc (l : List V) (i : Nat) (h : i < l.length) : (l.map V.enc).getD i .inil = (l.getD i default).enc := by
  simp [List.getD, List.getElem?_map, List.getElem?_eq_getElem h]
theorem get_str (l : List ByteArray) (i : Nat) (h : i < l.length) : (l.map DV.str).getD i .inil = .str (l.getD i ⟨#[]⟩) := by
  simp [List.getD, List.getElem?_map, List.getElem?_eq_getElem h]

theorem encS_inj {a b : Option (List ByteArray)} (h : encS a = encS b) : a = b := by
  cases a <;> cases b <;> simp [encS] at h <;> first | rfl | skip
  rename_i l r
  congr
  induction l generalizing r with
  | nil => cases r <;> first | rfl | simp at h
  | cons x l ih => cases r with
    | nil => simp at h
    | cons y r =>
      simp at h
      rw [h.1, ih r h.2]

mutual
theorem V.enc_inj : ∀ (v w : V), v.enc = w.enc → v = w
  | .mk k n e s nm it, .mk k' n' e' s' nm' it', h => by
    rw [V.enc, V.enc] at h
    simp only [DV.agg.injEq, List.cons.injEq, DV.int.injEq, DV.str.injEq, true_and, and_true] at h
    obtain ⟨rfl, rfl, rfl, rfl, h1, h2⟩ := h
    rw [encS_inj h1, encO_inj it it' h2]
theorem encO_inj : ∀ (a b : Option (List V)), encO a = encO b → a = b
  | none, none, _ => rfl
  | none, some _, h => by simp [encO] at h
  | some _, none, h => by simp [encO] at h
  | some l, some r, h => by
    simp only [encO, DV.sim.injEq] at h
    rw [encL_inj l r h]
theorem encL_inj : ∀ (a b : List V), encL a = encL b → a = b
  | [], [], _ => rfl
  | [], _ :: _, h => by simp [encL] at h
  | _ :: _, [], h => by simp [encL] at h
  | v :: l, w :: r, h => by
    simp only [encL, List.cons.injEq] at h
    rw [V.enc_inj v w h.1, encL_inj l r h.2]
end

def lim : Nat := 1048576

mutual
def V.ok : V → Prop
  | .mk _ _ _ s nm it => s.size ≤ 1048576 ∧ (nm.getD []).length ≤ 1048576 ∧ (∀ x ∈ nm.getD [], x.size ≤ 1048576) ∧ okO it
def okO : Option (List V) → Prop
  | none => True
  | some l => l.length ≤ 1048576 ∧ okL l
def okL : List V → Prop
  | [] => True
  | v :: r => v.ok ∧ okL r
end

theorem okL_mem : ∀ {l : List V}, okL l → ∀ v ∈ l, v.ok
  | [], _, v, h => by cases h
  | w :: r, hk, v, h => by
    simp only [okL] at hk
    rcases List.mem_cons.1 h with rfl | h
    · exact hk.1
    · exact okL_mem hk.2 v h
theorem V.ok_s {v : V} (h : v.ok) : v.s.size ≤ 1048576 := by cases v; simp only [V.ok] at h; exact h.1
theorem V.ok_nl {v : V} (h : v.ok) : v.names.length ≤ 1048576 := by cases v; simp only [V.ok] at h; exact h.2.1
theorem V.ok_n {v : V} (h : v.ok) : ∀ x ∈ v.names, x.size ≤ 1048576 := by cases v; simp only [V.ok] at h; exact h.2.2.1
theorem V.ok_il {v : V} (h : v.ok) : v.items.length ≤ 1048576 := by
  obtain ⟨k, n, e, s, nm, it⟩ := v
  simp only [V.ok] at h
  cases it with
  | none => simp [V.items, V.it]
  | some l => simp only [okO] at h; exact h.2.2.2.1
theorem V.ok_i {v : V} (h : v.ok) : ∀ x ∈ v.items, x.ok := by
  obtain ⟨k, n, e, s, nm, it⟩ := v
  simp only [V.ok] at h
  cases it with
  | none => intro x hx; simp [V.items, V.it] at hx
  | some l => simp only [okO] at h; exact okL_mem h.2.2.2.2
theorem V.ok_get {v : V} (h : v.ok) {i : Nat} (hi : i < v.items.length) : (v.items.getD i default).ok := by
  refine V.ok_i h _ ?_
  simp [List.getD, List.getElem?_eq_getElem hi]

mutual
def V.sz : V → Nat
  | .mk _ _ _ _ _ it => 1 + szO it
def szO : Option (List V) → Nat
  | none => 0
  | some l => szL l
def szL : List V → Nat
  | [] => 0
  | v :: r => v.sz + szL r
end
theorem szL_mem : ∀ {l : List V} {v : V}, v ∈ l → v.sz ≤ szL l
  | w :: r, v, h => by
    simp only [szL]
    rcases List.mem_cons.1 h with rfl | h
    · omega
    · have := szL_mem h; omega
theorem V.sz_item {v x : V} (h : x ∈ v.items) : x.sz < v.sz := by
  obtain ⟨k, n, e, s, nm, it⟩ := v
  cases it with
  | none => simp [V.items, V.it] at h
  | some l => have := szL_mem (l := l) h; simp only [V.sz, szO]; omega
theorem V.sz_get {v : V} {i : Nat} (hi : i < v.items.length) : (v.items.getD i default).sz < v.sz := by
  refine V.sz_item ?_
  simp [List.getD, List.getElem?_eq_getElem hi]

/-- Data that is a value. -/
def isV (d : DV) : Prop := ∃ v : V, d = v.enc ∧ v.ok
open Classical in
noncomputable def toV (d : DV) : V := if h : ∃ v : V, d = v.enc then Classical.choose h else default
theorem toV_enc (v : V) : toV v.enc = v := by
  have h : ∃ w : V, v.enc = w.enc := ⟨v, rfl⟩
  unfold toV
  rw [dif_pos h]
  exact V.enc_inj _ _ (Classical.choose_spec h).symm
theorem isV_enc (v : V) : isV v.enc = v.ok := by
  apply propext
  constructor
  · rintro ⟨w, h1, h2⟩; rw [V.enc_inj _ _ h1]; exact h2
  · intro h; exact ⟨v, rfl, h⟩

/-- The same for lists. -/
def isVs (d : DV) : Prop := ∃ o : Option (List V), d = encO o ∧ okO o
open Classical in
noncomputable def toVs (d : DV) : Option (List V) := if h : ∃ v, d = encO v then Classical.choose h else none
theorem toVs_enc (v : Option (List V)) : toVs (encO v) = v := by
  have h : ∃ w, encO v = encO w := ⟨v, rfl⟩
  unfold toVs
  rw [dif_pos h]
  exact encO_inj _ _ (Classical.choose_spec h).symm
theorem isVs_enc (v : Option (List V)) : isVs (encO v) = okO v := by
  apply propext
  constructor
  · rintro ⟨w, h1, h2⟩; rw [encO_inj _ _ h1]; exact h2
  · intro h; exact ⟨v, rfl, h⟩

/-- A list of strings. -/
def okS0 (o : Option (List ByteArray)) : Prop := (o.getD []).length ≤ 1048576 ∧ ∀ x ∈ o.getD [], x.size ≤ 1048576
def isSs (d : DV) : Prop := ∃ o : Option (List ByteArray), d = encS o ∧ okS0 o
open Classical in
noncomputable def toSs (d : DV) : Option (List ByteArray) := if h : ∃ v, d = encS v then Classical.choose h else none
theorem toSs_enc (v : Option (List ByteArray)) : toSs (encS v) = v := by
  have h : ∃ w, encS v = encS w := ⟨v, rfl⟩
  unfold toSs
  rw [dif_pos h]
  exact encS_inj (Classical.choose_spec h).symm
theorem isSs_enc (v : Option (List ByteArray)) : isSs (encS v) = okS0 v := by
  apply propext
  constructor
  · rintro ⟨w, h1, h2⟩; rw [encS_inj h1]; exact h2
  · intro h; exact ⟨v, rfl, h⟩
theorem V.ok_nm {v : V} (h : v.ok) : okS0 v.nm := ⟨V.ok_nl h, V.ok_n h⟩
theorem V.ok_it {v : V} (h : v.ok) : okO v.it := by
  obtain ⟨k, n, e, s, nm, it⟩ := v
  simp only [V.ok] at h
  exact h.2.2.2
theorem okO_len {o : Option (List V)} (h : okO o) : (o.getD []).length ≤ 1048576 := by
  cases o with
  | none => simp
  | some l => simp only [okO] at h; exact h.1
theorem okO_get {o : Option (List V)} (h : okO o) {i : Nat} (hi : i < (o.getD []).length) : ((o.getD []).getD i default).ok := by
  cases o with
  | none => simp at hi
  | some l =>
    simp only [okO] at h
    refine okL_mem h.2 _ ?_
    have hi : i < l.length := hi
    simp [List.getD, List.getElem?_eq_getElem hi]
end Go.Proofs.Sx
