/- Bindings. -/
import Derived.Test.YtmjkaekhjmlnbaaGreatDoorSx12
import Derived.Test.YtmjkaekhjmlnbaaGreatDoorSxBase
import Derived.Test.YtmjkaekhjmlnbaaGreatDoorAmPtr
set_option linter.unusedVariables false
set_option linter.unusedSimpArgs false
set_option maxRecDepth 100000
namespace Go.Proofs.Sx
open Go Go.Proofs Go.Proofs.Am 
variable {gs : List Nat}

structure B where
  nm : ByteArray
  v : V
instance : Inhabited B := ⟨⟨⟨#[]⟩, default⟩⟩
def encB (b : B) : DV := .agg [.str b.nm, .int .i64 b.v.k, .int .i64 b.v.n, .int .i64 b.v.e, .str b.v.s, encS b.v.nm, encO b.v.it]
def encBs (o : Option (List B)) : DV := match o with
  | none => .snil
  | some l => .sim (l.map encB)
theorem encB_eq (b : B) : encB b = .agg (.str b.nm :: b.v.enc.cells) := by rw [enc_cells]; rfl
theorem encB_inj {a b : B} (h : encB a = encB b) : a = b := by
  rw [encB_eq, encB_eq] at h
  simp only [DV.agg.injEq, List.cons.injEq, DV.str.injEq] at h
  obtain ⟨h1, h2⟩ := h
  have : a.v = b.v := by
    apply V.enc_inj
    rw [enc_cells, enc_cells] at h2
    rw [enc_eq, enc_eq, h2]
  cases a; cases b; cases h1; cases this; rfl
theorem encBs_inj {a b : Option (List B)} (h : encBs a = encBs b) : a = b := by
  cases a <;> cases b <;> simp [encBs] at h <;> first | rfl | skip
  rename_i l r
  congr
  induction l generalizing r with
  | nil => cases r <;> first | rfl | simp at h
  | cons x l ih => cases r with
    | nil => simp at h
    | cons y r =>
      simp at h
      rw [encB_inj h.1, ih r h.2]
def okB0 (b : B) : Prop := b.nm.size ≤ 1048576 ∧ b.v.ok
def okBs (o : Option (List B)) : Prop := (o.getD []).length ≤ 1048576 ∧ ∀ x ∈ o.getD [], okB0 x
def isB0 (d : DV) : Prop := ∃ b : B, d = encB b ∧ okB0 b
open Classical in
noncomputable def toB (d : DV) : B := if h : ∃ v, d = encB v then Classical.choose h else default
theorem toB_enc (v : B) : toB (encB v) = v := by
  have h : ∃ w, encB v = encB w := ⟨v, rfl⟩
  unfold toB
  rw [dif_pos h]
  exact encB_inj (Classical.choose_spec h).symm
theorem isB0_enc (v : B) : isB0 (encB v) = okB0 v := by
  apply propext
  constructor
  · rintro ⟨w, h1, h2⟩; rw [encB_inj h1]; exact h2
  · intro h; exact ⟨v, rfl, h⟩
def isBs (d : DV) : Prop := ∃ o : Option (List B), d = encBs o ∧ okBs o
open Classical in
noncomputable def toBs (d : DV) : Option (List B) := if h : ∃ v, d = encBs v then Classical.choose h else none
theorem toBs_enc (v : Option (List B)) : toBs (encBs v) = v := by
  have h : ∃ w, encBs v = encBs w := ⟨v, rfl⟩
  unfold toBs
  rw [dif_pos h]
  exact encBs_inj (Classical.choose_spec h).symm
theorem isBs_enc (v : Option (List B)) : isBs (encBs v) = okBs v := by
  apply propext
  constructor
  · rintro ⟨w, h1, h2⟩; rw [encBs_inj h1]; exact h2
  · intro h; exact ⟨v, rfl, h⟩
theorem lst_encBs (o : Option (List B)) : lstD (encBs o) = (o.getD []).map encB := by
  cases o <;> simp [encBs, lstD]
theorem isSl_encBs (o : Option (List B)) : isSlD (encBs o) = true := by cases o <;> simp [encBs, isSlD]
theorem one_encBs (o : Option (List B)) : avOne (.d (encBs o)) = true := by cases o <;> simp [encBs, avOne]
theorem encB_cells (b : B) : (encB b).cells = [.str b.nm, .int .i64 b.v.k, .int .i64 b.v.n, .int .i64 b.v.e, .str b.v.s, encS b.v.nm, encO b.v.it] := rfl
theorem isAgg_encB (b : B) : dIsAgg (encB b) = true := rfl
theorem get_encB (l : List B) (i : Nat) (h : i < l.length) : (l.map encB).getD i .inil = encB (l.getD i default) := by
  simp [List.getD, List.getElem?_map, List.getElem?_eq_getElem h]
theorem okBs_len {o : Option (List B)} (h : okBs o) : (o.getD []).length ≤ 1048576 := h.1
theorem okBs_get {o : Option (List B)} (h : okBs o) {i : Nat} (hi : i < (o.getD []).length) : okB0 ((o.getD []).getD i default) := by
  refine h.2 _ ?_
  simp [List.getD, List.getElem?_eq_getElem hi]
theorem agg_enc (v : V) : DV.agg [.int .i64 v.k, .int .i64 v.n, .int .i64 v.e, .str v.s, encS v.nm, encO v.it] = v.enc := (enc_eq v).symm
end Go.Proofs.Sx
