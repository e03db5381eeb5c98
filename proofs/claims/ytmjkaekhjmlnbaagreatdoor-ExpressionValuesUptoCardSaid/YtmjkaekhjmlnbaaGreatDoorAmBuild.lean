/- Literals and make. -/
import Derived.Test.YtmjkaekhjmlnbaaGreatDoorAmMem
import Derived.Laws.Tables
set_option linter.unusedVariables false
set_option linter.unusedSimpArgs false
namespace Go.Proofs.Am
open Go Go.RowKit

inductive All2 {α β : Type} (R : α → β → Prop) : List α → List β → Prop where
  | nil : All2 R [] []
  | cons {a : α} {b : β} {l : List α} {r : List β} (h : R a b) (t : All2 R l r) : All2 R (a :: l) (b :: r)

theorem All2.map {α β γ : Type} {R : β → γ → Prop} {f : α → β} {g : α → γ} (l : List α) (h : ∀ x ∈ l, R (f x) (g x)) : All2 R (l.map f) (l.map g) := by
  induction l with
  | nil => exact .nil
  | cons x l ih => exact .cons (h x (by simp)) (ih fun y hy => h y (by simp [hy]))

section
variable {P : Program} {c : Ctx} {A : Nat → Prop} {ρ : Nat → Option BR} {σ : St} {a : Act} {w : World}

theorem fold_set (off : Nat) : ∀ (l : List Value) (s : Nat) (cells : Array Value),
    ((l.zipIdx s).foldl (fun cs (p : Value × Nat) => cs.setIfInBounds (off + p.2) p.1) cells).size = cells.size ∧
    ∀ k, ((l.zipIdx s).foldl (fun cs (p : Value × Nat) => cs.setIfInBounds (off + p.2) p.1) cells)[k]? = if off + s ≤ k ∧ k < off + s + l.length ∧ k < cells.size then l[k - (off + s)]? else cells[k]?
  | [], s, cells => by simp; intro k h1 h2; omega
  | v :: r, s, cells => by
    obtain ⟨h1, h2⟩ := fold_set off r (s + 1) (cells.setIfInBounds (off + s) v)
    simp only [List.zipIdx_cons, List.foldl_cons]
    refine ⟨by simpa using h1, fun k => ?_⟩
    rw [h2 k]
    simp only [Array.size_setIfInBounds, List.length_cons]
    by_cases hk : k = off + s
    · subst hk
      rw [if_neg (by omega), Array.getElem?_setIfInBounds]
      by_cases hl : off + s < cells.size
      · rw [if_pos rfl, if_pos hl, if_pos ⟨by omega, by omega, hl⟩]; simp
      · rw [if_pos rfl, if_neg hl, if_neg (by omega)]; simp [hl]
    · by_cases hin : off + (s + 1) ≤ k ∧ k < off + (s + 1) + r.length ∧ k < cells.size
      · rw [if_pos hin, if_pos ⟨by omega, by omega, hin.2.2⟩, show k - (off + s) = (k - (off + (s + 1))) + 1 by omega]; simp
      · rw [if_neg hin, if_neg (by omega), Array.getElem?_setIfInBounds, if_neg (by omega)]

theorem fill_fold (off : Nat) (vs : Array Value) (cells : Array Value) :
    (vs.zipIdx.foldl (fun cs (p : Value × Nat) => cs.setIfInBounds (off + p.2) p.1) cells).size = cells.size ∧
    ∀ k, (vs.zipIdx.foldl (fun cs (p : Value × Nat) => cs.setIfInBounds (off + p.2) p.1) cells)[k]? = if off ≤ k ∧ k < off + vs.size ∧ k < cells.size then vs[k - off]? else cells[k]? := by
  have h := fold_set off vs.toList 0 cells
  have e : vs.zipIdx.toList = vs.toList.zipIdx := by simp
  rw [← e, Array.foldl_toList] at h
  simpa using h

/-- An array of cells stands for elements. -/
structure RowOf (w : World) (A : Nat → Prop) (ρ : Nat → Option BR) (es : Nat) (els : List AV) (arr : Array Value) : Prop where
  size : arr.size = els.length * es
  cell : ∀ j m, j < els.length → m < es → ∃ v, arr[j * es + m]? = some v ∧ v.oneCell' = true ∧ ARep w A ρ ((els.getD j .undef).cells.getD m .undef) v
  els : ∀ j, j < els.length → (els.getD j .undef).cells.length = es

theorem mul_lt_of {i n es m : Nat} (hi : i < n) (hm : m < es) : i * es + m < n * es := by
  have : (i + 1) * es ≤ n * es := Nat.mul_le_mul_right _ hi
  rw [Nat.add_mul] at this; omega

theorem fillL_sound {es : Nat} : ∀ (parts : List (Nat × AV)) (vals : List (Nat × Value)) (els els' : List AV) (arr : Array Value), RowOf w A ρ es els arr →
    All2 (fun p q => p.1 = q.1 ∧ ARep w A ρ p.2 q.2) parts vals → (∀ p ∈ parts, p.2.cells.all avOne = true) → fillL es els parts = some els' →
    ∃ arr', Instr.fill (fun i => some (i * es, es)) arr vals = some arr' ∧ RowOf w A ρ es els' arr' ∧ els'.length = els.length := by
  intro parts vals els els' arr hR hF
  induction hF generalizing els arr with
  | nil => intro _ h; simp only [fillL, Option.some.injEq] at h; subst h; exact ⟨arr, rfl, hR, rfl⟩
  | @cons p q ps qs hpq hF ih =>
    intro h1 h
    obtain ⟨i, v⟩ := p
    obtain ⟨i', x⟩ := q
    obtain ⟨rfl, hx⟩ := hpq
    simp only [fillL] at h
    split at h
    · rename_i hc
      obtain ⟨hi, hl⟩ := hc
      have hx : ARep w A ρ v x := hx
      obtain ⟨c1, c2⟩ := avOne_cells (d := v) (v := x) (h1 (i, v) (by simp)) hx
      have hl : v.cells.length = es := hl
      have hi : i < els.length := hi
      have hfit : i * es + es ≤ arr.size := by
        rw [hR.size]
        have : (i + 1) * es ≤ els.length * es := Nat.mul_le_mul_right _ hi
        rw [Nat.add_mul] at this; omega
      obtain ⟨f1, f2⟩ := fill_fold (i * es) x.cells arr
      have hR' : RowOf w A ρ es (els.set i v) (x.cells.zipIdx.foldl (fun cs (p : Value × Nat) => cs.setIfInBounds (i * es + p.2) p.1) arr) := by
        refine ⟨by rw [f1, hR.size]; simp, fun j m hj hm => ?_, fun j hj => ?_⟩
        · simp only [List.length_set] at hj
          rw [f2]
          by_cases hji : j = i
          · subst hji
            rw [if_pos ⟨by omega, by omega, by omega⟩, show j * es + m - j * es = m by omega]
            have hm' : m < x.cells.size := by omega
            refine ⟨x.cells.getD m undef, by simp [Array.getD, hm'], (c2 m (by omega)).1, ?_⟩
            have eg : (els.set j v).getD j .undef = v := by simp [List.getD, hj]
            rw [eg]; exact (c2 m (by omega)).2
          · rw [if_neg ?_]
            · have eg : (els.set i v).getD j .undef = els.getD j .undef := by simp [List.getD, List.getElem?_set, Ne.symm hji]
              rw [eg]; exact hR.cell j m hj hm
            · rcases Nat.lt_or_gt_of_ne hji with hlt | hgt
              · have : (j + 1) * es ≤ i * es := Nat.mul_le_mul_right _ hlt
                rw [Nat.add_mul] at this; omega
              · have : (i + 1) * es ≤ j * es := Nat.mul_le_mul_right _ hgt
                rw [Nat.add_mul] at this; omega
        · simp only [List.length_set] at hj
          by_cases hji : j = i
          · subst hji
            have eg : (els.set j v).getD j .undef = v := by simp [List.getD, hj]
            rw [eg]; exact hl
          · have eg : (els.set i v).getD j .undef = els.getD j .undef := by simp [List.getD, List.getElem?_set, Ne.symm hji]
            rw [eg]; exact hR.els j hj
      obtain ⟨arr', g1, g2, g3⟩ := ih _ _ hR' (fun p hp => h1 p (by simp [hp])) h
      refine ⟨arr', ?_, g2, by simpa using g3⟩
      simp only [Instr.fill]
      have e1 : (decide (x.cells.size ≠ es) || decide (i * es + x.cells.size > arr.size)) = false := by
        rw [Bool.or_eq_false_iff]; exact ⟨by simp; omega, by simp; omega⟩
      rw [e1]
      exact g1
    · cases h

theorem zero_row {ti : TI} {z : Value} {n : Nat} (hzd : zeroD z = some ti.zero) (hzl : ti.zero.cells.length = ti.sz) (hpos : n * ti.sz ≠ 0 ∨ True) :
    RowOf w A ρ ti.sz (List.replicate n (.d ti.zero)) ((Array.range (n * ti.sz)).map (z.cells[· % z.cells.size]!)) := by
  obtain ⟨c1, c2⟩ := (zeroD_rep hzd w A).cells
  have hone := zeroD_one hzd
  refine ⟨by simp, fun j m hj hm => ?_, fun j hj => ?_⟩
  · simp only [List.length_replicate] at hj
    have hlt := mul_lt_of hj hm
    have hm' : m < ti.zero.cells.length := by omega
    refine ⟨z.cells.getD m undef, ?_, hone m hm', ?_⟩
    · have hmod : (j * ti.sz + m) % z.cells.size = m := by
        rw [c1, hzl, Nat.mul_comm, Nat.mul_add_mod]; exact Nat.mod_eq_of_lt hm
      have hsz : m < z.cells.size := by omega
      simp only [Array.getElem?_map, Array.getElem?_range, hlt, if_true, Option.map_some, hmod]
      simp [Array.getD, hsz, getElem!_pos]
    · rw [getD_replicate _ _ _ _ hj, dcells, getD_map_d _ _ hm']
      exact .d _ _ (c2 m hm')
  · simp only [List.length_replicate] at hj
    rw [getD_replicate _ _ _ _ hj, dcells]; simpa using hzl

theorem newRow_sound (hS : Sim c A ρ σ a w) (hf : ρ σ.nid = none) {es : Nat} {els : List AV} {arr : Array Value} (hR : RowOf w A ρ es els arr) (t : TypeId) (hm : els.length ≤ maxLen) :
    ∃ ρ', Sim c A ρ' { σ with lh := upd σ.lh σ.nid (some ⟨els, es, t, true, true⟩), nid := σ.nid + 1 } a (w.alloc (.cells arr t)) ∧
      (∀ n, n ≤ els.length → ARep (w.alloc (.cells arr t)) A ρ' (.slc σ.nid es 0 n) (.slice (some ⟨w.heap.size, 0, none⟩) n els.length)) ∧ Names ρ ρ' σ.nid (σ.nid + 1) := by
  let r : BR := ⟨w.heap.size, els.length, es⟩
  have hr : ∀ b r', ρ b = some r' → upd ρ σ.nid (some r) b = some r' := fun b r' h => by
    rw [upd_ne _ _ _ _ (fun e => by rw [e, hf] at h; cases h)]; exact h
  have kp : Keeps w (w.alloc (.cells arr t)) A A := fun g hA => ⟨hA, heap_alloc_old w _ g (hS.lt g hA)⟩
  refine ⟨upd ρ σ.nid (some r), ?_, fun n hn => ?_, Names.one _ _ _⟩
  · refine hS.newBlock hf (w' := w.alloc (.cells arr t)) rfl rfl rfl (by simp) (fun g hg => heap_alloc_old w _ g hg) _ r (Nat.le_refl _) ?_ rfl
    exact ⟨⟨arr, (0, 0), heap_alloc_new w _, hR.size, fun _ => rfl, .inl rfl, fun j m hj hm => let ⟨v, x, y, z⟩ := hR.cell j m hj hm; ⟨v, x, y, z.mono kp hr⟩⟩, rfl, Nat.le_refl _, hm, hR.els⟩
  · have := ARep.slc (w := w.alloc (.cells arr t)) (A := A) (ρ := upd ρ σ.nid (some r)) σ.nid es 0 n r (by simp) rfl (by simpa [r] using hn)
    simpa [r] using this

theorem buildSlice_sound (hS : Sim c A ρ σ a w) (hfree : ρ σ.nid = none) {t e : TypeId} {ti : TI} (hu : P.underlying t = some (.slice e)) (hti : tinfo P e = some ti) {len : Nat} (hlen : len * ti.sz ≤ 16777216) (hsz0 : 0 < ti.sz)
    {parts : List (Nat × AV)} {vals : Array (Nat × Value)} (hF : All2 (fun p q => p.1 = q.1 ∧ ARep w A ρ p.2 q.2) parts vals.toList) (h1 : ∀ p ∈ parts, p.2.cells.all avOne = true)
    {els : List AV} (hf : fillL ti.sz (List.replicate len (.d ti.zero)) parts = some els) :
    Yields P c A ρ σ a (Instr.buildSlice t len vals) w ⟨.slc σ.nid ti.sz 0 len, [(σ.nid, some ⟨els, ti.sz, e, true, true⟩)], σ.nid + 1⟩ := by
  obtain ⟨ii, u, z, hii, hu', hz, hzd, hsz, _, _, hzl⟩ := tinfo_parts hti
  obtain ⟨arr, g1, g2, g3⟩ := fillL_sound parts vals.toList _ els _ (zero_row (w := w) (A := A) (ρ := ρ) (n := len) hzd hzl (.inr trivial)) hF h1 hf
  simp only [List.length_replicate] at g3
  have hll : len ≤ 16777216 := Nat.le_trans (Nat.le_mul_of_pos_right _ hsz0) hlen
  obtain ⟨ρ', s1, s2, s3⟩ := newRow_sound hS hfree g2 e (by rw [g3]; simp only [maxLen]; omega)
  refine ⟨.slice (some ⟨w.heap.size, 0, none⟩) len len, w.alloc (.cells arr e), A, ρ', ?_, s1, ?_, s3⟩
  · have hg1 : Instr.fill (fun i => some (i * ii.size, ii.size)) ((Array.range (len * ii.size)).map (z.cells[· % z.cells.size]!)) vals.toList = some arr := by rw [← hsz]; exact g1
    have hle : ¬ (16777216 < len * ii.size) := by rw [← hsz]; omega
    by_cases h0 : len * ii.size = 0
    · have hl0 : len = 0 := by
        rcases Nat.mul_eq_zero.1 h0 with h | h
        · exact h
        · omega
      subst hl0
      have e0 : Array.range 0 = #[] := rfl
      simp only [Nat.zero_mul, e0, Array.map_empty] at hg1
      simp [Instr.buildSlice, run_underlying hu, run_sizeOf' hii, e0, hg1, newRow]
    · simp [Instr.buildSlice, run_underlying hu, run_sizeOf' hii, hle, h0, zeroValue, run_typeInfo' hii, hz, hg1, newRow]
  · have := s2 len (by omega)
    rw [g3] at this; exact this

theorem makeSlice_sound (hS : Sim c A ρ σ a w) (hfree : ρ σ.nid = none) {t e : TypeId} {ti : TI} (hu : P.underlying t = some (.slice e)) (hti : tinfo P e = some ti) {n m : Int} (h0 : 0 ≤ n) (hnm : n ≤ m) (hm : m ≤ big) (hb : ti.bytes ≤ 32768) :
    Yields P c A ρ σ a (Instr.makeSlice t (.int .i64 n) (.int .i64 m)) w ⟨.slc σ.nid ti.sz 0 n.toNat, [(σ.nid, some ⟨List.replicate m.toNat (.d ti.zero), ti.sz, e, true, true⟩)], σ.nid + 1⟩ := by
  obtain ⟨ii, u, z, hii, hu', hz, hzd, hsz, _, hby, hzl⟩ := tinfo_parts hti
  have hR := zero_row (w := w) (A := A) (ρ := ρ) (n := m.toNat) hzd hzl (.inr trivial)
  simp only [big] at hm
  obtain ⟨ρ', s1, s2, s3⟩ := newRow_sound hS hfree hR e (by simp only [List.length_replicate, maxLen]; omega)
  have hbb : (ii.bytes : Int) * m ≤ 281474976710656 := by
    have h1 : (ii.bytes : Int) ≤ 32768 := by omega
    have h2 : (ii.bytes : Int) * m ≤ 32768 * m := Int.mul_le_mul_of_nonneg_right h1 (by omega)
    omega
  have hrun := run_make (P := P) w t e ii z hu hii hz .i64 .i64 n m h0 hnm hbb (by omega)
  refine ⟨.slice (some ⟨w.heap.size, 0, none⟩) n.toNat m.toNat, _, A, ρ', ?_, s1, ?_, s3⟩
  · rw [hrun]; unfold madeCells; rw [hsz]
  · have := s2 n.toNat (by simp; omega)
    simpa using this

structure RowC (w : World) (A : Nat → Prop) (ρ : Nat → Option BR) (cs : List AV) (arr : Array Value) : Prop where
  size : arr.size = cs.length
  cell : ∀ m, m < cs.length → ∃ v, arr[m]? = some v ∧ v.oneCell' = true ∧ ARep w A ρ (cs.getD m .undef) v

theorem fillA_sound {pl : List (Nat × Nat)} : ∀ (parts : List (Nat × AV)) (vals : List (Nat × Value)) (cs cs' : List AV) (arr : Array Value), RowC w A ρ cs arr →
    All2 (fun p q => p.1 = q.1 ∧ ARep w A ρ p.2 q.2) parts vals → (∀ p ∈ parts, p.2.cells.all avOne = true) → fillA pl cs parts = some cs' →
    ∃ arr', Instr.fill (fun i => pl[i]?) arr vals = some arr' ∧ RowC w A ρ cs' arr' ∧ cs'.length = cs.length := by
  intro parts vals cs cs' arr hR hF
  induction hF generalizing cs arr with
  | nil => intro _ h; simp only [fillA, Option.some.injEq] at h; subst h; exact ⟨arr, rfl, hR, rfl⟩
  | @cons p q ps qs hpq hF ih =>
    intro h1 h
    obtain ⟨i, v⟩ := p
    obtain ⟨i', x⟩ := q
    obtain ⟨rfl, hx⟩ := hpq
    have hx : ARep w A ρ v x := hx
    obtain ⟨c1, c2⟩ := avOne_cells (d := v) (v := x) (h1 (i, v) (by simp)) hx
    simp only [fillA] at h
    split at h
    · rename_i off sz hpl
      split at h
      · rename_i hc
        obtain ⟨hl, hfit⟩ := hc
        have hl : v.cells.length = sz := hl
        have hsz := hR.size
        obtain ⟨f1, f2⟩ := fill_fold off x.cells arr
        have hR' : RowC w A ρ (cs.take off ++ v.cells ++ cs.drop (off + v.cells.length)) (x.cells.zipIdx.foldl (fun cs (p : Value × Nat) => cs.setIfInBounds (off + p.2) p.1) arr) := by
          refine ⟨by rw [f1, hsz]; simp only [List.length_append, List.length_take, List.length_drop]; omega, fun m hm => ?_⟩
          have hm : m < cs.length := by simp only [List.length_append, List.length_take, List.length_drop] at hm; omega
          rw [f2]
          by_cases hin : off ≤ m ∧ m < off + v.cells.length
          · rw [if_pos ⟨by omega, by omega, by omega⟩, splice_in _ _ _ _ _ (by omega) hin.1 hin.2]
            have hm' : m - off < x.cells.size := by omega
            exact ⟨x.cells.getD (m - off) undef, by simp [Array.getD, hm'], (c2 _ (by omega)).1, (c2 _ (by omega)).2⟩
          · rw [if_neg (by omega), splice_out _ _ _ _ _ (by omega) (by omega)]
            exact hR.cell m hm
        obtain ⟨arr', g1, g2, g3⟩ := ih _ _ hR' (fun p hp => h1 p (by simp [hp])) h
        refine ⟨arr', ?_, g2, by rw [g3]; simp only [List.length_append, List.length_take, List.length_drop]; omega⟩
        have hpl' : pl[i]? = some (off, sz) := hpl
        simp only [Instr.fill, hpl']
        have e1 : (decide (x.cells.size ≠ sz) || decide (off + x.cells.size > arr.size)) = false := by
          rw [Bool.or_eq_false_iff]; exact ⟨by simp; omega, by simp; omega⟩
        rw [e1]
        exact g1
      · cases h
    · cases h

theorem fill_up {f g : Nat → Option (Nat × Nat)} (h : ∀ i p, f i = some p → g i = some p) : ∀ (vals : List (Nat × Value)) (arr r : Array Value), Instr.fill f arr vals = some r → Instr.fill g arr vals = some r
  | [], arr, r, e => e
  | (i, v) :: rest, arr, r, e => by
    simp only [Instr.fill] at e ⊢
    cases hf : f i with
    | none => simp [hf] at e
    | some p =>
      rw [h i p hf]
      rw [hf] at e
      obtain ⟨off, sz⟩ := p
      simp only at e ⊢
      split at e
      · cases e
      · rename_i hc
        rw [if_neg hc]
        exact fill_up h rest _ r e

theorem build_sound {t : TypeId} {ti : TI} (hti : tinfo P t = some ti) (hagg : ti.agg = true) {pl : List (Nat × Nat)} (hpl : places P t = some pl)
    {parts : List (Nat × AV)} {vals : Array (Nat × Value)} (hF : All2 (fun p q => p.1 = q.1 ∧ ARep w A ρ p.2 q.2) parts vals.toList) (h1 : ∀ p ∈ parts, p.2.cells.all avOne = true)
    {cs : List AV} (hf : fillA pl (ti.zero.cells.map .d) parts = some cs) :
    ∃ x, (Instr.build t vals).run P w = .ok x w ∧ ARep w A ρ (.agg cs) x := by
  obtain ⟨ii, u, z, hii, hu, hz, hzd, hsz, hag, _, hzl⟩ := tinfo_parts hti
  obtain ⟨c1, c2⟩ := (zeroD_rep hzd w A).cells
  have hone := zeroD_one hzd
  have hR0 : RowC w A ρ (ti.zero.cells.map .d) z.cells := by
    refine ⟨by simpa using c1, fun m hm => ?_⟩
    have hm : m < ti.zero.cells.length := by simpa using hm
    have hm' : m < z.cells.size := by omega
    refine ⟨z.cells.getD m undef, by simp [Array.getD, hm'], hone m hm, ?_⟩
    rw [getD_map_d _ _ hm]; exact .d _ _ (c2 m hm)
  obtain ⟨arr, g1, g2, g3⟩ := fillA_sound parts vals.toList _ cs _ hR0 hF h1 hf
  refine ⟨.agg arr, ?_, .agg cs arr g2.size (fun i hi => ?_) (fun i hi => ?_)⟩
  · unfold places at hpl
    split at hpl
    · rename_i fs hu2
      have := run_places (P := P) w _ _ hpl
      simp [Instr.build, run_underlying hu2, zeroValue, run_typeInfo' hii, hz, Array.mapM_eq_mapM_toList, this, g1]
    · rename_i n e hu2
      cases hie : P.info? e with
      | none => simp [hie] at hpl
      | some ie =>
        simp only [hie, Option.map_some, Option.some.injEq] at hpl
        have g1' := fill_up (g := fun i => some (i * ie.size, ie.size)) (fun i p hp => by
          subst hpl
          simp only [List.getElem?_map, List.getElem?_range] at hp
          cases hi : (List.range n)[i]? with
          | none => simp [hi] at hp
          | some j =>
            have : j = i := by
              have := List.getElem?_eq_some_iff.1 hi
              obtain ⟨q1, q2⟩ := this
              simp at q2; exact q2.symm
            subst this
            simp [hi] at hp
            simpa using hp) _ _ _ g1
        simp [Instr.build, run_underlying hu2, run_sizeOf' hie, zeroValue, run_typeInfo' hii, hz, g1']
    · cases hpl
  · obtain ⟨v, q1, q2, q3⟩ := g2.cell i hi; rw [getElem?_of_get q1]; exact q2
  · obtain ⟨v, q1, q2, q3⟩ := g2.cell i hi; rw [getElem?_of_get q1]; exact q3
end
end Go.Proofs.Am
