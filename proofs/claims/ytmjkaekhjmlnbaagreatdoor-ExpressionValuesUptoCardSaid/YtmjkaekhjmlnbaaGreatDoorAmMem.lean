/- Loads and stores of local blocks; blocks that literals and make build. -/
import Derived.Test.YtmjkaekhjmlnbaaGreatDoorAmStep
set_option linter.unusedVariables false
set_option linter.unusedSimpArgs false
namespace Go.Proofs.Am
open Go Go.RowKit

section
variable {P : Program} {c : Ctx} {A : Nat → Prop} {ρ : Nat → Option BR} {σ : St} {a : Act} {w : World}

theorem getElem?_of_get {cur : Array Value} {i : Nat} {v : Value} (h : cur[i]? = some v) : cur.getD i undef = v := by
  obtain ⟨hi, e⟩ := Array.getElem?_eq_some_iff.1 h
  simp [Array.getD, hi, e]

theorem load_loc_sound (hS : Sim c A ρ σ a w) {t : TypeId} {ti : TI} (hti : tinfo P t = some ti) {b es i fo : Nat} {x : Value} (hx : ARep w A ρ (.loc b es i fo) x)
    {k : LB} (hk : σ.lh b = some k) (hi : i < k.els.length) {v : AV} (h : aload ti (k.els.getD i .undef) fo = some v) :
    ∃ y, (Instr.loadAt t x).run P w = .ok y w ∧ ARep w A ρ v y := by
  cases hx with
  | loc _ _ _ _ r hr he =>
    obtain ⟨⟨cur, fr, h1, h2, h3, h4, h5⟩, hes, hlen, hcap, hels⟩ := hS.blk b r k hr hk
    have hl := hels i hi
    have cell : ∀ m, m < (k.els.getD i .undef).cells.length → ∃ v, w.cell? ⟨r.g, i * es + m, none⟩ = some v ∧ v.oneCell' = true ∧ ARep w A ρ ((k.els.getD i .undef).cells.getD m .undef) v := fun m hm => by
      obtain ⟨v, q1, q2, q3⟩ := h5 i m hi (by omega)
      refine ⟨v, ?_, q2, q3⟩
      rw [cell_of_row w r.g _ cur k.ty fr h1, ← he, hes]; exact q1
    have f : ∀ m, m < (k.els.getD i .undef).cells.length → w.cell? ⟨r.g, i * es + m, none⟩ = some (cur.getD (i * es + m) undef) := fun m hm => by
      obtain ⟨v, q1, _⟩ := cell m hm
      have q := q1
      rw [cell_of_row w r.g _ cur k.ty fr h1] at q
      rw [q1, getElem?_of_get q]
    obtain ⟨y, hy, hv⟩ := aload_sound (P := P) hti (k.els.getD i .undef) r.g (i * es) fo (fun m => cur.getD (i * es + m) undef) f
      (fun m hm => by obtain ⟨v, q1, q2, q3⟩ := cell m hm; rw [f m hm] at q1; cases q1; exact q2)
      (fun m hm => by obtain ⟨v, q1, q2, q3⟩ := cell m hm; rw [f m hm] at q1; cases q1; exact q3) h
    exact ⟨y, by simpa [Instr.loadAt, Instr.sureAddr] using hy, hv⟩

theorem load_pim_sound {t : TypeId} {ti : TI} (hti : tinfo P t = some ti) {els : List DV} {i fo : Nat} {x : Value} (hx : ARep w A ρ (.d (.pim els i fo)) x)
    {v : DV} (h : dload ti (els.getD i .inil) fo = some v) :
    ∃ y, (Instr.loadAt t x).run P w = .ok y w ∧ ARep w A ρ (.d v) y := by
  have hx := hx.ofD
  cases hx with
  | pim _ _ _ cc o es val hi hA hes hc hone hv =>
    have e := hes i hi
    obtain ⟨y, hy, hd⟩ := dload_sound (P := P) hti (els.getD i .inil) cc (o + i * es) fo (fun m => val i m) (fun m hm => hc i m hi (by omega)) (fun m hm => hone i m hi (by omega)) (fun m hm => hv i m hi (by omega)) h
    exact ⟨y, by simpa [Instr.loadAt, Instr.sureAddr] using hy, .d _ _ hd⟩

/-- Cells stored one by one. -/
theorem run_storeCells_row (g o : Nat) (ty : TypeId) (fr : Nat × Nat) : ∀ (vs : List Value) (i : Nat) (cur : Array Value) (w : World), w.heap[g]? = some (.cells cur ty fr) → (fr.1 = fr.2 ∨ cur.size ≤ fr.1) →
    o + i + vs.length ≤ cur.size → (∀ v ∈ vs, v.oneCell' = true) →
    ∃ w' cur', (storeCells ⟨g, o, none⟩ vs i).run P w = .ok () w' ∧ w'.heap[g]? = some (.cells cur' ty fr) ∧ cur'.size = cur.size ∧
      (∀ j, cur'[j]? = if o + i ≤ j ∧ j < o + i + vs.length then vs[j - (o + i)]? else cur[j]?) ∧ (∀ k, k ≠ g → w'.heap[k]? = w.heap[k]?) ∧ w'.heap.size = w.heap.size ∧ w'.os = w.os ∧ w'.tape = w.tape ∧ w'.output = w.output
  | [], i, cur, w, hg, _, _, _ => ⟨w, cur, rfl, hg, rfl, fun j => by rw [if_neg (by simp only [List.length_nil]; omega)], fun _ _ => rfl, rfl, rfl, rfl, rfl⟩
  | v :: r, i, cur, w, hg, hfr, hl, h1 => by
    have hi : o + i < cur.size := by simp at hl; omega
    have hcell : w.cell? ⟨g, o + i, none⟩ = some cur[o + i] := by simp [World.cell?, hg, hi]
    have hfro : w.frozen? ⟨g, o + i, none⟩ = false := by
      simp only [World.frozen?, hg]
      rcases hfr with h | h
      · rw [h]; simp only [Bool.and_eq_false_imp, decide_eq_true_eq, decide_eq_false_iff_not]; omega
      · simp only [Bool.and_eq_false_imp, decide_eq_true_eq, decide_eq_false_iff_not]; omega
    have hst : (store ((⟨g, o, none⟩ : Addr).add i) v).run P w = .ok () (w.setCell ⟨g, o + i, none⟩ v) := by
      rw [add_at, run_store P w _ v _ (h1 v (by simp)), hcell]
      simp [hfro]
    have hg' : (w.setCell ⟨g, o + i, none⟩ v).heap[g]? = some (.cells (cur.setIfInBounds (o + i) v) ty fr) := by
      have hlt := (Array.getElem?_eq_some_iff.1 hg).1
      have e := (Array.getElem?_eq_some_iff.1 hg).2
      simp [World.setCell, Array.getElem?_modify, hg]
    obtain ⟨w', cur', q1, q2, q3, q4, q5, q6, q7, q8, q9⟩ := run_storeCells_row g o ty fr r (i + 1) (cur.setIfInBounds (o + i) v) (w.setCell ⟨g, o + i, none⟩ v) hg' (by simpa using hfr) (by simp at hl ⊢; omega) (fun x hx => h1 x (by simp [hx]))
    refine ⟨w', cur', ?_, q2, by simpa using q3, fun j => ?_, fun k hk => ?_, ?_, q7, q8, q9⟩
    · simp only [storeCells, Sem.run_bind, hst, Result.andThen_ok, q1]
    · rw [q4 j]
      by_cases hj : j = o + i
      · subst hj
        rw [if_neg (by omega), if_pos ⟨by omega, by simp only [List.length_cons]; omega⟩]
        simp [Array.getElem?_setIfInBounds, hi]
      · by_cases hin : o + (i + 1) ≤ j ∧ j < o + (i + 1) + r.length
        · rw [if_pos hin, if_pos ⟨by omega, by simp only [List.length_cons]; omega⟩]
          rw [show j - (o + i) = (j - (o + (i + 1))) + 1 by omega]; simp
        · rw [if_neg hin, if_neg (by simp only [List.length_cons]; omega), Array.getElem?_setIfInBounds, if_neg (by omega)]
    · rw [q5 k hk, heap_setCell_other w _ k v hk]
    · rw [q6]; simp

/-- A block of the call's own changed in place. -/
theorem Sim.change (hS : Sim c A ρ σ a w) {w' : World} (ho : w'.os = w.os) (ht : w'.tape = w.tape) (hout : w'.output = w.output) (hsz : w'.heap.size = w.heap.size)
    {b : Nat} {r : BR} {k k' : LB} (hr : ρ b = some r) (hk : σ.lh b = some k) (hlive : k.live = true) (hold : ∀ g, g ≠ r.g → w'.heap[g]? = w.heap[g]?)
    (hB : Keeps w w' A A → BRep w' A ρ k' r) (hl' : k'.live = true) :
    Sim c A ρ { σ with lh := upd σ.lh b (some k') } a w' := by
  obtain ⟨hA, hO⟩ := hS.own b r k hr hk hlive
  have kp : Keeps w w' A A := fun g hg => ⟨hg, hold g (fun e => hA (e ▸ hg))⟩
  have look : ∀ b1 k1, upd σ.lh b (some k') b1 = some k1 → (b1 = b ∧ k1 = k') ∨ (b1 ≠ b ∧ σ.lh b1 = some k1) := fun b1 k1 h => by
    by_cases e : b1 = b
    · subst e; simp at h; exact .inl ⟨rfl, h.symm⟩
    · rw [upd_ne _ _ _ _ e] at h; exact .inr ⟨e, h⟩
  have some1 : ∀ b1, (upd σ.lh b (some k') b1).isSome = true → (σ.lh b1).isSome = true := fun b1 h => by
    by_cases e : b1 = b
    · subst e; simp [hk]
    · rwa [upd_ne _ _ _ _ e] at h
  refine { size := hS.size, defers := hS.defers.mono kp (fun _ _ h => h), env := fun t => (hS.env t).mono kp (fun _ _ h => h), blk := ?_, inj := fun b1 r1 b2 r2 h1 h2 s1 s2 hg => hS.inj b1 r1 b2 r2 h1 h2 (some1 _ s1) (some1 _ s2) hg, own := ?_, dead := ?_, lt := fun g hg => by rw [hsz]; exact hS.lt g hg, up := hS.up, new := hS.new, os := ho.trans hS.os, tape := ht.trans hS.tape, output := hout.trans hS.output, hsize := by rw [hsz]; exact hS.hsize, frame := ?_ }
  · intro b1 r1 k1 h1 hk1
    rcases look b1 k1 hk1 with ⟨rfl, rfl⟩ | ⟨e, h⟩
    · rw [hr] at h1; cases h1; exact hB kp
    · have hne : r1.g ≠ r.g := fun eg => e (hS.inj b1 r1 b r h1 hr (by simp [h]) (by simp [hk]) eg)
      exact (hS.blk b1 r1 k1 h1 h).mono kp (fun _ _ h => h) (hold _ hne)
  · intro b1 r1 k1 h1 hk1 hl1
    rcases look b1 k1 hk1 with ⟨rfl, rfl⟩ | ⟨e, h⟩
    · rw [hr] at h1; cases h1; exact ⟨hA, hO⟩
    · exact hS.own b1 r1 k1 h1 h hl1
  · intro b1 r1 k1 h1 hk1 hl1
    rcases look b1 k1 hk1 with ⟨rfl, rfl⟩ | ⟨e, h⟩
    · rw [hl'] at hl1; cases hl1
    · exact hS.dead b1 r1 k1 h1 h hl1
  · intro g hg hOg
    by_cases e : g = r.g
    · rcases hO with h | h
      · exact absurd (e ▸ h) hOg
      · omega
    · rw [hold g e]; exact hS.frame g hg hOg

theorem run_storeVar' {t : TypeId} {i : TypeInfo} (hi : P.info? t = some i) (v : Value) (hv : v.cells.size = i.size) (ad : Addr) (w : World) :
    (storeVar t ad v).run P w = (storeCells ad v.cells.toList).run P w := by
  simp [storeVar, run_sizeOf' hi, hv]

theorem splice_in {α : Type} (l v : List α) (fo m : Nat) (d : α) (h : fo ≤ l.length) (h1 : fo ≤ m) (h2 : m < fo + v.length) :
    (l.take fo ++ v ++ l.drop (fo + v.length)).getD m d = v.getD (m - fo) d := by
  have ht : (l.take fo).length = fo := by simp only [List.length_take]; omega
  simp only [List.getD_eq_getElem?_getD]
  rw [List.append_assoc, List.getElem?_append_right (by omega), ht, List.getElem?_append_left (by omega)]

theorem splice_out {α : Type} (l v : List α) (fo m : Nat) (d : α) (h : fo + v.length ≤ l.length) (h1 : m < fo ∨ fo + v.length ≤ m) :
    (l.take fo ++ v ++ l.drop (fo + v.length)).getD m d = l.getD m d := by
  have ht : (l.take fo).length = fo := by simp only [List.length_take]; omega
  simp only [List.getD_eq_getElem?_getD]
  by_cases hlt : m < fo
  · rw [List.append_assoc, List.getElem?_append_left (by omega), List.getElem?_take, if_pos hlt]
  · rw [List.append_assoc, List.getElem?_append_right (by omega), ht, List.getElem?_append_right (by omega), List.getElem?_drop]
    congr 2; omega

theorem astore_cells {e v : AV} {fo : Nat} (h : fo + v.cells.length ≤ e.cells.length) :
    (astore e fo v).cells = e.cells.take fo ++ v.cells ++ e.cells.drop (fo + v.cells.length) := by
  unfold astore
  split
  · rename_i hc
    obtain ⟨rfl, hl, _⟩ := hc
    simp [hl]
  · rfl

theorem store_sound (hS : Sim c A ρ σ a w) {t : TypeId} {ti : TI} (hti : tinfo P t = some ti) {b es i fo : Nat} {x : Value} (hx : ARep w A ρ (.loc b es i fo) x)
    {k : LB} (hk : σ.lh b = some k) (hlive : k.live = true) (hi : i < k.els.length) {v : AV} {y : Value} (hy : ARep w A ρ v y) (hvl : v.cells.length = ti.sz) (hv1 : v.cells.all avOne = true) (hfo : fo + ti.sz ≤ k.es) :
    ∃ w', (Instr.storeAt t x y).run P w = .ok () w' ∧ Sim c A ρ { σ with lh := upd σ.lh b (some { k with els := k.els.set i (astore (k.els.getD i .undef) fo v) }) } a w' := by
  obtain ⟨ii, u, z, hii, hu, _, _, hsz, _⟩ := tinfo_parts hti
  obtain ⟨c1, c2⟩ := avOne_cells hv1 hy
  cases hx with
  | loc _ _ _ _ r hr he =>
    obtain ⟨⟨cur, fr, h1, h2, h3, h4, h5⟩, hes, hlen, hcap, hels⟩ := hS.blk b r k hr hk
    have hl := hels i hi
    have hee : es = k.es := by omega
    subst hee
    have hfit : i * k.es + fo + ti.sz ≤ cur.size := by
      rw [h2, hes]
      have : (i + 1) * k.es ≤ r.cap * k.es := Nat.mul_le_mul_right _ (by omega)
      rw [Nat.add_mul] at this; omega
    have hsz' : y.cells.toList.length = ti.sz := by simp; omega
    obtain ⟨w', cur', q1, q2, q3, q4, q5, q6, q7, q8, q9⟩ := run_storeCells_row (P := P) r.g (i * k.es + fo) k.ty fr y.cells.toList 0 cur w h1 h4 (by omega)
      (fun u hu => by
        obtain ⟨j, hj, rfl⟩ := List.mem_iff_getElem.1 hu
        have hj' : j < y.cells.size := by simpa using hj
        have := (c2 j (by omega)).1
        simpa [Array.getD, hj'] using this)
    refine ⟨w', by simpa [Instr.storeAt, Instr.sureAddr, run_storeVar' hii y (by omega)] using q1, ?_⟩
    refine hS.change q7 q8 q9 q6 hr hk hlive q5 (fun kp => ?_) hlive
    have ac := astore_cells (e := k.els.getD i .undef) (v := v) (fo := fo) (by omega)
    have acl : (astore (k.els.getD i .undef) fo v).cells.length = k.es := by rw [ac]; simp only [List.length_append, List.length_take, List.length_drop]; omega
    refine ⟨⟨cur', fr, q2, by rw [q3, h2], h3, by rw [q3]; exact h4, ?_⟩, hes, by simpa using hlen, hcap, ?_⟩
    · intro j m hj hm
      have hm : m < k.es := hm
      simp only [List.length_set] at hj
      have q4' := q4 (j * k.es + m)
      simp only [Nat.add_zero, hsz'] at q4'
      by_cases hji : j = i
      · subst hji
        have eg : (k.els.set j (astore (k.els.getD j .undef) fo v)).getD j .undef = astore (k.els.getD j .undef) fo v := by simp [List.getD, hj]
        rw [eg, ac]
        by_cases hin : fo ≤ m ∧ m < fo + ti.sz
        · rw [if_pos ⟨by omega, by omega⟩] at q4'
          have hm' : m - fo < v.cells.length := by omega
          have hm'' : m - fo < y.cells.size := by omega
          refine ⟨y.cells.getD (m - fo) undef, ?_, (c2 _ hm').1, ?_⟩
          · rw [q4', show j * k.es + m - (j * k.es + fo) = m - fo by omega]
            simp [Array.getD, hm'']
          · have e2 := splice_in (k.els.getD j .undef).cells v.cells fo m .undef (by omega) hin.1 (by omega)
            rw [e2]
            exact ((c2 _ hm').2).mono kp (fun _ _ h => h)
        · rw [if_neg (by omega)] at q4'
          obtain ⟨u', p1, p2, p3⟩ := h5 j m hj hm
          refine ⟨u', by rw [q4']; exact p1, p2, ?_⟩
          have e2 := splice_out (k.els.getD j .undef).cells v.cells fo m .undef (by omega) (by omega)
          rw [e2]; exact p3.mono kp (fun _ _ h => h)
      · have eg : (k.els.set i (astore (k.els.getD i .undef) fo v)).getD j .undef = k.els.getD j .undef := by simp [List.getD, List.getElem?_set, Ne.symm hji]
        rw [eg]
        obtain ⟨u', p1, p2, p3⟩ := h5 j m hj hm
        refine ⟨u', ?_, p2, p3.mono kp (fun _ _ h => h)⟩
        rw [q4', if_neg ?_]
        · exact p1
        · rcases Nat.lt_or_gt_of_ne hji with hlt | hgt
          · have : (j + 1) * k.es ≤ i * k.es := Nat.mul_le_mul_right _ hlt
            rw [Nat.add_mul] at this; omega
          · have : (i + 1) * k.es ≤ j * k.es := Nat.mul_le_mul_right _ hgt
            rw [Nat.add_mul] at this; omega
    · intro j hj
      simp only [List.length_set] at hj
      by_cases hji : j = i
      · subst hji
        have eg : (k.els.set j (astore (k.els.getD j .undef) fo v)).getD j .undef = astore (k.els.getD j .undef) fo v := by simp [List.getD, hj]
        rw [eg]; exact acl
      · have eg : (k.els.set i (astore (k.els.getD i .undef) fo v)).getD j .undef = k.els.getD j .undef := by simp [List.getD, List.getElem?_set, Ne.symm hji]
        rw [eg]; exact hels j hj
end
end Go.Proofs.Am
