/- append. -/
import Derived.Test.YtmjkaekhjmlnbaaGreatDoorAmBuild
import Derived.Maps.AppendAt
set_option linter.unusedVariables false
set_option linter.unusedSimpArgs false
namespace Go.Proofs.Am
open Go Go.RowKit

section
variable {P : Program} {c : Ctx} {A : Nat → Prop} {ρ : Nat → Option BR} {σ : St} {a : Act} {w : World}

/-- The elements of a source: their cells as the memory holds them. -/
structure Source (w : World) (A : Nat → Prop) (ρ : Nat → Option BR) (es : Nat) (els : List AV) (ad : Addr) (news : List Value) : Prop where
  len : news.length = els.length * es
  mem : ∀ j u, news[j]? = some u → w.cell? (ad.add j) = some u
  one : ∀ u ∈ news, u.oneCell' = true
  rep : ∀ j m, j < els.length → m < es → ∃ v, news[j * es + m]? = some v ∧ ARep w A ρ ((els.getD j .undef).cells.getD m .undef) v
  els : ∀ j, j < els.length → (els.getD j .undef).cells.length = es

theorem source_of {es c0 o : Nat} {els : List AV} {ad : Addr} (val : Nat → Nat → Value) (ha : 0 < els.length → ad = ⟨c0, o, none⟩)
    (hc : ∀ j m, j < els.length → m < es → w.cell? ⟨c0, o + j * es + m, none⟩ = some (val j m))
    (hone : ∀ j m, j < els.length → m < es → (val j m).oneCell' = true)
    (hv : ∀ j m, j < els.length → m < es → ARep w A ρ ((els.getD j .undef).cells.getD m .undef) (val j m))
    (hes : ∀ j, j < els.length → (els.getD j .undef).cells.length = es) :
    ∃ news, Source w A ρ es els ad news := by
  have at_ : ∀ i, i < els.length * es → ∃ j m, j < els.length ∧ m < es ∧ i = j * es + m ∧ i / es = j ∧ i % es = m := fun i hi => by
    have hpos : 0 < es := by
      rcases Nat.eq_zero_or_pos es with h | h
      · subst h; simp at hi
      · exact h
    exact ⟨i / es, i % es, Nat.div_lt_of_lt_mul (by rw [Nat.mul_comm]; exact hi), Nat.mod_lt _ hpos, (Nat.div_add_mod' i es).symm, rfl, rfl⟩
  refine ⟨(List.range (els.length * es)).map fun i => val (i / es) (i % es), by simp, fun j u hu => ?_, fun u hu => ?_, fun j m hj hm => ?_, hes⟩
  · have hj : j < els.length * es := by
      have := (List.getElem?_eq_some_iff.1 hu).1; simpa using this
    simp [hj] at hu
    obtain ⟨x, m, hx, hm, rfl, e1, e2⟩ := at_ j hj
    rw [ha (by omega), add_at, ← Nat.add_assoc, hc x m hx hm]
    rw [e1, e2] at hu; rw [hu]
  · simp at hu
    obtain ⟨i, hi, rfl⟩ := hu
    obtain ⟨x, m, hx, hm, _, e1, e2⟩ := at_ i hi
    rw [e1, e2]; exact hone x m hx hm
  · have hlt := mul_lt_of hj hm
    have hpos : 0 < es := by omega
    refine ⟨val j m, ?_, hv j m hj hm⟩
    have e1 : (j * es + m) / es = j := by rw [Nat.mul_comm, Nat.mul_add_div hpos]; simp [Nat.div_eq_of_lt hm]
    have e2 : (j * es + m) % es = m := by rw [Nat.mul_comm, Nat.mul_add_mod]; exact Nat.mod_eq_of_lt hm
    simp [hlt, e1, e2]

/-- Appended: the world, the new row. -/
theorem append_run {t t' ty e : TypeId} {ti : TI} (hu : P.underlying t = some (.slice e)) {e' : TypeId} (hu' : P.underlying t' = some (.slice e')) (hti : tinfo P e = some ti) (h0 : 0 < ti.sz) (hby : ti.bytes ≤ 32768)
    (v : Value) (n : Nat) (xs : List Value) (hown : w.ownsRow 0 e ti.sz v n xs) (ad : Addr) (m cc : Nat) (news : List Value) (hl : news.length = m * ti.sz)
    (hnews : ∀ j u, news[j]? = some u → w.cell? (ad.add j) = some u) (h1 : ∀ u ∈ news, u.oneCell' = true) (hb : n + m ≤ big) :
    ∃ v' w', (Builtin.append_ #[t, t'] ty #[v, .slice (some ad) m cc]).run P w = .ok v' w' ∧ w'.ownsRow 0 e ti.sz v' (n + m) (xs ++ news) ∧ w.grownBy w' v.ownBlock ∧
      (v' = .slice none 0 0 ↔ v = .slice none 0 0 ∧ m = 0) ∧ (v'.ownBlock = v.ownBlock ∨ v'.ownBlock = some w.heap.size) := by
  obtain ⟨ii, u, z, hii, hu2, hz, hzd, hsz, _, hbyt, hzl⟩ := tinfo_parts hti
  have hzs : z.cells.size = ti.sz := by rw [(zeroD_rep hzd w (fun _ => True)).cells.1, hzl]
  simp only [big] at hb
  have hbb : (n + m) * ii.bytes ≤ 140737488355328 := by
    have : (n + m) * ii.bytes ≤ 4294967296 * 32768 := Nat.mul_le_mul hb (by omega)
    omega
  have := run_append_own_at (P := P) w 0 t ty e ii z ti.sz ii.bytes hu hii hz hsz.symm rfl hzs h0 v n xs hown ad m cc news hl hnews h1 (by simp only [maxLen]; omega) hbb (by omega)
  have e1 : (Builtin.append_ #[t, t'] ty #[v, .slice (some ad) m cc]).run P w = (Builtin.append_ #[t, t] ty #[v, .slice (some ad) m cc]).run P w := by
    rcases hown.2 with ⟨rfl, _⟩ | ⟨g, cap, cur, rfl, _⟩ <;> simp [Builtin.append_, run_underlying hu, run_underlying hu', Builtin.lenOf]
  rw [e1]; exact this

def oldRow (σ : St) (ρ : Nat → Option BR) : Option Nat → Option Nat → Prop
  | none, row => row = none
  | some b, row => ∃ r k, ρ b = some r ∧ σ.lh b = some k ∧ k.live = true ∧ row = some r.g

def kill (lh : Nat → Option LB) : Option Nat → Nat → Option LB
  | none => lh
  | some b => upd lh b none

/-- The new row as a local block; the old one, if there was one, is given up. -/
theorem append_sim (hS : Sim c A ρ σ a w) (hf : ρ σ.nid = none) {w' : World} {e : TypeId} {es : Nat} {els : List AV} (old : Option Nat) (row : Option Nat)
    (hold : oldRow σ ρ old row)
    (hg : w.grownBy w' row) {g cap : Nat} {cur : Array Value} (hh : w'.heap[g]? = some (.cells cur e (0, 0))) (hnc : els.length ≤ cap) (hcm : cap ≤ maxLen) (hcs : cur.size = cap * es)
    (hgg : some g = row ∨ g = w.heap.size)
    (hcell : Keeps w w' A A → ∀ j m, j < els.length → m < es → ∃ v, cur[j * es + m]? = some v ∧ v.oneCell' = true ∧ ARep w' A ρ ((els.getD j .undef).cells.getD m .undef) v)
    (hels : ∀ j, j < els.length → (els.getD j .undef).cells.length = es) :
    ∃ ρ', Sim c A ρ' { σ with lh := upd (kill σ.lh old) σ.nid (some ⟨els, es, e, true, true⟩), nid := σ.nid + 1 } a w' ∧
      (∀ n, n ≤ cap → ARep w' A ρ' (.slc σ.nid es 0 n) (.slice (some ⟨g, 0, none⟩) n cap)) ∧ Names ρ ρ' σ.nid (σ.nid + 1) := by
  let r0 : BR := ⟨g, cap, es⟩
  have fresh : ∀ b r, ρ b = some r → b ≠ σ.nid := fun b r h e => by rw [e, hf] at h; cases h
  have hr : ∀ b r', ρ b = some r' → upd ρ σ.nid (some r0) b = some r' := fun b r' h => by rw [upd_ne _ _ _ _ (fresh b r' h)]; exact h
  have hnotA : ∀ gg, row = some gg → ¬ A gg ∧ (c.O0 gg ∨ c.w0.heap.size ≤ gg) ∧ gg < w.heap.size := fun gg e1 => by
    cases old with
    | none => simp only [oldRow] at hold; rw [hold] at e1; cases e1
    | some b =>
      obtain ⟨r, k, p1, p2, p3, p4⟩ := hold
      rw [p4] at e1; cases e1
      exact ⟨(hS.own b r k p1 p2 p3).1, (hS.own b r k p1 p2 p3).2, hS.g_lt p1 p2⟩
  have same : ∀ gg, gg < w.heap.size → some gg ≠ row → w'.heap[gg]? = w.heap[gg]? := hg.block
  have kp : Keeps w w' A A := fun gg hA => ⟨hA, same gg (hS.lt gg hA) (fun e1 => (hnotA gg e1.symm).1 hA)⟩
  have back : ∀ b r', upd ρ σ.nid (some r0) b = some r' → (b = σ.nid ∧ r' = r0) ∨ (b ≠ σ.nid ∧ ρ b = some r') := fun b r' h => by
    by_cases e1 : b = σ.nid
    · subst e1; simp at h; exact .inl ⟨rfl, h.symm⟩
    · rw [upd_ne _ _ _ _ e1] at h; exact .inr ⟨e1, h⟩
  have look : ∀ b, b ≠ σ.nid → ∀ k, upd (kill σ.lh old) σ.nid (some ⟨els, es, e, true, true⟩) b = some k → σ.lh b = some k ∧ some b ≠ old := fun b hb k h => by
    rw [upd_ne _ _ _ _ hb] at h
    cases old with
    | none => exact ⟨h, by simp⟩
    | some b0 =>
      simp only [kill] at h
      by_cases e1 : b = b0
      · subst e1; simp at h
      · rw [upd_ne _ _ _ _ e1] at h; exact ⟨h, by simpa using e1⟩
  have gne : ∀ b r1 k1, ρ b = some r1 → σ.lh b = some k1 → some b ≠ old → r1.g ≠ g ∧ some r1.g ≠ row := fun b r1 k1 p1 p2 p3 => by
    have q : some r1.g ≠ row := fun e1 => by
      cases old with
      | none => simp only [oldRow] at hold; rw [hold] at e1; cases e1
      | some b0 =>
        obtain ⟨r, k, s1, s2, s3, s4⟩ := hold
        have e2 : r1.g = r.g := by rw [s4] at e1; simpa using e1
        exact p3 (by rw [hS.inj b r1 b0 r p1 s1 (by simp [p2]) (by simp [s2]) e2])
    refine ⟨fun e1 => ?_, q⟩
    rcases hgg with h | h
    · exact q (by rw [e1]; exact h)
    · have := hS.g_lt p1 p2; omega
  have hglt : g < w'.heap.size := (Array.getElem?_eq_some_iff.1 hh).1
  have hgA : ¬ A g ∧ (c.O0 g ∨ c.w0.heap.size ≤ g) := by
    rcases hgg with h | h
    · exact ⟨(hnotA g h.symm).1, (hnotA g h.symm).2.1⟩
    · exact ⟨fun hA => by have := hS.lt g hA; omega, .inr (by rw [h]; exact hS.hsize)⟩
  refine ⟨upd ρ σ.nid (some r0), ?_, fun n hn => ?_, Names.one _ _ _⟩
  · refine { size := hS.size, defers := hS.defers.mono kp hr, env := fun t => (hS.env t).mono kp hr, blk := ?_, inj := ?_, own := ?_, dead := ?_, lt := fun gg hA => Nat.lt_of_lt_of_le (hS.lt gg hA) hg.size, up := hS.up, new := hS.new, os := hg.os.trans hS.os, tape := hg.tape.trans hS.tape, output := hg.output.trans hS.output, hsize := Nat.le_trans hS.hsize hg.size, frame := ?_ }
    · intro b r' k' h hk
      rcases back b r' h with ⟨eb, er⟩ | ⟨eb, hq⟩
      · subst er; subst eb
        simp at hk; subst hk
        exact ⟨⟨cur, (0, 0), hh, hcs, fun _ => rfl, .inl rfl, fun j m hj hm => let ⟨v, x, y, z⟩ := hcell kp j m hj hm; ⟨v, x, y, z.mono (Keeps.refl _ _) hr⟩⟩, rfl, hnc, hcm, hels⟩
      · obtain ⟨l1, l2⟩ := look b eb k' hk
        exact (hS.blk b r' k' hq l1).mono kp hr (same _ (hS.g_lt hq l1) (gne b r' k' hq l1 l2).2)
    · intro b r1 b' r2 h h' hs hs' hge
      obtain ⟨k1, hk1⟩ := Option.isSome_iff_exists.1 hs
      obtain ⟨k2, hk2⟩ := Option.isSome_iff_exists.1 hs'
      rcases back b r1 h with ⟨eb, er⟩ | ⟨eb, hq⟩ <;> rcases back b' r2 h' with ⟨eb', er'⟩ | ⟨eb', hq'⟩
      · exact eb.trans eb'.symm
      · obtain ⟨l1, l2⟩ := look b' eb' k2 hk2
        exact absurd (by rw [← hge, er]) (gne b' r2 k2 hq' l1 l2).1
      · obtain ⟨l1, l2⟩ := look b eb k1 hk1
        exact absurd (by rw [hge, er']) (gne b r1 k1 hq l1 l2).1
      · obtain ⟨l1, l2⟩ := look b eb k1 hk1
        obtain ⟨l1', l2'⟩ := look b' eb' k2 hk2
        exact hS.inj b r1 b' r2 hq hq' (by simp [l1]) (by simp [l1']) hge
    · intro b r1 k1 h hk hl
      rcases back b r1 h with ⟨eb, er⟩ | ⟨eb, hq⟩
      · subst er; exact hgA
      · obtain ⟨l1, l2⟩ := look b eb k1 hk
        exact hS.own b r1 k1 hq l1 hl
    · intro b r1 k1 h hk hl
      rcases back b r1 h with ⟨eb, er⟩ | ⟨eb, hq⟩
      · subst eb; simp at hk; subst hk; cases hl
      · obtain ⟨l1, l2⟩ := look b eb k1 hk
        exact hS.dead b r1 k1 hq l1 hl
    · intro gg hgl hO
      rw [same gg (Nat.lt_of_lt_of_le hgl hS.hsize) (fun e1 => ?_)]
      · exact hS.frame gg hgl hO
      · rcases (hnotA gg e1.symm).2.1 with h | h
        · exact hO h
        · omega
  · have := ARep.slc (w := w') (A := A) (ρ := upd ρ σ.nid (some r0)) σ.nid es 0 n r0 (by simp) rfl (by simpa [r0] using hn)
    simpa [r0] using this

theorem slice_form (v : Value) {e : TypeId} {es n : Nat} {xs : List Value} (h : w.ownsRow 0 e es v n xs) (hne : v ≠ .slice none 0 0) :
    ∃ g cap cur, v = .slice (some ⟨g, 0, none⟩) n cap ∧ w.heap[g]? = some (.cells cur e (0, 0)) ∧ n ≤ cap ∧ cap ≤ maxLen ∧ cur.size = cap * es ∧ cur.toList.take (n * es) = xs := by
  rcases h.2 with ⟨h1, _⟩ | ⟨g, cap, cur, h1, _, h2, h3, h4, h5, h6⟩
  · exact absurd h1 hne
  · exact ⟨g, cap, cur, h1, h2, h3, h4, h5, h6⟩

theorem cells_of_take {cur : Array Value} {n es : Nat} {xs : List Value} (h : cur.toList.take (n * es) = xs) {i : Nat} (hi : i < n * es) : cur[i]? = xs[i]? := by
  rw [← h, List.getElem?_take, if_pos hi]; simp

/-- The general step: a source appended to a row of the call's own, or to nil. -/
theorem append_step (hS : Sim c A ρ σ a w) (hf : ρ σ.nid = none) {t t' ty e e' : TypeId} {ti : TI} (hu : P.underlying t = some (.slice e)) (hu' : P.underlying t' = some (.slice e')) (hti : tinfo P e = some ti) (h0 : 0 < ti.sz) (hby : ti.bytes ≤ 32768)
    {xels : List AV} {ad : Addr} {news : List Value} (hsrc : Source w A ρ ti.sz xels ad news) (cc : Nat) (old : Option Nat) (sv : Value) (sels : List AV)
    (hold : match old with
      | none => sv = .slice none 0 0 ∧ sels = []
      | some b => ∃ r k len, ρ b = some r ∧ σ.lh b = some k ∧ k.live = true ∧ k.plain = true ∧ k.ty = e ∧ k.es = ti.sz ∧ len ≤ k.els.length ∧ sels = k.els.take len ∧ sv = .slice (some ⟨r.g, 0, none⟩) len r.cap)
    (hb : sels.length + xels.length ≤ big) (hne : old = none → xels ≠ []) :
    Yields P c A ρ σ a (Builtin.append_ #[t, t'] ty #[sv, .slice (some ad) xels.length cc]) w
      ⟨.slc σ.nid ti.sz 0 (sels.length + xels.length), (match old with | none => [] | some b => [(b, none)]) ++ [(σ.nid, some ⟨sels ++ xels, ti.sz, e, true, true⟩)], σ.nid + 1⟩ := by
  have hes : ∀ j, j < (sels ++ xels).length → ((sels ++ xels).getD j .undef).cells.length = ti.sz := fun j hj => by
    by_cases h : j < sels.length
    · have e1 : (sels ++ xels).getD j .undef = sels.getD j .undef := by simp only [List.getD_eq_getElem?_getD]; rw [List.getElem?_append_left h]
      rw [e1]
      cases old with
      | none => simp only at hold; rw [hold.2] at h; simp at h
      | some b =>
        obtain ⟨r, k, len, p1, p2, p3, p4, p5, p6, p7, p8, p9⟩ := hold
        obtain ⟨_, _, _, _, q⟩ := hS.blk b r k p1 p2
        subst p8
        have hj' : j < len := by simp at h; omega
        have e2 : (k.els.take len).getD j .undef = k.els.getD j .undef := by simp only [List.getD_eq_getElem?_getD]; rw [List.getElem?_take, if_pos hj']
        rw [e2, ← p6]; exact q j (by omega)
    · have e1 : (sels ++ xels).getD j .undef = xels.getD (j - sels.length) .undef := by simp only [List.getD_eq_getElem?_getD]; rw [List.getElem?_append_right (by omega)]
      rw [e1]; exact hsrc.els _ (by simp at hj; omega)
  have own : ∃ xs, w.ownsRow 0 e ti.sz sv sels.length xs ∧ (∀ j m, j < sels.length → m < ti.sz → ∃ v, xs[j * ti.sz + m]? = some v ∧ v.oneCell' = true ∧ ARep w A ρ ((sels.getD j .undef).cells.getD m .undef) v) ∧
      oldRow σ ρ old sv.ownBlock := by
    cases old with
    | none =>
      simp only at hold
      rw [hold.1, hold.2]
      exact ⟨[], World.ownsRow_nil w 0 e ti.sz, fun j m hj => by simp at hj, rfl⟩
    | some b =>
      obtain ⟨r, k, len, p1, p2, p3, p4, p5, p6, p7, p8, p9⟩ := hold
      obtain ⟨⟨cur, fr, q1, q2, q3, q4, q5⟩, q6, q7, q8, q9⟩ := hS.blk b r k p1 p2
      have hl : sels.length = len := by rw [p8]; simp; omega
      have hfit : len * ti.sz ≤ cur.size := by rw [q2, q6, p6]; exact Nat.mul_le_mul_right _ (by omega)
      refine ⟨cur.toList.take (len * ti.sz), ?_, fun j m hj hm => ?_, r, k, p1, p2, p3, by rw [p9]; rfl⟩
      · rw [hl]
        refine ⟨by simp; omega, .inr ⟨r.g, r.cap, cur, p9, Nat.zero_le _, ?_, by omega, q8, by rw [q2, q6, p6], rfl⟩⟩
        rw [q1, q3 p4, p5]
      · have hj' : j < len := by omega
        obtain ⟨v, s1, s2, s3⟩ := q5 j m (by omega) (by omega)
        refine ⟨v, ?_, s2, ?_⟩
        · rw [p6] at s1
          rw [List.getElem?_take, if_pos (mul_lt_of hj' hm)]; simpa using s1
        · have e2 : sels.getD j .undef = k.els.getD j .undef := by rw [p8]; simp only [List.getD_eq_getElem?_getD]; rw [List.getElem?_take, if_pos hj']
          rw [e2]; exact s3
  obtain ⟨xs, hown, hxs, hrow⟩ := own
  obtain ⟨v', w', r1, r2, r3, r4, r5⟩ := append_run (ty := ty) hu hu' hti h0 hby sv sels.length xs hown ad xels.length cc news hsrc.len hsrc.mem hsrc.one hb
  have hv' : v' ≠ .slice none 0 0 := fun h => by
    obtain ⟨g1, g2⟩ := r4.1 h
    cases old with
    | none => exact hne rfl (List.eq_nil_of_length_eq_zero g2)
    | some b => obtain ⟨r, k, len, p1, p2, p3, p4, p5, p6, p7, p8, p9⟩ := hold; rw [p9] at g1; cases g1
  obtain ⟨g, cap, cur, f1, f2, f3, f4, f5, f6⟩ := slice_form v' r2 hv'
  have hlen : (sels ++ xels).length = sels.length + xels.length := List.length_append
  obtain ⟨ρ', s1, s2, s3⟩ := append_sim hS hf (w' := w') (e := e) (es := ti.sz) (els := sels ++ xels) old sv.ownBlock hrow r3 f2 (by omega) f4 f5
    (by rw [f1] at r5; simp only [Value.ownBlock] at r5; rcases r5 with h | h; exact .inl h; exact .inr (by simpa using h))
    (fun kp j m hj hm => by
      have hlt : j * ti.sz + m < (sels.length + xels.length) * ti.sz := mul_lt_of (by omega) hm
      rw [cells_of_take f6 hlt]
      have hxl : xs.length = sels.length * ti.sz := hown.1
      by_cases h : j < sels.length
      · have e1 : (sels ++ xels).getD j .undef = sels.getD j .undef := by simp only [List.getD_eq_getElem?_getD]; rw [List.getElem?_append_left h]
        obtain ⟨v, x1, x2, x3⟩ := hxs j m h hm
        rw [e1, List.getElem?_append_left (by rw [hxl]; exact mul_lt_of h hm)]
        exact ⟨v, x1, x2, x3.mono kp (fun _ _ h => h)⟩
      · have e1 : (sels ++ xels).getD j .undef = xels.getD (j - sels.length) .undef := by simp only [List.getD_eq_getElem?_getD]; rw [List.getElem?_append_right (by omega)]
        have hj2 : j - sels.length < xels.length := by omega
        obtain ⟨v, x1, x3⟩ := hsrc.rep (j - sels.length) m hj2 hm
        have ei : j * ti.sz + m - xs.length = (j - sels.length) * ti.sz + m := by
          rw [hxl, Nat.sub_mul]
          have : sels.length * ti.sz ≤ j * ti.sz := Nat.mul_le_mul_right _ (by omega)
          omega
        have hge : xs.length ≤ j * ti.sz + m := by
          rw [hxl]
          have : sels.length * ti.sz ≤ j * ti.sz := Nat.mul_le_mul_right _ (by omega)
          omega
        rw [e1, List.getElem?_append_right hge, ei]
        refine ⟨v, x1, hsrc.one v ?_, x3.mono kp (fun _ _ h => h)⟩
        exact List.mem_of_getElem? x1) hes
  refine ⟨v', w', A, ρ', r1, ?_, ?_, s3⟩
  · cases old with
    | none => simpa [kill] using s1
    | some b => simpa [kill] using s1
  · rw [f1]; exact s2 _ f3

theorem newsB_sound {E : CallE} {tx : Bool} {KP : DV → Res → Prop} (hS : Sim c A ρ σ a w) {ti : TI} {x : AV} {xv : Value} (hx : ARep w A ρ x xv) (h0 : 0 < ti.sz) {k : List AV → BM} {K : Res → Prop}
    (h : wpB E tx (newsB ti x k) σ.lh K KP) : ∃ els ad cc news, xv = .slice (some ad) els.length cc ∧ Source w A ρ ti.sz els ad news ∧ wpB E tx (k els) σ.lh K KP := by
  unfold newsB at h
  split at h
  · rename_i els
    split at h
    · rename_i hall
      have hx := hx.ofD
      cases hx with
      | sim _ ad cap cc o es val hb hcap ha hes hc hone hv =>
        have hl : ∀ j, j < els.length → (els.getD j .inil).cells.length = ti.sz := fun j hj => by
          have := (List.all_eq_true.1 hall) (els.getD j .inil) (by simp [List.getD, List.getElem?_eq_getElem hj])
          simpa using this
        have he : ∀ j, j < els.length → es = ti.sz := fun j hj => by rw [← hes j hj, hl j hj]
        obtain ⟨news, hn⟩ := source_of (w := w) (A := A) (ρ := ρ) (es := ti.sz) (els := els.map AV.d) (ad := ad) (c0 := cc) (o := o) val (fun hp => (ha (by simpa using hp)).1)
          (fun j m hj hm => by have hj : j < els.length := by simpa using hj
                               have := he j hj; subst this; exact hc j m hj hm)
          (fun j m hj hm => by have hj : j < els.length := by simpa using hj
                               have := he j hj; subst this; exact hone j m hj hm)
          (fun j m hj hm => by
            have hj : j < els.length := by simpa using hj
            have := he j hj; subst this
            rw [getD_map_d _ _ hj, dcells, getD_map_d _ _ (by rw [hes j hj]; exact hm)]
            exact .d _ _ (hv j m hj hm))
          (fun j hj => by
            have hj : j < els.length := by simpa using hj
            rw [getD_map_d _ _ hj, dcells]; simpa using hl j hj)
        exact ⟨els.map AV.d, ad, cap, news, by simp, hn, h⟩
    · exact h.elim
  · rename_i b es off n
    cases hx with
    | slc _ _ _ _ r hr he hl =>
      simp only [wpB] at h
      cases hq : σ.lh b with
      | none => simp [hq] at h
      | some q =>
        simp only [hq] at h
        split at h
        · rename_i hc
          obtain ⟨hc1, hc2⟩ := hc
          obtain ⟨⟨cur, fr, q1, q2, q3, q4, q5⟩, q6, q7, q8, q9⟩ := hS.blk b r q hr hq
          have hee : q.es = ti.sz := by omega
          have hle : ((q.els.drop off).take n).length = n := by simp; omega
          have hget : ∀ j, j < n → ((q.els.drop off).take n).getD j .undef = q.els.getD (off + j) .undef := fun j hj => by
            simp only [List.getD_eq_getElem?_getD]; rw [List.getElem?_take, if_pos hj, List.getElem?_drop]
          obtain ⟨news, hn⟩ := source_of (w := w) (A := A) (ρ := ρ) (es := ti.sz) (els := (q.els.drop off).take n) (ad := ⟨r.g, off * es, none⟩) (c0 := r.g) (o := off * es) (fun j m => cur.getD ((off + j) * q.es + m) undef) (fun _ => rfl)
            (fun j m hj hm => by
              have hj : j < n := by omega
              obtain ⟨v, p1, p2, p3⟩ := q5 (off + j) m (by omega) (by omega)
              rw [cell_of_row w r.g _ cur q.ty fr q1, show off * es + j * ti.sz + m = (off + j) * q.es + m by rw [hee, ← hc2, Nat.add_mul], p1, getElem?_of_get p1])
            (fun j m hj hm => by
              have hj : j < n := by omega
              obtain ⟨v, p1, p2, p3⟩ := q5 (off + j) m (by omega) (by omega)
              rw [getElem?_of_get p1]; exact p2)
            (fun j m hj hm => by
              have hj : j < n := by omega
              obtain ⟨v, p1, p2, p3⟩ := q5 (off + j) m (by omega) (by omega)
              rw [getElem?_of_get p1, hget j hj]; exact p3)
            (fun j hj => by rw [hget j (by omega), ← hee]; exact q9 _ (by omega))
          exact ⟨_, _, r.cap - off, news, by rw [hle], hn, h⟩
        · exact h.elim
  · exact h.elim

theorem append_zc {t t' ty e e' : TypeId} {ti : TI} (hu : P.underlying t = some (.slice e)) (hu' : P.underlying t' = some (.slice e')) (hti : tinfo P e = some ti) (hby : ti.bytes ≤ 32768)
    {xels : List AV} {ad : Addr} {news : List Value} (hsrc : Source w A ρ ti.sz xels ad news) (cc : Nat) (b : Addr) (hb : xels.length ≤ big) (hne : xels ≠ []) :
    (Builtin.append_ #[t, t'] ty #[.slice (some b) 0 0, .slice (some ad) xels.length cc]).run P w = (Builtin.append_ #[t, t'] ty #[.slice none 0 0, .slice (some ad) xels.length cc]).run P w := by
  obtain ⟨ii, u, z, hii, hu2, hz, hzd, hsz, _, hbyt, hzl⟩ := tinfo_parts hti
  have hn : 0 < xels.length := List.length_pos_iff.2 hne
  simp only [big] at hb
  have hbb : xels.length * ii.bytes ≤ 140737488355328 := by
    have : xels.length * ii.bytes ≤ 4294967296 * 32768 := Nat.mul_le_mul hb (by omega)
    omega
  have hl : news.length = xels.length * ii.size := by rw [hsrc.len, hsz]
  have r1 := run_append_nil (P := P) w t ty e ii z hu hii hz ad xels.length cc news hl hsrc.mem hn (by omega) (by omega)
  have r2 := run_append_grow (P := P) w t ty e ii z hu hii hz b 0 0 [] (by simp) (fun j v h => by simp at h) ad xels.length cc news hl hsrc.mem (by omega) (by omega) (by rw [Nat.zero_add, nextslicecap_zero hn]; omega)
  have e1 : ∀ v, (v = .slice none 0 0 ∨ v = .slice (some b) 0 0) → (Builtin.append_ #[t, t'] ty #[v, .slice (some ad) xels.length cc]).run P w = (Builtin.append_ #[t, t] ty #[v, .slice (some ad) xels.length cc]).run P w := fun v hv => by
    rcases hv with rfl | rfl <;> simp [Builtin.append_, run_underlying hu, run_underlying hu', Builtin.lenOf]
  rw [e1 _ (.inl rfl), e1 _ (.inr rfl), r1, r2]
  simp

theorem appendB_sound {E : CallE} {tx : Bool} {KP : DV → Res → Prop} (hS : Sim c A ρ σ a w) {K : Res → Prop} (hfree : ∀ r, K r → ∀ k, σ.nid + k < r.nid → ρ (σ.nid + k) = none) {t t' ty e e' : TypeId} {ti : TI} (hu : P.underlying t = some (.slice e)) (hu' : P.underlying t' = some (.slice e')) (hti : tinfo P e = some ti)
    {s x : AV} {sv xv : Value} (hs : ARep w A ρ s sv) (hx : ARep w A ρ x xv) (h : wpB E tx (appendB σ.nid ti e s x) σ.lh K KP) :
    ∃ r, K (r.res σ.lh) ∧ Yields P c A ρ σ a (Builtin.append_ #[t, t'] ty #[sv, xv]) w r := by
  obtain ⟨ii, u, z, hii, hu2, hz, hzd, hsz, _, hbyt, hzl⟩ := tinfo_parts hti
  unfold appendB at h
  split at h
  case isFalse => exact h.elim
  rename_i hpre
  obtain ⟨hby, h0⟩ := hpre
  split at h
  · have hx := hx.ofD
    cases hx
    have stay : ∀ (s : AV), ARep w A ρ s sv → (∃ ad n cc, sv = .slice ad n cc ∧ n ≤ cc) → K (OpR.res ⟨s, [], σ.nid⟩ σ.lh) → ∃ r, K (r.res σ.lh) ∧ Yields P c A ρ σ a (Builtin.append_ #[t, t'] ty #[sv, .slice none 0 0]) w r := fun s hs hsv hK => by
      obtain ⟨ad, n, cc, rfl, hle⟩ := hsv
      refine ⟨_, hK, Yields.just hS ⟨_, ?_, hs⟩⟩
      have hr0 : ∀ x : Addr, (storeCells x [] 0).run P w = .ok () w := fun x => rfl
      cases ad <;> simp [Builtin.append_, run_underlying hu, run_underlying hu', run_sizeOf' hii, Builtin.lenOf, Builtin.firstCells, hle, hr0]
    split at h
    · have hs' := hs.ofD; cases hs'
      exact stay _ hs ⟨none, 0, 0, rfl, Nat.le_refl _⟩ h
    · have hs' := hs.ofD; cases hs' with
      | sim _ ad cap cc o es val hb hcap ha hes hc hone hv => exact stay _ hs ⟨some ad, _, cap, rfl, hcap⟩ h
    · have hs' := hs
      cases hs' with
      | slc _ _ _ _ r hr he hl => exact stay _ hs ⟨some _, _, r.cap - _, rfl, by omega⟩ h
    · have hs' := hs
      cases hs' with
      | zc b => exact stay _ hs ⟨some b, 0, 0, rfl, Nat.le_refl _⟩ h
    · exact h.elim
  · obtain ⟨xels, ad, cc, news, rfl, hsrc, h⟩ := newsB_sound hS hx h0 h
    split at h
    · have hs' := hs.ofD; cases hs'
      split at h
      · rename_i hz0
        refine ⟨_, h, Yields.just hS ⟨.slice none 0 0, ?_, .d _ _ .snil⟩⟩
        have hx0 : xels = [] := List.eq_nil_of_length_eq_zero hz0
        subst hx0
        have hf : (Builtin.firstCells ii.size 0 (.slice (some ad) 0 cc)).run P w = .ok #[] w := by simp [Builtin.firstCells, loadCells, loadCellsFrom]
        simp [Builtin.append_, run_underlying hu, run_underlying hu', run_sizeOf' hii, Builtin.lenOf, hf]
      · split at h
        · rename_i hne hbig
          have := append_step (ty := ty) hS (hfree _ h 0 (by simp [OpR.res])) hu hu' hti h0 hby hsrc cc none (.slice none 0 0) [] ⟨rfl, rfl⟩ (by simpa using hbig) (fun _ e1 => hne (by rw [e1]; rfl))
          simp only [List.nil_append, List.length_nil, Nat.zero_add] at this
          exact ⟨_, h, this⟩
        · exact h.elim
    · cases hs with
      | zc b =>
      split at h
      · rename_i hz0
        refine ⟨_, h, Yields.just hS ⟨.slice (some b) 0 0, ?_, .zc b⟩⟩
        have hx0 : xels = [] := List.eq_nil_of_length_eq_zero hz0
        subst hx0
        have hf : (Builtin.firstCells ii.size 0 (.slice (some ad) 0 cc)).run P w = .ok #[] w := by simp [Builtin.firstCells, loadCells, loadCellsFrom]
        have hr0 : ∀ x : Addr, (storeCells x [] 0).run P w = .ok () w := fun x => rfl
        simp [Builtin.append_, run_underlying hu, run_underlying hu', run_sizeOf' hii, Builtin.lenOf, hf, hr0]
      · split at h
        · rename_i hne hbig
          have hne' : xels ≠ [] := fun e1 => hne (by rw [e1]; rfl)
          have := append_step (ty := ty) hS (hfree _ h 0 (by simp [OpR.res])) hu hu' hti h0 hby hsrc cc none (.slice none 0 0) [] ⟨rfl, rfl⟩ (by simpa using hbig) (fun _ => hne')
          simp only [List.nil_append, List.length_nil, Nat.zero_add] at this
          obtain ⟨x, w', A', ρ', q1, q2, q3, q4⟩ := this
          exact ⟨_, h, x, w', A', ρ', by rw [append_zc (ty := ty) hu hu' hti hby hsrc cc b hbig hne']; exact q1, q2, q3, q4⟩
        · exact h.elim
    · rename_i b es len _
      cases hs with
      | slc _ _ _ _ r hr he hl =>
        simp only [wpB] at h
        cases hq : σ.lh b with
        | none => simp [hq] at h
        | some q =>
          simp only [hq] at h
          split at h
          · rename_i hc
            obtain ⟨c1, c2, c3, c4, c5, c6⟩ := hc
            have hes := (hS.blk b r q hr hq).es
            have hlt : (q.els.take len).length = len := by simp; omega
            have := append_step (ty := ty) hS (hfree _ h 0 (by simp [OpR.res])) hu hu' hti h0 hby hsrc cc (some b) (.slice (some ⟨r.g, 0, none⟩) len r.cap) (q.els.take len)
              ⟨r, q, len, hr, hq, c1, c2, c3, by omega, c5, rfl, rfl⟩ (by omega) (fun h => by cases h)
            rw [hlt] at this
            refine ⟨_, h, ?_⟩
            simpa using this
          · exact h.elim
    · exact h.elim
end
end Go.Proofs.Am
