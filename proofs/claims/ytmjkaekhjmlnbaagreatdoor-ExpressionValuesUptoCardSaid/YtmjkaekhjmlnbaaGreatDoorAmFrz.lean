/- Local blocks read as data. -/
import Derived.Test.YtmjkaekhjmlnbaaGreatDoorAmCall
set_option linter.unusedVariables false
set_option linter.unusedSimpArgs false
namespace Go.Proofs.Am
open Go Go.RowKit

/-- A value with the local blocks that it leads to as data, n blocks deep. -/
def frz (lh : Nat → Option LB) : Nat → AV → Option DV
  | _, .d v => some v
  | 0, _ => none
  | n + 1, .slc b es off len => match lh b with
    | some k => if off + len ≤ k.els.length ∧ len ≤ big then (((k.els.drop off).take len).mapM (frz lh n)).map .sim else none
    | none => none
  | n + 1, .loc b es i fo => match lh b with
    | some k => if i < k.els.length then (k.els.mapM (frz lh n)).map fun l => .pim l i fo else none
    | none => none
  | n + 1, .agg cs => (cs.mapM (frz lh n)).map .agg
  | n + 1, .tup cs => (cs.mapM (frz lh n)).map .tup
  | n + 1, .fn f cs => (cs.mapM (frz lh n)).map (.fn f)
  | n + 1, .iface t v => (frz lh n v).map (.iface t)
  | _ + 1, .zc => some (.sim [])
  | _ + 1, .undef => none

/-- The local blocks that a value leads to. -/
def reach (lh : Nat → Option LB) : Nat → AV → List Nat
  | _, .d _ => []
  | 0, _ => []
  | n + 1, .slc b _ _ _ => b :: match lh b with | some k => k.els.flatMap (reach lh n) | none => []
  | n + 1, .loc b _ _ _ => b :: match lh b with | some k => k.els.flatMap (reach lh n) | none => []
  | n + 1, .agg cs => cs.flatMap (reach lh n)
  | n + 1, .tup cs => cs.flatMap (reach lh n)
  | n + 1, .fn _ cs => cs.flatMap (reach lh n)
  | n + 1, .iface _ v => reach lh n v
  | _ + 1, .zc => []
  | _ + 1, .undef => []

theorem reach_el {lh : Nat → Option LB} {n : Nat} {cs : List AV} {i : Nat} (hi : i < cs.length) : ∀ b ∈ reach lh n (cs.getD i .undef), b ∈ cs.flatMap (reach lh n) := fun b hb =>
  List.mem_flatMap.2 ⟨_, by simp [List.getD, List.getElem?_eq_getElem hi], hb⟩

theorem frz_d (lh : Nat → Option LB) (n : Nat) (v : DV) : frz lh n (.d v) = some v := by cases n <;> simp [frz]

theorem frz_list {lh : Nat → Option LB} {n : Nat} {cs : List AV} {ds : List DV} (h : cs.mapM (frz lh n) = some ds) :
    ds.length = cs.length ∧ ∀ i, i < cs.length → frz lh n (cs.getD i .undef) = some (ds.getD i .inil) := by
  obtain ⟨h1, h2⟩ := mapM_some h
  refine ⟨h1, fun i hi => ?_⟩
  obtain ⟨y, e1, e2⟩ := h2 i (cs[i]) (List.getElem?_eq_getElem hi)
  have g1 : cs.getD i .undef = cs[i] := by simp [List.getD, List.getElem?_eq_getElem hi]
  have g2 : ds.getD i .inil = y := by simp [List.getD, e1]
  rw [g1, g2]; exact e2

theorem frz_cells {lh : Nat → Option LB} {n : Nat} {e : AV} {d : DV} (h : frz lh n e = some d) :
    d.cells.length = e.cells.length ∧ ∀ m, m < e.cells.length → ∃ n', n' ≤ n ∧ frz lh n' (e.cells.getD m .undef) = some (d.cells.getD m .inil) ∧ ∀ b ∈ reach lh n' (e.cells.getD m .undef), b ∈ reach lh n e := by
  have one : ∀ {e : AV} {d : DV}, frz lh n e = some d → e.cells = [e] → d.cells = [d] → d.cells.length = e.cells.length ∧ ∀ m, m < e.cells.length → ∃ n', n' ≤ n ∧ frz lh n' (e.cells.getD m .undef) = some (d.cells.getD m .inil) ∧ ∀ b ∈ reach lh n' (e.cells.getD m .undef), b ∈ reach lh n e := fun {e d} h h1 h2 => by
    rw [h1, h2]
    refine ⟨rfl, fun m hm => ⟨n, Nat.le_refl _, ?_⟩⟩
    have : m = 0 := by simpa using hm
    subst this; exact ⟨h, fun b hb => hb⟩
  cases e with
  | d v =>
    rw [frz_d] at h; cases h
    rw [dcells]
    refine ⟨by simp, fun m hm => ⟨0, Nat.zero_le _, ?_⟩⟩
    have hm : m < d.cells.length := by simpa using hm
    rw [getD_map_d _ _ hm, frz_d]
    exact ⟨rfl, fun b hb => by simp [reach] at hb⟩
  | agg cs =>
    cases n with
    | zero => simp [frz] at h
    | succ n =>
      simp only [frz, Option.map_eq_some_iff] at h
      obtain ⟨ds, h1, rfl⟩ := h
      obtain ⟨q1, q2⟩ := frz_list h1
      exact ⟨q1, fun m hm => ⟨n, Nat.le_succ n, q2 m hm, reach_el (lh := lh) (n := n) hm⟩⟩
  | slc b es off len =>
    refine one h rfl ?_
    cases n with
    | zero => simp [frz] at h
    | succ n =>
      simp only [frz] at h
      split at h
      · split at h
        · obtain ⟨ds, _, rfl⟩ := Option.map_eq_some_iff.1 h; rfl
        · cases h
      · cases h
  | loc b es i fo =>
    refine one h rfl ?_
    cases n with
    | zero => simp [frz] at h
    | succ n =>
      simp only [frz] at h
      split at h
      · split at h
        · obtain ⟨ds, _, rfl⟩ := Option.map_eq_some_iff.1 h; rfl
        · cases h
      · cases h
  | undef => cases n <;> simp [frz] at h
  | zc =>
    refine one h rfl ?_
    cases n with
    | zero => simp [frz] at h
    | succ n => simp only [frz, Option.some.injEq] at h; subst h; rfl
  | tup cs =>
    refine one h rfl ?_
    cases n with
    | zero => simp [frz] at h
    | succ n => simp only [frz] at h; obtain ⟨ds, _, rfl⟩ := Option.map_eq_some_iff.1 h; rfl
  | fn f cs =>
    refine one h rfl ?_
    cases n with
    | zero => simp [frz] at h
    | succ n => simp only [frz] at h; obtain ⟨ds, _, rfl⟩ := Option.map_eq_some_iff.1 h; rfl
  | iface t v =>
    refine one h rfl ?_
    cases n with
    | zero => simp [frz] at h
    | succ n => simp only [frz] at h; obtain ⟨ds, _, rfl⟩ := Option.map_eq_some_iff.1 h; rfl

theorem frz_sound {w : World} {A A' : Nat → Prop} {ρ : Nat → Option BR} {lh : Nat → Option LB} (hA : ∀ g, A g → A' g)
    (hblk : ∀ b r k, ρ b = some r → lh b = some k → BRep w A ρ k r) : ∀ (n : Nat) (v : AV) (d : DV) (x : Value), frz lh n v = some d → (∀ b ∈ reach lh n v, ∀ r k, ρ b = some r → lh b = some k → A' r.g) → ARep w A ρ v x → DRep w A' d x := by
  have kp : Keeps w w A A' := fun g h => ⟨hA g h, rfl⟩
  intro n
  induction n using Nat.strongRecOn with
  | _ n ih =>
    intro v d x h hre hv
    cases hv with
    | d v x hd => rw [frz_d] at h; cases h; exact hd.mono kp
    | un x => cases n <;> simp [frz] at h
    | zc a =>
      cases n with
      | zero => simp [frz] at h
      | succ n =>
        simp only [frz, Option.some.injEq] at h
        subst h
        exact .sim [] a 0 0 0 0 (fun _ _ => undef) (by simp) (by simp) (fun h => by simp at h) (fun j hj => by simp at hj) (fun j m hj => by simp at hj) (fun j m hj => by simp at hj) (fun j m hj => by simp at hj)
    | agg cs vs hl hone hh =>
      cases n with
      | zero => simp [frz] at h
      | succ n =>
        simp only [frz, Option.map_eq_some_iff] at h
        obtain ⟨ds, h1, rfl⟩ := h
        obtain ⟨q1, q2⟩ := frz_list h1
        exact .agg ds vs (by omega) (fun i hi => hone i (by omega)) (fun i hi => ih n (Nat.lt_succ_self n) _ _ _ (q2 i (by omega)) (fun b hb => hre b (reach_el (lh := lh) (n := n) (show i < cs.length by omega) b hb)) (hh i (by omega)))
    | tup cs vs hl hh =>
      cases n with
      | zero => simp [frz] at h
      | succ n =>
        simp only [frz, Option.map_eq_some_iff] at h
        obtain ⟨ds, h1, rfl⟩ := h
        obtain ⟨q1, q2⟩ := frz_list h1
        exact .tup ds vs (by omega) (fun i hi => ih n (Nat.lt_succ_self n) _ _ _ (q2 i (by omega)) (fun b hb => hre b (reach_el (lh := lh) (n := n) (show i < cs.length by omega) b hb)) (hh i (by omega)))
    | fn f cs vs hl hh =>
      cases n with
      | zero => simp [frz] at h
      | succ n =>
        simp only [frz, Option.map_eq_some_iff] at h
        obtain ⟨ds, h1, rfl⟩ := h
        obtain ⟨q1, q2⟩ := frz_list h1
        exact .fn f ds vs (by omega) (fun i hi => ih n (Nat.lt_succ_self n) _ _ _ (q2 i (by omega)) (fun b hb => hre b (reach_el (lh := lh) (n := n) (show i < cs.length by omega) b hb)) (hh i (by omega)))
    | iface t v x hh =>
      cases n with
      | zero => simp [frz] at h
      | succ n =>
        simp only [frz, Option.map_eq_some_iff] at h
        obtain ⟨d', h1, rfl⟩ := h
        exact .iface t d' x (ih n (Nat.lt_succ_self n) _ _ _ h1 hre hh)
    | slc b es off len r hr he hl =>
      cases n with
      | zero => simp [frz] at h
      | succ n =>
        simp only [frz] at h
        cases hk : lh b with
        | none => simp [hk] at h
        | some k =>
          simp only [hk] at h
          split at h
          · rename_i hc
            obtain ⟨ds, h1, rfl⟩ := Option.map_eq_some_iff.1 h
            obtain ⟨q1, q2⟩ := frz_list h1
            obtain ⟨⟨cur, fr, b1, b2, b3, b4, b5⟩, e1, e2, e3, e4⟩ := hblk b r k hr hk
            have hAg : A' r.g := hre b (by simp [reach]) r k hr hk
            have hsub : ∀ j, j < k.els.length → ∀ b' ∈ reach lh n (k.els.getD j .undef), b' ∈ reach lh (n + 1) (.slc b es off len) := fun j hj b' hb' => by
              simp only [reach, hk]; exact List.mem_cons_of_mem _ (reach_el (lh := lh) (n := n) hj b' hb')
            have hlen : ((k.els.drop off).take len).length = len := by simp; omega
            have hget : ∀ j, j < len → ((k.els.drop off).take len).getD j .undef = k.els.getD (off + j) .undef := fun j hj => by
              simp only [List.getD_eq_getElem?_getD]; rw [List.getElem?_take, if_pos hj, List.getElem?_drop]
            have hdl : ds.length = len := by omega
            have q3 : ∀ j, j < len → frz lh n (k.els.getD (off + j) .undef) = some (ds.getD j .inil) := fun j hj => by
              have := q2 j (by omega); rw [hget j hj] at this; exact this
            have hcell : ∀ j m, j < len → m < es → ∃ v, w.cell? ⟨r.g, off * es + j * es + m, none⟩ = some v ∧ v = cur.getD ((off + j) * k.es + m) undef ∧ v.oneCell' = true ∧ DRep w A' ((ds.getD j .inil).cells.getD m .inil) v := fun j m hj hm => by
              obtain ⟨v, p1, p2, p3⟩ := b5 (off + j) m (by omega) (by omega)
              obtain ⟨f1, f2⟩ := frz_cells (q3 j hj)
              have ek := e4 (off + j) (by omega)
              obtain ⟨n', hn', f3, f4⟩ := f2 m (by omega)
              refine ⟨v, ?_, (getElem?_of_get p1).symm, p2, ih n' (by omega) _ _ _ f3 (fun b' hb' => hre b' (hsub (off + j) (by omega) b' (f4 b' hb'))) p3⟩
              rw [cell_of_row w r.g _ cur k.ty fr b1, show off * es + j * es + m = (off + j) * k.es + m by rw [← e1, he, Nat.add_mul]]; exact p1
            have := DRep.sim (w := w) (A := A') ds ⟨r.g, off * es, none⟩ (r.cap - off) r.g (off * es) es (fun j m => cur.getD ((off + j) * k.es + m) undef) (by omega) (by omega) (fun _ => ⟨rfl, hAg⟩)
              (fun j hj => by obtain ⟨f1, _⟩ := frz_cells (q3 j (by omega)); rw [f1, e4 _ (by omega)]; omega)
              (fun j m hj hm => by obtain ⟨v, p1, p2, _⟩ := hcell j m (by omega) hm; rw [p1, p2])
              (fun j m hj hm => by obtain ⟨v, p1, p2, p3, _⟩ := hcell j m (by omega) hm; rw [← p2]; exact p3)
              (fun j m hj hm => by obtain ⟨v, p1, p2, _, p4⟩ := hcell j m (by omega) hm; rw [← p2]; exact p4)
            rw [hdl] at this; exact this
          · cases h
    | loc b es i fo r hr he =>
      cases n with
      | zero => simp [frz] at h
      | succ n =>
        simp only [frz] at h
        cases hk : lh b with
        | none => simp [hk] at h
        | some k =>
          simp only [hk] at h
          split at h
          · rename_i hi
            obtain ⟨ds, h1, rfl⟩ := Option.map_eq_some_iff.1 h
            obtain ⟨q1, q3⟩ := frz_list h1
            obtain ⟨⟨cur, fr, b1, b2, b3, b4, b5⟩, e1, e2, e3, e4⟩ := hblk b r k hr hk
            have hAg : A' r.g := hre b (by simp [reach]) r k hr hk
            have hsub : ∀ j, j < k.els.length → ∀ b' ∈ reach lh n (k.els.getD j .undef), b' ∈ reach lh (n + 1) (.loc b es i fo) := fun j hj b' hb' => by
              simp only [reach, hk]; exact List.mem_cons_of_mem _ (reach_el (lh := lh) (n := n) hj b' hb')
            have hcell : ∀ j m, j < ds.length → m < es → ∃ v, w.cell? ⟨r.g, 0 + j * es + m, none⟩ = some v ∧ v = cur.getD (j * k.es + m) undef ∧ v.oneCell' = true ∧ DRep w A' ((ds.getD j .inil).cells.getD m .inil) v := fun j m hj hm => by
              obtain ⟨v, p1, p2, p3⟩ := b5 j m (by omega) (by omega)
              obtain ⟨f1, f2⟩ := frz_cells (q3 j (by omega))
              have ek := e4 j (by omega)
              obtain ⟨n', hn', f3, f4⟩ := f2 m (by omega)
              refine ⟨v, ?_, (getElem?_of_get p1).symm, p2, ih n' (by omega) _ _ _ f3 (fun b' hb' => hre b' (hsub j (by omega) b' (f4 b' hb'))) p3⟩
              rw [cell_of_row w r.g _ cur k.ty fr b1, Nat.zero_add, ← he, e1]; exact p1
            have := DRep.pim (w := w) (A := A') ds i fo r.g 0 es (fun j m => cur.getD (j * k.es + m) undef) (by omega) hAg
              (fun j hj => by obtain ⟨f1, _⟩ := frz_cells (q3 j (by omega)); rw [f1, e4 _ (by omega)]; omega)
              (fun j m hj hm => by obtain ⟨v, p1, p2, _⟩ := hcell j m hj hm; rw [p1, p2])
              (fun j m hj hm => by obtain ⟨v, p1, p2, p3, _⟩ := hcell j m hj hm; rw [← p2]; exact p3)
              (fun j m hj hm => by obtain ⟨v, p1, p2, _, p4⟩ := hcell j m hj hm; rw [← p2]; exact p4)
            simpa using this
          · cases h
end Go.Proofs.Am
