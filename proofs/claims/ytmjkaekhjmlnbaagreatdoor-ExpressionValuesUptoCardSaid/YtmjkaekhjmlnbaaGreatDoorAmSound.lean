/- Operations over abstract values say what the model's operations do. -/
import Derived.Test.YtmjkaekhjmlnbaaGreatDoorAmOps
namespace Go.Proofs.Am
open Go Go.RowKit

theorem zeroOne_rep {v : Value} {d : DV} (h : zeroOne v = some d) (w : World) (A : Nat → Prop) : DRep w A d v := by
  unfold zeroOne at h
  split at h <;> first
    | (cases h; constructor; done)
    | (split at h <;> first | (cases h; constructor; assumption) | cases h)
    | cases h

theorem zeroOne_one {v : Value} {d : DV} (h : zeroOne v = some d) : v.oneCell' = true := by
  unfold zeroOne at h
  split at h <;> first
    | rfl
    | cases h

theorem mapM_some {α β : Type} {f : α → Option β} : ∀ {l : List α} {r : List β}, l.mapM f = some r → r.length = l.length ∧ ∀ (i : Nat) (x : α), l[i]? = some x → ∃ y, r[i]? = some y ∧ f x = some y := by
  intro l
  induction l with
  | nil => intro r h; simp at h; subst h; simp
  | cons a l ih =>
    intro r h
    simp only [List.mapM_cons, Option.bind_eq_bind, Option.pure_def] at h
    cases ha : f a with
    | none => simp [ha] at h
    | some b =>
      cases hl : l.mapM f with
      | none => simp [ha, hl] at h
      | some r' =>
        simp [ha, hl] at h
        subst h
        obtain ⟨h1, h2⟩ := ih hl
        refine ⟨by simp [h1], fun i x hi => ?_⟩
        cases i with
        | zero => simp at hi; subst hi; exact ⟨b, by simp, ha⟩
        | succ i => simp at hi; obtain ⟨y, hy, hf⟩ := h2 i x hi; exact ⟨y, by simpa using hy, hf⟩

theorem zeroD_rep {v : Value} {d : DV} (h : zeroD v = some d) (w : World) (A : Nat → Prop) : DRep w A d v := by
  unfold zeroD at h
  split at h
  · rename_i vs
    cases hm : vs.toList.mapM zeroOne with
    | none => simp [hm] at h
    | some r =>
      simp [hm] at h
      subst h
      obtain ⟨h1, h2⟩ := mapM_some hm
      have key : ∀ i, i < r.length → ∃ x y, vs.getD i undef = x ∧ r.getD i .inil = y ∧ zeroOne x = some y := fun i hi => by
        have hv : i < vs.toList.length := by omega
        obtain ⟨y, hy, hf⟩ := h2 i (vs.toList[i]) (List.getElem?_eq_getElem hv)
        refine ⟨vs.toList[i], y, ?_, ?_, hf⟩
        · simp at hv; simp [Array.getD, hv]
        · simp [List.getD, hy]
      refine .agg r vs (by simpa using h1.symm) (fun i hi => ?_) (fun i hi => ?_)
      · obtain ⟨x, y, e1, e2, h3⟩ := key i hi; rw [e1]; exact zeroOne_one h3
      · obtain ⟨x, y, e1, e2, h3⟩ := key i hi; rw [e1, e2]; exact zeroOne_rep h3 w A
  · exact zeroOne_rep h w A

theorem eval_rep {c : Ctx} {A : Nat → Prop} {ρ : Nat → Option BR} {σ : St} {a : Act} {w : World} (hS : Sim c A ρ σ a w) (x : Operand) : ARep w A ρ (σ.eval x) (a.eval x) := by
  cases x with
  | tmp t => exact hS.env t
  | const v =>
    simp only [St.eval, Act.eval, constD]
    split
    · rename_i d hd; exact .d d v (zeroD_rep hd w A)
    · exact .un _
  | global g => exact .un _
  | func f => exact .d _ _ (.fn f [] #[] rfl (fun i hi => by simp at hi))

/-- Cells of a value, as data. -/
theorem DRep.cells {w : World} {A : Nat → Prop} {d : DV} {v : Value} (h : DRep w A d v) :
    v.cells.size = d.cells.length ∧ ∀ i, i < d.cells.length → DRep w A (d.cells.getD i .inil) (v.cells.getD i undef) := by
  have one : ∀ {d : DV} {v : Value}, DRep w A d v → d.cells = [d] → v.cells = #[v] →
      v.cells.size = d.cells.length ∧ ∀ i, i < d.cells.length → DRep w A (d.cells.getD i .inil) (v.cells.getD i undef) := fun {d v} h e1 e2 => by
    rw [e1, e2]
    refine ⟨rfl, fun i hi => ?_⟩
    have : i = 0 := by simpa using hi
    subst this
    exact h
  have h' := h
  cases h with
  | agg cs vs hl hone h => exact ⟨hl, h⟩
  | _ => exact one h' rfl rfl

theorem ARep.cells {w : World} {A : Nat → Prop} {ρ : Nat → Option BR} {d : AV} {v : Value} (h : ARep w A ρ d v) :
    d = .undef ∨ (v.cells.size = d.cells.length ∧ ∀ i, i < d.cells.length → ARep w A ρ (d.cells.getD i .undef) (v.cells.getD i undef)) := by
  have one : ∀ {d : AV} {v : Value}, ARep w A ρ d v → d.cells = [d] → v.cells = #[v] →
      v.cells.size = d.cells.length ∧ ∀ i, i < d.cells.length → ARep w A ρ (d.cells.getD i .undef) (v.cells.getD i undef) := fun {d v} h e1 e2 => by
    rw [e1, e2]
    refine ⟨rfl, fun i hi => ?_⟩
    have : i = 0 := by simpa using hi
    subst this
    exact h
  cases h with
  | zc a => exact .inr (one (.zc a) rfl rfl)
  | un => exact .inl rfl
  | agg cs vs hl hone h => exact .inr ⟨hl, h⟩
  | d v x h =>
    refine .inr ?_
    cases v with
    | agg cs =>
      obtain ⟨h1, h2⟩ := h.cells
      simp only [AV.cells, List.length_map]
      refine ⟨h1, fun i hi => ?_⟩
      have e : (cs.map AV.d).getD i .undef = .d (cs.getD i .inil) := by simp [List.getD, List.getElem?_map, List.getElem?_eq_getElem hi]
      rw [e]; exact .d _ _ (h2 i hi)
    | _ => exact one (.d _ _ h) rfl (by cases h <;> rfl)
  | loc b es i fo r h he => exact .inr (one (.loc b es i fo r h he) rfl rfl)
  | slc b es off len r h he hl => exact .inr (one (.slc b es off len r h he hl) rfl rfl)
  | tup cs vs hl h => exact .inr (one (.tup cs vs hl h) rfl rfl)
  | fn f caps vals hl h => exact .inr (one (.fn f caps vals hl h) rfl rfl)
  | iface t v x h => exact .inr (one (.iface t v x h) rfl rfl)

theorem tinfo_parts {P : Program} {t : TypeId} {ti : TI} (h : tinfo P t = some ti) :
    ∃ i u z, P.info? t = some i ∧ P.underlying t = some u ∧ i.zero = some z ∧ zeroD z = some ti.zero ∧ ti.sz = i.size ∧ ti.agg = descAgg u ∧ ti.bytes = i.bytes ∧ ti.zero.cells.length = ti.sz := by
  unfold tinfo at h
  split at h
  · rename_i i u hi hu
    cases hz : i.zero with
    | none => simp [hz] at h
    | some z =>
      cases hd : zeroD z with
      | none => simp [hz, hd] at h
      | some d =>
        simp only [hz, hd, Option.bind_some] at h
        split at h
        · rename_i hl
          cases h
          exact ⟨i, u, z, hi, hu, hz, hd, rfl, rfl, rfl, hl⟩
        · cases h
  · cases h

theorem run_isAgg' {P : Program} {t : TypeId} {u : TypeDesc} (h : P.underlying t = some u) (w : World) : (isAgg t).run P w = .ok (descAgg u) w := by
  cases u <;> simp [isAgg, run_underlying h, descAgg]

theorem run_typeInfo' {P : Program} {t : TypeId} {i : TypeInfo} (h : P.info? t = some i) (w : World) : (typeInfo t).run P w = .ok i w := by
  simp [typeInfo, h]

theorem run_sizeOf' {P : Program} {t : TypeId} {i : TypeInfo} (h : P.info? t = some i) (w : World) : (sizeOf t).run P w = .ok i.size w := by
  simp [sizeOf, run_typeInfo' h]

theorem add_at (c o j : Nat) : (⟨c, o, none⟩ : Addr).add j = ⟨c, o + j, none⟩ := by unfold Addr.add; split <;> simp_all

/-- A variable read out of memory. -/
theorem run_loadVar' {P : Program} {t : TypeId} {i : TypeInfo} {u : TypeDesc} (hi : P.info? t = some i) (hu : P.underlying t = some u) (w : World) (c o : Nat) (f : Nat → Value)
    (h : ∀ j, j < (if descAgg u then i.size else 1) → w.cell? ⟨c, o + j, none⟩ = some (f j)) :
    (loadVar t ⟨c, o, none⟩).run P w = .ok (if descAgg u then .agg ((List.range i.size).map f).toArray else f 0) w := by
  simp only [loadVar, Sem.run_bind, run_isAgg' hu, Result.andThen_ok]
  cases hd : descAgg u with
  | true =>
    simp only [hd, if_true] at h ⊢
    have hl := run_loadCells (P := P) w ⟨c, o, none⟩ i.size f (fun j hj => by rw [add_at]; exact h j hj)
    simp [run_sizeOf' hi, hl]
  | false =>
    simp only [hd] at h ⊢
    have h0 := h 0 (by simp)
    simp at h0
    simp [h0]

theorem getD_ofFn (n : Nat) (f : Nat → Value) (m : Nat) (h : m < n) : (((List.range n).map f).toArray).getD m undef = f m := by
  simp [Array.getD, h]

theorem ARep.ofD {w : World} {A : Nat → Prop} {ρ : Nat → Option BR} {v : DV} {x : Value} (h : ARep w A ρ (.d v) x) : DRep w A v x := by cases h; assumption

theorem dload_sound {P : Program} {t : TypeId} {ti : TI} (hti : tinfo P t = some ti) {w : World} {A : Nat → Prop} (e : DV) (c o fo : Nat) (f : Nat → Value)
    (hc : ∀ m, m < e.cells.length → w.cell? ⟨c, o + m, none⟩ = some (f m)) (hone : ∀ m, m < e.cells.length → (f m).oneCell' = true)
    (hv : ∀ m, m < e.cells.length → DRep w A (e.cells.getD m .inil) (f m)) {v : DV} (h : dload ti e fo = some v) :
    ∃ y, (loadVar t ⟨c, o + fo, none⟩).run P w = .ok y w ∧ DRep w A v y := by
  obtain ⟨i, u, z, hi, hu, _, _, hsz, hag, _, _⟩ := tinfo_parts hti
  unfold dload at h
  rw [hag, hsz] at h
  have run := fun hh => run_loadVar' (P := P) hi hu w c (o + fo) (fun j => f (fo + j)) hh
  cases hd : descAgg u with
  | true =>
    simp only [hd, if_true] at h run
    have part : fo + i.size ≤ e.cells.length → ∃ y, (loadVar t ⟨c, o + fo, none⟩).run P w = .ok y w ∧ y = .agg ((List.range i.size).map fun j => f (fo + j)).toArray :=
      fun hl => ⟨_, run (fun j hj => by rw [Nat.add_assoc]; exact hc (fo + j) (by omega)), rfl⟩
    split at h
    · rename_i hw
      obtain ⟨h0, hlen, hg⟩ := hw
      cases h
      subst h0
      obtain ⟨y, hy, rfl⟩ := part (by omega)
      refine ⟨_, hy, ?_⟩
      cases e with
      | agg cs =>
        simp only [DV.cells] at hlen hone hv
        refine .agg cs _ (by simp [hlen]) (fun m hm => ?_) (fun m hm => ?_)
        · rw [getD_ofFn _ _ _ (by omega)]; simpa using hone m hm
        · rw [getD_ofFn _ _ _ (by omega)]; simpa using hv m hm
      | _ => simp [dIsAgg] at hg
    · split at h
      · rename_i hl
        cases h
        obtain ⟨y, hy, rfl⟩ := part hl
        refine ⟨_, hy, ?_⟩
        have hlen : ((e.cells.drop fo).take i.size).length = i.size := by simp; omega
        refine .agg _ _ (by simp only [List.size_toArray, List.length_map, List.length_range, hlen]) (fun m hm => ?_) (fun m hm => ?_)
        · rw [getD_ofFn _ _ _ (by omega)]; exact hone (fo + m) (by omega)
        · rw [getD_ofFn _ _ _ (by omega)]
          have e1 : ((e.cells.drop fo).take i.size).getD m .inil = e.cells.getD (fo + m) .inil := by
            simp [List.getD, List.getElem?_drop, show m < i.size by omega]
          rw [e1]; exact hv (fo + m) (by omega)
      · cases h
  | false =>
    simp only [hd] at h run
    simp only [Bool.false_eq_true, if_false] at h run
    have hl : fo < e.cells.length := (List.getElem?_eq_some_iff.1 h).1
    refine ⟨_, run (fun j hj => ?_), ?_⟩
    · have : j = 0 := by omega
      subst this; exact hc fo hl
    · have e1 : e.cells.getD fo .inil = v := by simp [List.getD, h]
      have := hv fo hl
      rw [e1] at this; exact this

theorem aload_sound {P : Program} {t : TypeId} {ti : TI} (hti : tinfo P t = some ti) {w : World} {A : Nat → Prop} {ρ : Nat → Option BR} (e : AV) (c o fo : Nat) (f : Nat → Value)
    (hc : ∀ m, m < e.cells.length → w.cell? ⟨c, o + m, none⟩ = some (f m)) (hone : ∀ m, m < e.cells.length → (f m).oneCell' = true)
    (hv : ∀ m, m < e.cells.length → ARep w A ρ (e.cells.getD m .undef) (f m)) {v : AV} (h : aload ti e fo = some v) :
    ∃ y, (loadVar t ⟨c, o + fo, none⟩).run P w = .ok y w ∧ ARep w A ρ v y := by
  obtain ⟨i, u, z, hi, hu, _, _, hsz, hag, _, _⟩ := tinfo_parts hti
  unfold aload at h
  rw [hag, hsz] at h
  have run := fun hh => run_loadVar' (P := P) hi hu w c (o + fo) (fun j => f (fo + j)) hh
  cases hd : descAgg u with
  | true =>
    simp only [hd, if_true] at h run
    have part : fo + i.size ≤ e.cells.length → ∃ y, (loadVar t ⟨c, o + fo, none⟩).run P w = .ok y w ∧ y = .agg ((List.range i.size).map fun j => f (fo + j)).toArray :=
      fun hl => ⟨_, run (fun j hj => by rw [Nat.add_assoc]; exact hc (fo + j) (by omega)), rfl⟩
    split at h
    · rename_i hw
      obtain ⟨h0, hlen, hg⟩ := hw
      cases h
      subst h0
      obtain ⟨y, hy, rfl⟩ := part (by omega)
      refine ⟨_, hy, ?_⟩
      cases e with
      | agg cs =>
        simp only [AV.cells] at hlen hone hv
        refine .agg cs _ (by simp [hlen]) (fun m hm => ?_) (fun m hm => ?_)
        · rw [getD_ofFn _ _ _ (by omega)]; simpa using hone m hm
        · rw [getD_ofFn _ _ _ (by omega)]; simpa using hv m hm
      | d x =>
        cases x with
        | agg cs =>
          simp only [AV.cells, List.length_map] at hlen hone hv
          refine .d _ _ (.agg cs _ (by simp [hlen]) (fun m hm => ?_) (fun m hm => ?_))
          · rw [getD_ofFn _ _ _ (by omega)]; simpa using hone m hm
          · rw [getD_ofFn _ _ _ (by omega)]
            have hh := hv m hm
            have e1 : (cs.map AV.d).getD m .undef = .d (cs.getD m .inil) := by simp [List.getD, List.getElem?_map, List.getElem?_eq_getElem hm]
            rw [e1] at hh
            simpa using hh.ofD
        | _ => simp [aIsAgg] at hg
      | _ => simp [aIsAgg] at hg
    · split at h
      · rename_i hl
        cases h
        obtain ⟨y, hy, rfl⟩ := part hl
        refine ⟨_, hy, ?_⟩
        have hlen : ((e.cells.drop fo).take i.size).length = i.size := by simp; omega
        refine .agg _ _ (by simp only [List.size_toArray, List.length_map, List.length_range, hlen]) (fun m hm => ?_) (fun m hm => ?_)
        · rw [getD_ofFn _ _ _ (by omega)]; exact hone (fo + m) (by omega)
        · rw [getD_ofFn _ _ _ (by omega)]
          have e1 : ((e.cells.drop fo).take i.size).getD m .undef = e.cells.getD (fo + m) .undef := by
            simp [List.getD, List.getElem?_drop, show m < i.size by omega]
          rw [e1]; exact hv (fo + m) (by omega)
      · cases h
  | false =>
    simp only [hd] at h run
    simp only [Bool.false_eq_true, if_false] at h run
    have hl : fo < e.cells.length := (List.getElem?_eq_some_iff.1 h).1
    refine ⟨_, run (fun j hj => ?_), ?_⟩
    · have : j = 0 := by omega
      subst this; exact hc fo hl
    · have e1 : e.cells.getD fo .undef = v := by simp [List.getD, h]
      have := hv fo hl
      rw [e1] at this; exact this

end Go.Proofs.Am
