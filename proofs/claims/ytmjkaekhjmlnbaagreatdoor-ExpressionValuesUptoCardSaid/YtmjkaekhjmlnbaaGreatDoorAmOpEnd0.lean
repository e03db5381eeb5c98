/- All operations, the end. -/
import Derived.Test.YtmjkaekhjmlnbaaGreatDoorAmOpMore
set_option linter.unusedVariables false
set_option linter.unusedSimpArgs false
namespace Go.Proofs.Am
open Go Go.RowKit

section
variable {P : Program} {gs : List Nat} {c : Ctx} {A : Nat → Prop} {ρ : Nat → Option BR} {σ : St} {a : Act} {w : World}

theorem run_part_agg {t : TypeId} {i : TypeInfo} {u : TypeDesc} (hi : P.info? t = some i) (hu : P.underlying t = some u) (hd : descAgg u = true) (cs : Array Value) (off : Nat) :
    (part t cs off).run P w = .ok (.agg (cs.extract off (off + i.size))) w := by
  simp [part, run_isAgg' hu, hd, run_sizeOf' hi]

theorem run_part_one {t : TypeId} {i : TypeInfo} {u : TypeDesc} (hu : P.underlying t = some u) (hd : descAgg u = false) (cs : Array Value) (off : Nat) {v : Value} (h : cs[off]? = some v) :
    (part t cs off).run P w = .ok v w := by
  simp [part, run_isAgg' hu, hd, h]

theorem part_sound {t : TypeId} {ti : TI} (hti : tinfo P t = some ti) {x v : AV} {off : Nat} {cs : Array Value} (hag : aIsAgg x = true) (hx : ARep w A ρ x (.agg cs)) (h : aload ti x off = some v) :
    ∃ y, (part t cs off).run P w = .ok y w ∧ ARep w A ρ v y := by
  obtain ⟨i, u, z, hi, hu, _, _, hsz, hg, _, _⟩ := tinfo_parts hti
  have hone : cs.size = x.cells.length ∧ ∀ m, m < x.cells.length → (cs.getD m undef).oneCell' = true ∧ ARep w A ρ (x.cells.getD m .undef) (cs.getD m undef) := by
    cases hx with
    | agg xs _ hl ho hh => exact ⟨hl, fun m hm => ⟨ho m hm, hh m hm⟩⟩
    | d xd _ hd =>
      cases hd with
      | agg xs _ hl ho hh =>
        simp only [AV.cells, List.length_map]
        exact ⟨hl, fun m hm => ⟨ho m hm, by rw [getD_map_d _ _ hm]; exact .d _ _ (hh m hm)⟩⟩
    | un => simp [aIsAgg] at hag
  obtain ⟨hl, hh⟩ := hone
  unfold aload at h
  rw [hg] at h
  cases hd : descAgg u with
  | true =>
    simp only [hd, if_true] at h
    have run := run_part_agg (P := P) (w := w) hi hu hd cs off
    split at h
    · rename_i hc2
      obtain ⟨h0, hlen, _⟩ := hc2
      cases h
      subst h0
      refine ⟨_, run, ?_⟩
      have e : cs.extract 0 (0 + i.size) = cs := by rw [Nat.zero_add, ← hsz, ← hlen, ← hl]; exact Array.extract_size
      rw [e]; exact hx
    · split at h
      · rename_i hfit
        cases h
        refine ⟨_, run, .agg _ _ (by simp; omega) (fun m hm => ?_) (fun m hm => ?_)⟩
        · have hm : m < ti.sz := by simp at hm; omega
          have e : (cs.extract off (off + i.size)).getD m undef = cs.getD (off + m) undef := by
            have : off + m < cs.size := by omega
            have h2 : m < min (off + i.size) cs.size - off := by omega
            simp [Array.getD, this, h2]
          rw [e]; exact (hh _ (by omega)).1
        · have hm : m < ti.sz := by simp at hm; omega
          have e : (cs.extract off (off + i.size)).getD m undef = cs.getD (off + m) undef := by
            have : off + m < cs.size := by omega
            have h2 : m < min (off + i.size) cs.size - off := by omega
            simp [Array.getD, this, h2]
          have e1 : ((x.cells.drop off).take ti.sz).getD m .undef = x.cells.getD (off + m) .undef := by
            simp [List.getD, List.getElem?_drop, hm]
          rw [e, e1]; exact (hh _ (by omega)).2
      · cases h
  | false =>
    simp only [hd, Bool.false_eq_true, if_false] at h
    have hlt : off < x.cells.length := (List.getElem?_eq_some_iff.1 h).1
    have e1 : x.cells.getD off .undef = v := by simp [List.getD, h]
    have h2 : off < cs.size := by omega
    refine ⟨cs.getD off undef, run_part_one (i := i) hu hd cs off (by simp [Array.getD, h2]), ?_⟩
    have := (hh off hlt).2
    rw [e1] at this; exact this

theorem op_field (hc : CtxOk gs c) (hS : Sim c A ρ σ a w) {o : Oper} (hd : ∀ d, o.dst = some d → d < c.n) (s : TypeId) (x : Operand) (f : Nat) (hop : o.op = .field s x f) : OpGoal P gs c A ρ σ a w o := by
  intro tx K KP next Q h hfr hF hn hp
  simp only [hop, opB] at h
  have hex : execOp a.eval o = (do pure (.value (← Instr.field s (a.eval x) f))) := by rw [op_eq hop]; simp only [execOp]
  obtain ⟨v, hv, h⟩ := ofO_inv h
  have r1 := eval_rep hS x
  unfold fieldA at hv
  cases hf : fieldO P s f with
  | none => simp [hf] at hv
  | some p =>
    obtain ⟨off, ft⟩ := p
    obtain ⟨fs, fd, hu, hfs, rfl, rfl⟩ := fieldO_parts hf
    cases ht : tinfo P fd.type with
    | none => simp [hf, ht] at hv
    | some ti =>
      simp only [hf, ht, Option.bind_some] at hv
      split at hv
      · rename_i hag
        have hcs : ∃ cs, a.eval x = .agg cs := by
          generalize a.eval x = xv at r1
          generalize σ.eval x = xa at r1 hag
          cases r1 with
          | agg _ cs => exact ⟨cs, rfl⟩
          | d _ _ hd => cases hd <;> first | exact ⟨_, rfl⟩ | simp_all [aIsAgg]
          | _ => simp_all [aIsAgg]
        obtain ⟨cs, hcs⟩ := hcs
        rw [hcs] at r1 hex
        obtain ⟨y, hy, hyr⟩ := part_sound (P := P) ht hag r1 hv
        exact wp_val hS hd hex ⟨y, by simp [Instr.field, run_underlying hu, hfs, asAgg, hy], hyr⟩ h hn
      · cases hv

theorem op_panic (hc : CtxOk gs c) (hS : Sim c A ρ σ a w) {o : Oper} (hd : ∀ d, o.dst = some d → d < c.n) (x : Operand) (hop : o.op = .panic x) : OpGoal P gs c A ρ σ a w o := by
  intro tx K KP next Q h hfr hF hn hp
  simp only [hop, opB] at h
  have hr := eval_rep hS x
  split at h
  · rename_i t v he
    rw [he] at hr
    have hr := hr.ofD
    have hex : execOp a.eval o = (do pure (.value (← Instr.panic (a.eval x)))) := by rw [op_eq hop]; rfl
    unfold Oper.wp
    rw [hex]
    generalize a.eval x = y at hr
    cases hr with
    | iface _ _ y hy =>
      simp only [Instr.panic, Sem.run_bind, run_goPanic, Result.andThen_halt, Oper.upon_panic]
      exact hp _ _ _ A ρ w h (Names.refl _ _) { hS with } (.iface t v y hy)
  · rename_i t cs he
    split at h
    · rename_i ds hds
      rw [he] at hr
      have hex : execOp a.eval o = (do pure (.value (← Instr.panic (a.eval x)))) := by rw [op_eq hop]; rfl
      unfold Oper.wp
      rw [hex]
      generalize a.eval x = y at hr
      cases hr with
      | iface _ _ y hy =>
        simp only [Instr.panic, Sem.run_bind, run_goPanic, Result.andThen_halt, Oper.upon_panic]
        have e := allD_rep hds
        subst e
        cases hy with
        | agg _ vs hl hone hh =>
          refine hp _ _ _ A ρ w h (Names.refl _ _) { hS with } (.iface t _ _ (.agg ds vs (by simpa using hl) (fun i hi => hone i (by simpa using hi)) (fun i hi => ?_)))
          have := hh i (by simpa using hi)
          rw [getD_map_d _ _ hi] at this
          exact this.ofD
    · exact h.elim
  · exact h.elim
end
end Go.Proofs.Am
