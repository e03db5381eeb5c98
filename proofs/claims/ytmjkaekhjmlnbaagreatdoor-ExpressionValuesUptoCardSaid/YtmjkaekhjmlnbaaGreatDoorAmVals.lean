/- Operations that only make values. -/
import Derived.Test.YtmjkaekhjmlnbaaGreatDoorAmSound
import Derived.Laws.Small
import Derived.Laws.Strings
namespace Go.Proofs.Am
open Go Go.RowKit

section
variable {P : Program} {w : World} {A : Nat → Prop} {ρ : Nat → Option BR}

theorem fieldO_parts {s : TypeId} {f off : Nat} {ft : TypeId} (h : fieldO P s f = some (off, ft)) :
    ∃ fs fd, P.underlying s = some (.struct fs) ∧ fs[f]? = some fd ∧ fd.offset = off ∧ fd.type = ft := by
  unfold fieldO at h
  split at h
  · rename_i fs hu
    cases hf : fs[f]? with
    | none => simp [hf] at h
    | some fd => simp [hf] at h; exact ⟨fs, fd, hu, hf, h.1, h.2⟩
  · cases h

theorem fieldAddr_sound {s : TypeId} {x v : AV} {f : Nat} {xv : Value} (hx : ARep w A ρ x xv) (h : fieldAddrA P s x f = some v) :
    ∃ y, (Instr.fieldAt s xv f).run P w = .ok y w ∧ ARep w A ρ v y := by
  unfold fieldAddrA at h
  cases hf : fieldO P s f with
  | none => simp [hf] at h
  | some p =>
    obtain ⟨off, ft⟩ := p
    obtain ⟨fs, fd, hu, hfs, rfl, rfl⟩ := fieldO_parts hf
    cases ht : tinfo P fd.type with
    | none => simp [hf, ht] at h
    | some ti =>
      obtain ⟨i, u, z, hi, hu', _, _, hsz, _⟩ := tinfo_parts ht
      simp only [hf, ht, Option.bind_some] at h
      split at h
      · cases h
      · rename_i hne
        have hne' : ¬ i.size = 0 := by omega
        have run : ∀ (g o : Nat), (Instr.fieldAt s (.pointer (some ⟨g, o, none⟩)) f).run P w = .ok (.pointer (some ⟨g, o + fd.offset, none⟩)) w := fun g o => by
          simp [Instr.fieldAt, run_underlying hu, hfs, Instr.sureAddr, fieldPlace, run_sizeOf' hi, hne', add_at]
        split at h
        · cases h
          cases hx with
          | loc _ _ _ _ r h1 h2 => exact ⟨_, run _ _, by rw [Nat.add_assoc]; exact .loc _ _ _ _ r h1 h2⟩
        · cases h
          cases hx with
          | d _ _ h =>
            cases h with
            | pim _ _ _ c o es val hi hA hes hc hone hv => exact ⟨_, run _ _, by rw [Nat.add_assoc]; exact .d _ _ (.pim _ _ _ c o es val hi hA hes hc hone hv)⟩
        · cases h

theorem indexAddr_sound {t : TypeId} {x i v : AV} {xv iv : Value} (hx : ARep w A ρ x xv) (hi : ARep w A ρ i iv) (h : indexAddrA P t x i = some v) :
    ∃ y, (Instr.indexAt t xv iv).run P w = .ok y w ∧ ARep w A ρ v y := by
  unfold indexAddrA at h
  split at h
  · rename_i _ _ _ e els k n hu
    cases ht : tinfo P e with
    | none => simp [ht] at h
    | some ti =>
      obtain ⟨ii, u, z, hii, hu', _, _, hsz, _⟩ := tinfo_parts ht
      simp only [ht, Option.bind_some] at h
      split at h
      · rename_i hc
        obtain ⟨h0, h1, h2⟩ := hc
        cases h
        cases hi with
        | d _ _ hi =>
          cases hi
          cases hx with
          | d _ _ hx =>
            cases hx with
            | sim _ a cap c o es val hb hcap ha hes hc hone hv =>
              have hlt : n.toNat < els.length := by omega
              obtain ⟨rfl, hA⟩ := ha (by omega)
              have hee : es = ii.size := by rw [← hes _ hlt, h2, hsz]
              refine ⟨.pointer (some ⟨c, o + n.toNat * ii.size, none⟩), ?_, ?_⟩
              · simp [Instr.indexAt, asIntOf, run_underlying hu, h0, h1, run_sizeOf' hii, add_at]
              · subst hee; exact .d _ _ (.pim els n.toNat 0 c o ii.size val hlt hA hes hc hone hv)
      · cases h
  · rename_i _ _ _ e b es off len k n hu
    cases ht : tinfo P e with
    | none => simp [ht] at h
    | some ti =>
      obtain ⟨ii, u, z, hii, hu', _, _, hsz, _⟩ := tinfo_parts ht
      simp only [ht, Option.bind_some] at h
      split at h
      · rename_i hc
        obtain ⟨h0, h1, h2⟩ := hc
        cases h
        cases hi with
        | d _ _ hi =>
          cases hi
          cases hx with
          | slc _ _ _ _ r hr he hl =>
            refine ⟨.pointer (some ⟨r.g, off * es + n.toNat * ii.size, none⟩), ?_, ?_⟩
            · simp [Instr.indexAt, asIntOf, run_underlying hu, h0, h1, run_sizeOf' hii, add_at]
            · rw [show off * es + n.toNat * ii.size = (off + n.toNat) * es + 0 by rw [← hsz, h2, Nat.add_mul]; rfl]
              exact .loc b es _ 0 r hr he
      · cases h
  · rename_i _ _ _ n e b es k fo ik j hu
    cases ht : tinfo P e with
    | none => simp [ht] at h
    | some ti =>
      obtain ⟨ii, u, z, hii, hu', _, _, hsz, _⟩ := tinfo_parts ht
      simp only [ht, Option.bind_some] at h
      split at h
      · rename_i hc
        obtain ⟨h0, h1⟩ := hc
        cases h
        cases hi with
        | d _ _ hi =>
          cases hi
          cases hx with
          | loc _ _ _ _ r hr he =>
            refine ⟨.pointer (some ⟨r.g, k * es + fo + j.toNat * ii.size, none⟩), ?_, ?_⟩
            · simp [Instr.indexAt, asIntOf, run_underlying hu, Instr.sureAddr, h0, h1, run_sizeOf' hii, add_at]
            · rw [Nat.add_assoc, hsz]; exact .loc _ _ _ _ r hr he
      · cases h
  · rename_i _ _ _ n e els k fo ik j hu
    cases ht : tinfo P e with
    | none => simp [ht] at h
    | some ti =>
      obtain ⟨ii, u, z, hii, hu', _, _, hsz, _⟩ := tinfo_parts ht
      simp only [ht, Option.bind_some] at h
      split at h
      · rename_i hc
        obtain ⟨h0, h1⟩ := hc
        cases h
        cases hi with
        | d _ _ hi =>
          cases hi
          cases hx with
          | d _ _ hx =>
            cases hx with
            | pim _ _ _ c o es val hi hA hes hcc hone hv =>
              refine ⟨.pointer (some ⟨c, o + k * es + fo + j.toNat * ii.size, none⟩), ?_, ?_⟩
              · simp [Instr.indexAt, asIntOf, run_underlying hu, Instr.sureAddr, h0, h1, run_sizeOf' hii, add_at]
              · rw [Nat.add_assoc, hsz]; exact .d _ _ (.pim _ _ _ c o es val hi hA hes hcc hone hv)
      · cases h
  · cases h

theorem len_sound {t ty : TypeId} {x : AV} {v : DV} {xv : Value} (hx : ARep w A ρ x xv) (h : lenA P t x = some v) :
    ∃ y, (Builtin.len_ #[t] ty #[xv]).run P w = .ok y w ∧ DRep w A v y := by
  unfold lenA at h
  split at h <;> first | (cases h; done) | skip
  · rename_i _ _ s hu
    cases h
    cases hx with
    | d _ _ hx => cases hx; exact ⟨_, by simp [Builtin.len_, run_underlying hu, goInt], .int _ _⟩
  · rename_i _ _ e els hu
    cases h
    cases hx with
    | d _ _ hx => cases hx; exact ⟨_, by simp [Builtin.len_, run_underlying hu, goInt], .int _ _⟩
  · rename_i _ _ e hu
    cases h
    cases hx with
    | d _ _ hx => cases hx; exact ⟨_, by simp [Builtin.len_, run_underlying hu, goInt], .int _ _⟩
  · rename_i _ _ e b es off len hu
    cases h
    cases hx; exact ⟨_, by simp [Builtin.len_, run_underlying hu, goInt], .int _ _⟩
  · rename_i _ _ e hu
    cases h
    cases hx; exact ⟨_, by simp [Builtin.len_, run_underlying hu, goInt], .int _ _⟩

theorem intOp_sound {op : BinOp} {t : TypeId} {k : IntKind} {a b : Int} {v : DV} (h : intOp op k a b = some v) :
    ∃ y, (binOp op t (.int k a) (.int k b)).run P w = .ok y w ∧ DRep w A v y := by
  unfold intOp at h
  split at h
  case h_4 | h_5 =>
    split at h
    · cases h
    · rename_i hb
      cases h
      exact ⟨_, by simp only [binOp, Op.intDiv, hb, ne_eq, not_true_eq_false, if_false]; rfl, .int _ _⟩
  all_goals first
    | cases h; done
    | (cases h; exact ⟨_, by simp only [binOp, Op.intArith, Op.intBits, Op.intCmp, ne_eq, not_true_eq_false, if_false]; rfl, by first | exact .int _ _ | exact .bool _⟩)

theorem strOp_sound {op : BinOp} {t : TypeId} {a b : ByteArray} {v : DV} (h : strOp op a b = some v) :
    ∃ y, (binOp op t (.string a) (.string b)).run P w = .ok y w ∧ DRep w A v y := by
  unfold strOp at h
  rw [← ByteArray.toList_eq, ← ByteArray.toList_eq] at h
  split at h
  · split at h
    · rename_i hs
      cases h
      refine ⟨_, ?_, .str _ ?_⟩
      · simp only [binOp, Op.stringOp]
        rw [if_neg (by simp only [big] at hs; have : IntKind.i64.max = 9223372036854775807 := rfl; omega)]
        rfl
      · simpa [ByteArray.size_append] using hs
    · cases h
  all_goals first
    | cases h; done
    | (cases h; exact ⟨_, by simp only [binOp, Op.stringOp]; rfl, .bool _⟩)

theorem run_equal_slice_nil {t e : TypeId} (hu : P.underlying t = some (.slice e)) (a : Option Addr) (n c : Nat) :
    (Op.equal t (.slice a n c) (.slice none 0 0)).run P w = .ok a.isNone w := by
  have key : ∀ d, (Op.equalIn (d + 1) t (.slice a n c) (.slice none 0 0)).run P w = .ok a.isNone w := fun d => by
    cases a <;> simp [Op.equalIn, run_underlying hu]
  exact key 9999

theorem run_equal_bool' {t : TypeId} (hu : P.underlying t = some .bool) (a b : Bool) : (Op.equal t (.bool a) (.bool b)).run P w = .ok (a == b) w := run_equal_bool w t a b hu

theorem binD_sound {op : BinOp} {t : TypeId} {x y : AV} {v : DV} {xv yv : Value} {ox oy : Operand} (hx : ARep w A ρ x xv) (hy : ARep w A ρ y yv) (h : binD P op t x y = some v) :
    ∃ z, (do eqGuard op t ox oy xv yv; binOp op t xv yv : Sem Value).run P w = .ok z w ∧ DRep w A v z := by
  unfold binD at h
  split at h
  · rename_i _ _ k a k' b
    have hx := hx.ofD; have hy := hy.ofD; cases hx; cases hy
    have g : ∀ z : Value, (binOp op t (.int k a) (.int k' b)).run P w = .ok z w → (do eqGuard op t ox oy (.int k a) (.int k' b); binOp op t (.int k a) (.int k' b) : Sem Value).run P w = .ok z w := fun z hz => by
      simp only [Sem.run_bind, eqGuard]
      split <;> simp [hz]
    split at h
    · split at h
      · cases h
      · rename_i hb
        cases h
        exact ⟨_, g _ (by simp only [binOp, Op.shift, hb, if_false]; rfl), .int _ _⟩
    · split at h
      · cases h
      · rename_i hb
        cases h
        exact ⟨_, g _ (by simp only [binOp, Op.shift, hb, if_false]; rfl), .int _ _⟩
    · split at h
      · rename_i hk
        subst hk
        obtain ⟨z, hz, hd⟩ := intOp_sound (P := P) (w := w) (A := A) (t := t) h
        exact ⟨z, g z hz, hd⟩
      · cases h
  · rename_i _ _ a b
    have hx := hx.ofD; have hy := hy.ofD; cases hx; cases hy
    obtain ⟨z, hz, hd⟩ := strOp_sound (P := P) (w := w) (A := A) (t := t) h
    refine ⟨z, ?_, hd⟩
    simp only [Sem.run_bind, eqGuard]
    split <;> simp [hz]
  · rename_i _ _ a b
    split at h
    · rename_i hu
      have hx := hx.ofD; have hy := hy.ofD; cases hx; cases hy
      unfold eqOp at h
      split at h
      · cases h
        exact ⟨_, by simp [eqGuard, binOp, run_equal_bool' hu], .bool _⟩
      · cases h
        exact ⟨_, by simp [eqGuard, binOp, run_equal_bool' hu], .bool _⟩
      · cases h
    · cases h
  · split at h
    · rename_i e hu
      have hy := hy.ofD; cases hy
      have key : ∀ (a : Option Addr) (n c : Nat), xv = .slice a n c → eqOp op a.isNone = some v →
          ∃ z, (do eqGuard op t ox oy xv (.slice none 0 0); binOp op t xv (.slice none 0 0) : Sem Value).run P w = .ok z w ∧ DRep w A v z := fun a n c e1 e2 => by
        subst e1
        unfold eqOp at e2
        split at e2
        · cases e2
          exact ⟨_, by simp [eqGuard, binOp, run_equal_slice_nil hu], .bool _⟩
        · cases e2
          exact ⟨_, by simp [eqGuard, binOp, run_equal_slice_nil hu], .bool _⟩
        · cases e2
      cases hn : isNilSlice x with
      | none => simp [hn] at h
      | some b =>
        simp only [hn, Option.bind_some] at h
        unfold isNilSlice at hn
        split at hn
        · cases hn; have hx := hx.ofD; cases hx; exact key none 0 0 rfl h
        · cases hn; have hx := hx.ofD; cases hx; exact key _ _ _ rfl h
        · cases hn; cases hx; exact key _ _ _ rfl h
        · cases hn; cases hx; exact key _ _ _ rfl h
        · cases hn
    · cases h
  · cases h

theorem unD_sound {op : UnOp} {x : AV} {v : DV} {xv : Value} (hx : ARep w A ρ x xv) (h : unD op x = some v) :
    ∃ z, (Op.unary op xv).run P w = .ok z w ∧ DRep w A v z := by
  unfold unD at h
  split at h
  · cases h; have hx := hx.ofD; cases hx; exact ⟨_, rfl, .bool _⟩
  · cases h; have hx := hx.ofD; cases hx; exact ⟨_, rfl, .int _ _⟩
  · cases h; have hx := hx.ofD; cases hx; exact ⟨_, rfl, .int _ _⟩
  · cases h

theorem convA_sound {src dst : TypeId} {x v : AV} {xv : Value} (hx : ARep w A ρ x xv) (h : convA P src dst x = some v) :
    ∃ z, (convert src dst xv).run P w = .ok z w ∧ ARep w A ρ v z := by
  unfold convA at h
  split at h
  · rename_i _ _ _ u k _ n h1 h2
    cases h
    cases hx with
    | d _ _ hx => cases hx; exact ⟨_, by simp [convert, run_underlying h1, run_underlying h2, Conv.intToInt], .d _ _ (.int _ _)⟩
  · rename_i _ _ _ u s h1 h2
    cases h
    cases hx with
    | d _ _ hx =>
      cases hx with
      | str s hs =>
        refine ⟨.string s, ?_, .d _ _ (.str _ hs)⟩
        simp only [convert, Sem.run_bind, run_underlying h1, run_underlying h2, Result.andThen_ok]
        rfl
  · cases h

theorem sliceBounds_sound {isSlice : Bool} {len cap cap' : Nat} {lo hi : Option AV} {lov hiv : Option Value} {l h : Nat}
    (hlo : match lo, lov with | some x, some y => ARep w A ρ x y | none, none => True | _, _ => False)
    (hhi : match hi, hiv with | some x, some y => ARep w A ρ x y | none, none => True | _, _ => False)
    (hc : cap ≤ cap') (hl : len ≤ cap) (hh : sliceBoundsA len cap lo hi = some (l, h)) :
    (Instr.sliceBounds isSlice len cap' lov hiv none).run P w = .ok (l, h, cap') w ∧ l ≤ h ∧ h ≤ cap := by
  unfold sliceBoundsA at hh
  split at hh
  · split at hh
    · cases hh
      cases lov <;> cases hiv <;> simp_all [Instr.sliceBounds]
    · rename_i hn; exact absurd hl hn
  · split at hh
    · rename_i _ _ k n hb
      cases hh
      cases lov <;> cases hiv <;> simp only at hlo hhi
      have := hhi.ofD; cases this
      have h2 : n ≤ (cap' : Int) := by omega
      simp [Instr.sliceBounds, Instr.sliceBound, asIntOf, hb.1, h2]
      omega
    · cases hh
  · split at hh
    · rename_i _ _ k n hb
      cases hh
      cases lov <;> cases hiv <;> simp only at hlo hhi
      have := hlo.ofD; cases this
      simp [Instr.sliceBounds, Instr.sliceBound, asIntOf, hb.1, hb.2]
      omega
    · cases hh
  · split at hh
    · rename_i _ _ k n k' m hb
      cases hh
      cases lov <;> cases hiv <;> simp only at hlo hhi
      have := hlo.ofD; cases this
      have := hhi.ofD; cases this
      have h2 : n ≤ (cap' : Int) := by omega
      have h3 : 0 ≤ n := by omega
      have h4 : m ≤ ((n.toNat : Nat) : Int) := by omega
      simp [Instr.sliceBounds, Instr.sliceBound, asIntOf, hb.1, h2, h3]
      omega
    · cases hh
  · cases hh

theorem slice_sim {els : List DV} {cap c o es : Nat} {a : Addr} {val : Nat → Nat → Value} (hb : els.length ≤ big) (hcap : els.length ≤ cap)
    (ha : 0 < els.length → a = ⟨c, o, none⟩ ∧ A c) (hes : ∀ j, j < els.length → (els.getD j .inil).cells.length = es)
    (hc : ∀ j m, j < els.length → m < es → w.cell? ⟨c, o + j * es + m, none⟩ = some (val j m))
    (hone : ∀ j m, j < els.length → m < es → (val j m).oneCell' = true)
    (hv : ∀ j m, j < els.length → m < es → DRep w A ((els.getD j .inil).cells.getD m .inil) (val j m)) {l h : Nat} (hlh : l ≤ h) (hh : h ≤ els.length) :
    DRep w A (.sim ((els.drop l).take (h - l))) (.slice (some (if cap = l then a else a.add (l * es))) (h - l) (cap - l)) := by
  have hlen : ((els.drop l).take (h - l)).length = h - l := by simp; omega
  have hget : ∀ j, j < h - l → ((els.drop l).take (h - l)).getD j .inil = els.getD (l + j) .inil := fun j hj => by
    simp [List.getD, List.getElem?_drop, hj]
  have := DRep.sim (w := w) (A := A) ((els.drop l).take (h - l)) (if cap = l then a else a.add (l * es)) (cap - l) c (o + l * es) es (fun j m => val (l + j) m)
    (by omega) (by omega)
    (fun hp => by
      obtain ⟨rfl, hA⟩ := ha (by omega)
      rw [if_neg (by omega), add_at]; exact ⟨rfl, hA⟩)
    (fun j hj => by rw [hget j (by omega)]; exact hes _ (by omega))
    (fun j m hj hm => by rw [show o + l * es + j * es + m = o + (l + j) * es + m by rw [Nat.add_mul]; omega]; exact hc _ _ (by omega) hm)
    (fun j m hj hm => hone _ _ (by omega) hm)
    (fun j m hj hm => by rw [hget j (by omega)]; exact hv _ _ (by omega) hm)
  rw [hlen] at this
  exact this

theorem sliceA_sound {t : TypeId} {x v : AV} {lo hi : Option AV} {xv : Value} {lov hiv : Option Value}
    (hx : ARep w A ρ x xv) (hlo : match lo, lov with | some x, some y => ARep w A ρ x y | none, none => True | _, _ => False)
    (hhi : match hi, hiv with | some x, some y => ARep w A ρ x y | none, none => True | _, _ => False) (h : sliceA P t x lo hi = some v) :
    ∃ z, (Instr.sliceAt t xv lov hiv none).run P w = .ok z w ∧ ARep w A ρ v z := by
  unfold sliceA at h
  split at h
  · rename_i _ _ s hu
    cases hb : sliceBoundsA s.size s.size lo hi with
    | none => simp [hb] at h
    | some p =>
      obtain ⟨l, hh⟩ := p
      simp [hb] at h
      subst h
      have hx := hx.ofD
      cases hx with
      | str _ hs =>
        obtain ⟨h1, h2, h3⟩ := sliceBounds_sound (P := P) (isSlice := false) hlo hhi (Nat.le_refl _) (Nat.le_refl _) hb
        exact ⟨.string (s.extract l hh), by simp [Instr.sliceAt, run_underlying hu, Instr.slice, h1], .d _ _ (.str _ (by simp [ByteArray.size_extract]; omega))⟩
  · rename_i _ _ e els hu
    cases ht : tinfo P e with
    | none => simp [ht] at h
    | some ti =>
      obtain ⟨ii, u, z, hii, hu', _, _, hsz, _⟩ := tinfo_parts ht
      simp only [ht, Option.bind_some] at h
      split at h
      · rename_i hall
        cases hb : sliceBoundsA els.length els.length lo hi with
        | none => simp [hb] at h
        | some p =>
          obtain ⟨l, hh⟩ := p
          simp [hb] at h
          subst h
          have hx := hx.ofD
          cases hx with
          | sim _ a cap c o es val hbig hcap ha hes hc hone hv =>
            obtain ⟨h1, h2, h3⟩ := sliceBounds_sound (P := P) (isSlice := true) hlo hhi hcap (Nat.le_refl _) hb
            refine ⟨.slice (some (if cap = l then a else a.add (l * ii.size))) (hh - l) (cap - l), ?_, .d _ _ ?_⟩
            · simp only [Instr.sliceAt, Sem.run_bind, run_underlying hu, Result.andThen_ok, Instr.slice, h1, run_sizeOf' hii]
              by_cases hcl : cap = l <;> simp [hcl]
            · by_cases hp : 0 < els.length
              · have hee : es = ii.size := by
                  rw [← hes 0 hp, ← hsz]
                  have := (List.all_eq_true.1 hall) (els.getD 0 .inil) (by simp [List.getD, List.getElem?_eq_getElem hp])
                  simpa using this
                subst hee
                exact slice_sim hbig hcap ha hes hc hone hv h2 h3
              · have e0 : els = [] := List.eq_nil_of_length_eq_zero (by omega)
                subst e0
                have hl0 : l = 0 := by simp at h3; omega
                have hh0 : hh = 0 := by simpa using h3
                subst hl0; subst hh0
                have := DRep.sim (w := w) (A := A) [] (if cap = 0 then a else a.add (0 * ii.size)) cap 0 0 0 (fun _ _ => undef) (by simp) (by simp) (fun h => by simp at h) (fun j hj => by simp at hj) (fun j m hj => by simp at hj) (fun j m hj => by simp at hj) (fun j m hj => by simp at hj)
                simpa using this
      · cases h
  · rename_i _ _ e hu
    cases ht : tinfo P e with
    | none => simp [ht] at h
    | some ti =>
    obtain ⟨ii, u, z, hii, hu', _, _, hsz, _⟩ := tinfo_parts ht
    cases hb : sliceBoundsA 0 0 lo hi with
    | none => simp [ht, hb] at h
    | some p =>
      obtain ⟨l, hh⟩ := p
      simp [ht, hb] at h
      subst h
      have hx := hx.ofD
      cases hx
      obtain ⟨h1, h2, h3⟩ := sliceBounds_sound (P := P) (isSlice := true) hlo hhi (Nat.le_refl 0) (Nat.le_refl _) hb
      have hl0 : l = 0 := by omega
      have hh0 : hh = 0 := by omega
      subst hl0; subst hh0
      refine ⟨.slice none 0 0, ?_, .d _ _ .snil⟩
      simp [Instr.sliceAt, run_underlying hu, Instr.slice, h1, run_sizeOf' hii]
  · rename_i _ _ e b es off len hu
    cases ht : tinfo P e with
    | none => simp [ht] at h
    | some ti =>
      obtain ⟨ii, u, z, hii, hu', _, _, hsz, _⟩ := tinfo_parts ht
      simp only [ht, Option.bind_some] at h
      split at h
      · rename_i he
        cases hb : sliceBoundsA len len lo hi with
        | none => simp [hb] at h
        | some p =>
          obtain ⟨l, hh⟩ := p
          simp [hb] at h
          subst h
          cases hx with
          | slc _ _ _ _ r hr hre hl =>
            obtain ⟨h1, h2, h3⟩ := sliceBounds_sound (P := P) (isSlice := true) hlo hhi (show len ≤ r.cap - off by omega) (Nat.le_refl _) hb
            have hrun : (Instr.sliceAt t (.slice (some ⟨r.g, off * es, none⟩) len (r.cap - off)) lov hiv none).run P w =
                .ok (.slice (some (if r.cap - off = l then ⟨r.g, off * es, none⟩ else ⟨r.g, off * es + l * ii.size, none⟩)) (hh - l) (r.cap - off - l)) w := by
              simp only [Instr.sliceAt, Sem.run_bind, run_underlying hu, Result.andThen_ok, Instr.slice, h1, run_sizeOf' hii]
              by_cases hcl : r.cap - off = l <;> simp [hcl, add_at]
            refine ⟨_, hrun, ?_⟩
            by_cases hcase : l = 0 ∨ l < hh
            · rw [if_pos hcase]
              have e1 : (if r.cap - off = l then (⟨r.g, off * es, none⟩ : Addr) else ⟨r.g, off * es + l * ii.size, none⟩) = ⟨r.g, (off + l) * es, none⟩ := by
                rw [← hsz, he, Nat.add_mul]
                split
                · rename_i hcl
                  have : l = 0 := by omega
                  subst this; simp
                · rfl
              rw [e1, Nat.sub_sub]
              exact .slc b es (off + l) (hh - l) r hr hre (by omega)
            · rw [if_neg hcase]
              have e0 : hh - l = 0 := by omega
              rw [e0]
              exact .d _ _ (.sim [] _ _ 0 0 0 (fun _ _ => undef) (by simp) (by simp) (fun h => by simp at h) (fun j hj => by simp at hj) (fun j m hj => by simp at hj) (fun j m hj => by simp at hj) (fun j m hj => by simp at hj))
      · cases h
  · cases h
end
end Go.Proofs.Am
