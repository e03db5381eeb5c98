/- The errors of a value that is not one of those within it. -/
import Derived.Test.YtbbjgochocccoaaGreatDoorP3

set_option linter.unusedVariables false
set_option linter.unusedSimpArgs false
set_option maxRecDepth 100000
namespace Go.Proofs.Sx
open Go Go.Proofs Go.Proofs.Am 
variable {gs : List Nat}

theorem cmpI_anti (a b : Int) : cmpI b a = - cmpI a b := by unfold cmpI; split <;> split <;> (try split) <;> (try split) <;> omega
theorem thn_neg (a b : Int) : thn (-a) (-b) = - thn a b := by unfold thn; split <;> split <;> omega
theorem cmpN_anti : ∀ (a b : List ByteArray), cmpN b a = - cmpN a b
  | [], [] => by simp [cmpN]
  | [], _ :: _ => by simp [cmpN]
  | _ :: _, [] => by simp [cmpN]
  | x :: l, y :: r => by simp only [cmpN]; rw [cmpS_anti, cmpN_anti l r, thn_neg]
mutual
theorem cmpV_anti : ∀ (v w : V), cmpV w v = - cmpV v w
  | .mk k n e s nm it, .mk k' n' e' s' nm' it' => by
    rw [cmpV, cmpV, cmpI_anti k k', cmpI_anti n n', cmpI_anti e e', cmpS_anti s s', cmpN_anti, cmpO_eq, cmpO_eq, cmpOO_anti it it', thn_neg, thn_neg, thn_neg, thn_neg, thn_neg]
theorem cmpOO_anti : ∀ (a b : Option (List V)), cmpL (b.getD []) (a.getD []) = - cmpL (a.getD []) (b.getD [])
  | none, none => by simp [cmpL]
  | none, some [] => by simp [cmpL]
  | none, some (_ :: _) => by simp [cmpL]
  | some [], none => by simp [cmpL]
  | some (_ :: _), none => by simp [cmpL]
  | some l, some r => cmpL_anti l r
theorem cmpL_anti : ∀ (a b : List V), cmpL b a = - cmpL a b
  | [], [] => by simp [cmpL]
  | [], _ :: _ => by simp [cmpL]
  | _ :: _, [] => by simp [cmpL]
  | x :: l, y :: r => by rw [cmpL, cmpL, cmpV_anti x y, cmpL_anti l r, thn_neg]
end
/-- Values in order. -/
def SortedP (l : List V) : Prop := ∀ i, 1 ≤ i → i < l.length → cmpV (l.getD (i - 1) default) (l.getD i default) ≤ 0
open Classical in
noncomputable def sortedOk (l : List V) : Bool := decide (SortedP l)
theorem sortedOk_t (l : List V) : sortedOk l = true ↔ SortedP l := by simp [sortedOk]
theorem sortedOk_f (l : List V) : sortedOk l = false ↔ ¬ SortedP l := by simp [sortedOk]
def lv67 : Nat → List Nat × List Nat
  | 2 => ([0, 1, 5], [])
  | _ => ([], [])
theorem wrap_of {x : Int} {n : Nat} (h : x = n) (h2 : n ≤ 1152921504606846976) : IntKind.i64.wrap x = (n : Int) := by rw [wrap64 (by omega) (by omega), h]
theorem pc67 (o : Option (List V)) (ho : okO o) : PureCall Tryz.prog [0] 135 [encO o, .fn 136 []] (dRet (.bool (sortedOk (o.getD [])))) := by
  have hl := okO_len ho
  refine zD2 mixed fn67 (Nat.le_of_ble_eq_true rfl) (Nat.lt_of_succ_le (Nat.le_of_ble_eq_true rfl)) (sfOk (.cons ok68 .nil)) TbOk (lv := lv67) fun I F hI hF => ?_
  refine zD7 fun C hC => ?_
  generalize hgen0 : encO o = gen0
  cbv
  subst hgen0
  subst hC
  refine ⟨?_⟩
  simp (maxSteps := 3000000) only [hI, hF, std]
  simp only [smp, lookOk, lookRes, sfOf, sgOf, hOk, hRes, hOut, ↓reduceIte, Nat.reduceEqDiff, reduceCtorEq, zC2, zA2, zB6, zA5, zB4, zB5, zA4, zB3, zA3, zB2, zC1, zA1, zB1, zA0, zB0]
  have wl : IntKind.i64.wrap (((o.getD []).length : Int) - 1) = ((o.getD []).length : Int) - 1 := wrap64 (by omega) (by omega)
  simp [wl]
  refine zD8 (kend := fun I => kEndF I Tb [.tmp 4]) hI hF (sfOk (.cons ok68 .nil)) TbOk (by exact fun Bk e s h => endF TbOk Bk e s h) (lv := lv67) 0 (fun i : {i : Nat // i ≤ (o.getD []).length ∧ ∀ j, i ≤ j → 1 ≤ j → j < (o.getD []).length → cmpV ((o.getD []).getD (j - 1) default) ((o.getD []).getD j default) ≤ 0} => [.d (encO o), .d (.fn 136 []), .d (.int .i64 ((i.1 : Int) - 1))]) (fun i : {i : Nat // i ≤ (o.getD []).length ∧ ∀ j, i ≤ j → 1 ≤ j → j < (o.getD []).length → cmpV ((o.getD []).getD (j - 1) default) ((o.getD []).getD j default) ≤ 0} => []) (fun i : {i : Nat // i ≤ (o.getD []).length ∧ ∀ j, i ≤ j → 1 ≤ j → j < (o.getD []).length → cmpV ((o.getD []).getD (j - 1) default) ((o.getD []).getD j default) ≤ 0} => i.1) [] (⟨(o.getD []).length, by omega, fun j h1 h2 h3 => by omega⟩ : {i : Nat // i ≤ (o.getD []).length ∧ ∀ j, i ≤ j → 1 ≤ j → j < (o.getD []).length → cmpV ((o.getD []).getD (j - 1) default) ((o.getD []).getD j default) ≤ 0}) (by rfl) (by rfl) ?_ ?_ fun i => ?_
  · rfl
  · rfl
  obtain ⟨i, hi1, hi2⟩ := i
  refine zD7 fun C hC => ?_
  generalize hgen0 : encO o = gen0
  generalize hgen1 : DV.int .i64 ((i : Int) - 1) = gen1
  cbv
  subst hgen0
  subst hgen1
  subst hC
  refine ⟨?_⟩
  simp (maxSteps := 3000000) only [hI, hF, std]
  by_cases hlt : 1 < i
  · have h1 : i - 1 < (o.getD []).length := by omega
    have h2 : i - 2 < (o.getD []).length := by omega
    have t1 : ((i : Int) - 1).toNat = i - 1 := by omega
    have t2 : IntKind.i64.wrap ((i : Int) - 1 - 1) = ((i - 2 : Nat) : Int) := wrap_of (by omega) (by omega)
    have g1 := get_enc _ _ h1
    have g2 := get_enc _ _ h2
    have k1 := okO_get ho h1
    have k2 := okO_get ho h2
    simp only [smp, lookOk, lookRes, sfOf, sgOf, hOk, hRes, hOut, ↓reduceIte, Nat.reduceEqDiff, reduceCtorEq, zC2, zA2, zB6, zA5, zB4, zB5, zA4, zB3, zA3, zB2, zC1, zA1, zB1, zA0, zB0, e68, t1, t2, g1, g2]
    simp [- List.getD_eq_getElem?_getD, zC2, zA2, zB6, zA5, zB4, zB5, zA4, zB3, zA3, zB2, zC1, zA1, zB1, zA0, zB0, k1, k2, natCast_fold]
    have ha := cmpV_anti ((o.getD []).getD (i - 1) default) ((o.getD []).getD (i - 2) default)
    have hj : ∀ j, i - 1 ≤ j → 1 ≤ j → j < (o.getD []).length → 0 ≤ cmpV ((o.getD []).getD (i - 1) default) ((o.getD []).getD (i - 2) default) → cmpV ((o.getD []).getD (j - 1) default) ((o.getD []).getD j default) ≤ 0 := fun j a b c hc => by
      by_cases hji : j = i - 1
      · subst hji
        rw [show i - 1 - 1 = i - 2 by omega]; omega
      · exact hi2 j (by omega) b c
    refine ⟨fun _ => ⟨by clear t2; omega, by clear t2; omega, fun h => (sortedOk_f _).2 fun hs => ?_, fun h => ⟨i - 1, by clear t2; omega, ⟨by clear t2; omega, fun j a b c => hj j a b c h⟩, by clear t2; omega⟩⟩, fun h => by clear t2; omega⟩
    have := hs (i - 1) (by clear t2; omega) h1
    rw [show i - 1 - 1 = i - 2 by omega] at this
    omega
  · have hs : sortedOk (o.getD []) = true := (sortedOk_t _).2 fun j a b => hi2 j (by omega) a b
    have hn : ¬ (1 : Int) < i := by omega
    simp only [smp, lookOk, lookRes, sfOf, sgOf, hOk, hRes, hOut, ↓reduceIte, Nat.reduceEqDiff, reduceCtorEq, zC2, zA2, zB6, zA5, zB4, zB5, zA4, zB3, zA3, zB2, zC1, zA1, zB1, zA0, zB0, e68]
    simp [- List.getD_eq_getElem?_getD, hn, hs]
open Classical in
noncomputable def e67 : Ent := ⟨135, fun | [d_o, .fn 136 []] => decide (isVs d_o) | _ => false, fun | [d_o, .fn 136 []] => .bool (sortedOk ((toVs d_o).getD [])) | _ => .inil⟩
open Classical in
theorem ok67 : EntOk Tryz.prog [0] e67 := fun ds h => by
  unfold e67 at h ⊢
  simp only at h ⊢
  split at h
  · rw [decide_eq_true_iff] at h
    obtain ⟨v0, rfl, k0⟩ := h
    simp only [zB2, zA1, zA0]
    exact pc67 _ k0
  · cases h

/-- All names are names; some name stands twice. -/
def NamesP (l : List ByteArray) : Prop := ∀ i, i < l.length → nameOk (l.getD i ⟨#[]⟩) = true
def DoubleP (l : List ByteArray) : Prop := ∃ i j, j < i ∧ i < l.length ∧ l.getD j ⟨#[]⟩ = l.getD i ⟨#[]⟩
open Classical in
noncomputable def ownE (v : V) : Int :=
  if ¬ ((1 ≤ v.k ∧ v.k ≤ 6) ∨ (9 ≤ v.k ∧ v.k ≤ 12) ∨ v.k = 14) then 4
  else if v.e ≠ 0 ∨ (¬(v.k = 1 ∨ v.k = 2 ∨ v.k = 14) ∧ v.n ≠ 0) ∨ (¬(3 ≤ v.k ∧ v.k ≤ 6) ∧ v.s ≠ ⟨#[]⟩) ∨ (¬(v.k = 9 ∨ v.k = 12) ∧ v.names ≠ []) ∨ (¬(9 ≤ v.k ∧ v.k ≤ 12) ∧ v.items ≠ []) then 5
  else if (v.k = 1 ∧ ¬(0 ≤ v.n ∧ v.n ≤ 1)) ∨ (v.k = 14 ∧ ¬(0 ≤ v.n ∧ v.n ≤ 4)) then 5
  else if ((v.k = 9 ∨ v.k = 12) ∧ (v.names.length : Int) ≠ v.items.length) ∨ (v.k = 12 ∧ (v.items.length : Int) ≠ 1) then 6
  else if (v.s.size : Int) > 200 ∨ (v.k = 9 ∧ (v.items.length : Int) > 16) ∨ (v.items.length : Int) > 40 then 2
  else if (v.k = 2 ∧ ¬(-1152921504606846976 ≤ v.n ∧ v.n ≤ 1152921504606846976)) ∨ charsOk v = false then 3
  else if (v.k = 3 ∧ nameOk v.s = false) ∨ ¬ NamesP v.names then 7
  else if DoubleP v.names then 13
  else if v.k = 11 ∧ sortedOk v.items = false then 14
  else 0

/-- A value that passes all tests but those of its names and of its order. -/
structure Good (v : V) : Prop where
  kind : (1 ≤ v.k ∧ v.k ≤ 6) ∨ (9 ≤ v.k ∧ v.k ≤ 12) ∨ v.k = 14
  form : ¬ (v.e ≠ 0 ∨ (¬(v.k = 1 ∨ v.k = 2 ∨ v.k = 14) ∧ v.n ≠ 0) ∨ (¬(3 ≤ v.k ∧ v.k ≤ 6) ∧ v.s ≠ ⟨#[]⟩) ∨ (¬(v.k = 9 ∨ v.k = 12) ∧ v.names ≠ []) ∨ (¬(9 ≤ v.k ∧ v.k ≤ 12) ∧ v.items ≠ []))
  form2 : ¬ ((v.k = 1 ∧ ¬(0 ≤ v.n ∧ v.n ≤ 1)) ∨ (v.k = 14 ∧ ¬(0 ≤ v.n ∧ v.n ≤ 4)))
  shape : ¬ (((v.k = 9 ∨ v.k = 12) ∧ (v.names.length : Int) ≠ v.items.length) ∨ (v.k = 12 ∧ (v.items.length : Int) ≠ 1))
  large : ¬ ((v.s.size : Int) > 200 ∨ (v.k = 9 ∧ (v.items.length : Int) > 16) ∨ (v.items.length : Int) > 40)
  range : ¬ ((v.k = 2 ∧ ¬(-1152921504606846976 ≤ v.n ∧ v.n ≤ 1152921504606846976)) ∨ charsOk v = false)
  name : ¬ (v.k = 3 ∧ nameOk v.s = false)
theorem ownE_good {v : V} (h : Good v) : (¬ NamesP v.names → ownE v = 7) ∧ (NamesP v.names → DoubleP v.names → ownE v = 13) ∧ (NamesP v.names → ¬ DoubleP v.names → v.k = 11 ∧ sortedOk v.items = false → ownE v = 14) ∧ (NamesP v.names → ¬ DoubleP v.names → ¬ (v.k = 11 ∧ sortedOk v.items = false) → ownE v = 0) := by
  have hk : ¬ ¬ ((1 ≤ v.k ∧ v.k ≤ 6) ∨ (9 ≤ v.k ∧ v.k ≤ 12) ∨ v.k = 14) := fun hn => hn h.kind
  unfold ownE
  rw [if_neg hk, if_neg h.form, if_neg h.form2, if_neg h.shape, if_neg h.large, if_neg h.range]
  refine ⟨fun a => if_pos (.inr a), fun a b => ?_, fun a b c => ?_, fun a b c => ?_⟩
  · rw [if_neg (fun hc => hc.elim h.name (fun x => x a)), if_pos b]
  · rw [if_neg (fun hc => hc.elim h.name (fun x => x a)), if_neg b, if_pos c]
  · rw [if_neg (fun hc => hc.elim h.name (fun x => x a)), if_neg b, if_neg c]

theorem idxS_self : ∀ {l : List ByteArray} {m : Nat}, m < l.length → (idxS l (l.getD m ⟨#[]⟩) = (m : Int) ↔ ∀ j, j < m → l.getD j ⟨#[]⟩ ≠ l.getD m ⟨#[]⟩)
  | l, m, h => by
    constructor
    · intro he j hj hc
      -- the first place is not behind j
      have : ∀ {l : List ByteArray} {s : ByteArray} {j : Nat}, j < l.length → l.getD j ⟨#[]⟩ = s → idxS l s ≤ j := by
        intro l
        induction l with
        | nil => intro s j hj; simp at hj
        | cons x l ih =>
          intro s j hj hs
          simp only [idxS]
          cases j with
          | zero => simp at hs; simp [hs]
          | succ j =>
            have := ih (s := s) (j := j) (by simpa using hj) (by simpa using hs)
            split
            · omega
            · split <;> omega
      have := this (by omega) hc
      omega
    · intro hn; exact idxS_some h rfl hn
def lv69 : Nat → List Nat × List Nat
  | 21 => ([1, 3, 8], [0])
  | 26 => ([1, 3, 9], [0])
  | 31 => ([1, 3, 10], [0])
  | _ => ([], [])
set_option maxHeartbeats 8000000 in
theorem pc69 (v : V) (hv : v.ok) : PureCall Tryz.prog [0] 132 [v.enc] (dRet (.int .i64 (ownE v))) := by
  refine zD2 mixed fn69 (Nat.le_of_ble_eq_true rfl) (Nat.lt_of_succ_le (Nat.le_of_ble_eq_true rfl)) (sfOk (.cons ok88 (.cons ok41 (.cons ok89 (.cons ok25 (.cons ok90 (.cons ok36 .nil))))))) TbOk (lv := lv69) fun I F hI hF => ?_
  refine zD7 fun C hC => ?_
  generalize hgen0 : v.enc = gen0
  cbv
  subst hgen0
  subst hC
  refine ⟨?_⟩
  simp (maxSteps := 3000000) only [hI, hF, std]
  simp only [smp, lookOk, lookRes, sfOf, sgOf, hOk, hRes, hOut, ↓reduceIte, Nat.reduceEqDiff, reduceCtorEq, zC2, zA2, zB6, zA5, zB4, zB5, zA4, zB3, zA3, zB2, zC1, zA1, zB1, zA0, zB0, e88, e41, e89, e25, e90, e36]
  have e1 : v.nm.getD [] = v.names := rfl
  have e3 : v.it.getD [] = v.items := rfl
  generalize hL : Sat Tryz.prog [0] _ (Tree.loop _ _ _ _ _ _ _) = L
  have loops : Good v → L := by
    intro hg
    rw [← hL]
    clear hL
    obtain ⟨o1, o2, o3, o4⟩ := ownE_good hg
    have nl := V.ok_nl hv
    have il := V.ok_il hv
    refine zD8 (kend := fun I => kEndF I Tb [.tmp 2]) hI hF (sfOk (.cons ok88 (.cons ok41 (.cons ok89 (.cons ok25 (.cons ok90 (.cons ok36 .nil))))))) TbOk (by exact fun Bk e s h => endF TbOk Bk e s h) (lv := lv69) 0 (fun i : {i : Nat // i ≤ v.names.length ∧ ∀ j, j < i → nameOk (v.names.getD j ⟨#[]⟩) = true} => [.loc 0 6 0 0, .d (.int .i64 v.k), .d (.int .i64 (i.1 : Int))]) (fun i : {i : Nat // i ≤ v.names.length ∧ ∀ j, j < i → nameOk (v.names.getD j ⟨#[]⟩) = true} => [(0, some ⟨[.d v.enc], 6, 42, true, true⟩)]) (fun i : {i : Nat // i ≤ v.names.length ∧ ∀ j, j < i → nameOk (v.names.getD j ⟨#[]⟩) = true} => v.names.length - i.1) [0] (⟨0, by omega, fun j h => by omega⟩ : {i : Nat // i ≤ v.names.length ∧ ∀ j, j < i → nameOk (v.names.getD j ⟨#[]⟩) = true}) (by rfl) (by rfl) ?_ ?_ fun i => ?_
    · rfl
    · rfl
    obtain ⟨i, hi1, hi2⟩ := i
    refine zD7 fun C hC => ?_
    generalize hgen0 : v.enc = gen0
    generalize hgen1 : DV.int .i64 v.k = gen1
    generalize hgen2 : DV.int .i64 (i : Int) = gen2
    cbv
    subst hgen0
    subst hgen1
    subst hgen2
    subst hC
    refine ⟨?_⟩
    simp (maxSteps := 3000000) only [hI, hF, std]
    have w3 := zE0 (n := i) (by omega)
    by_cases hlt : i < v.names.length
    · have g1 := zH6 _ _ hlt
      simp only [smp, lookOk, lookRes, sfOf, sgOf, hOk, hRes, hOut, ↓reduceIte, Nat.reduceEqDiff, reduceCtorEq, zC2, zA2, zB6, zA5, zB4, zB5, zA4, zB3, zA3, zB2, zC1, zA1, zB1, zA0, zB0, e88, e41, e89, e25, e90, e36, e1, g1]
      simp [hlt, w3, - List.getD_eq_getElem?_getD]
      refine ⟨fun h => (o1 fun hn => ?_).symm, fun h => ⟨i + 1, by omega, ⟨by omega, fun j hj => ?_⟩, by simp⟩⟩
      · have := hn i hlt
        rw [h] at this; cases this
      · by_cases hji : j = i
        · subst hji; exact h
        · exact hi2 j (by omega)
    have hnames : NamesP v.names := fun j hj => hi2 j (by omega)
    simp only [smp, lookOk, lookRes, sfOf, sgOf, hOk, hRes, hOut, ↓reduceIte, Nat.reduceEqDiff, reduceCtorEq, zC2, zA2, zB6, zA5, zB4, zB5, zA4, zB3, zA3, zB2, zC1, zA1, zB1, zA0, zB0, e88, e41, e89, e25, e90, e36, e1]
    have hn : ¬ (i : Int) < v.names.length := by omega
    simp [hlt, hn, - List.getD_eq_getElem?_getD]
    refine zD8 (kend := fun I => kEndF I Tb [.tmp 2]) hI hF (sfOk (.cons ok88 (.cons ok41 (.cons ok89 (.cons ok25 (.cons ok90 (.cons ok36 .nil))))))) TbOk (by exact fun Bk e s h => endF TbOk Bk e s h) (lv := lv69) 1 (fun i : {i : Nat // i ≤ v.names.length ∧ ∀ a b, a < i → b < a → v.names.getD b ⟨#[]⟩ ≠ v.names.getD a ⟨#[]⟩} => [.loc 0 6 0 0, .d (.int .i64 v.k), .d (.int .i64 (i.1 : Int))]) (fun i : {i : Nat // i ≤ v.names.length ∧ ∀ a b, a < i → b < a → v.names.getD b ⟨#[]⟩ ≠ v.names.getD a ⟨#[]⟩} => [(0, some ⟨[.d v.enc], 6, 42, true, true⟩)]) (fun i : {i : Nat // i ≤ v.names.length ∧ ∀ a b, a < i → b < a → v.names.getD b ⟨#[]⟩ ≠ v.names.getD a ⟨#[]⟩} => v.names.length - i.1) [0] (⟨0, by omega, fun a b h => by omega⟩ : {i : Nat // i ≤ v.names.length ∧ ∀ a b, a < i → b < a → v.names.getD b ⟨#[]⟩ ≠ v.names.getD a ⟨#[]⟩}) (by rfl) (by rfl) ?_ ?_ fun i => ?_
    · rfl
    · rfl
    clear hlt w3 hn
    obtain ⟨m, hm1, hm2⟩ := i
    refine zD7 fun C hC => ?_
    generalize hgen0 : v.enc = gen0
    generalize hgen1 : DV.int .i64 v.k = gen1
    generalize hgen2 : DV.int .i64 (m : Int) = gen2
    cbv
    subst hgen0
    subst hgen1
    subst hgen2
    subst hC
    refine ⟨?_⟩
    simp (maxSteps := 3000000) only [hI, hF, std]
    have w3 := zE0 (n := m) (by omega)
    by_cases hlt : m < v.names.length
    · have g1 := zH6 _ _ hlt
      have hok : okS0 v.nm := V.ok_nm hv
      simp only [smp, lookOk, lookRes, sfOf, sgOf, hOk, hRes, hOut, ↓reduceIte, Nat.reduceEqDiff, reduceCtorEq, zC2, zA2, zB6, zA5, zB4, zB5, zA4, zB3, zA3, zB2, zC1, zA1, zB1, zA0, zB0, e88, e41, e89, e25, e90, e36, e1, g1]
      simp [hlt, w3, - List.getD_eq_getElem?_getD, hok, zC2, zA2, zB6, zA5, zB4, zB5, zA4, zB3, zA3, zB2, zC1, zA1, zB1, zA0, zB0]
      have hself := idxS_self hlt
      refine ⟨fun h => (o2 hnames ?_).symm, fun h => ⟨m + 1, by omega, ⟨by omega, fun a b ha hb => ?_⟩, by simp⟩⟩
      · by_cases hd : ∃ j, j < m ∧ v.names.getD j ⟨#[]⟩ = v.names.getD m ⟨#[]⟩
        · obtain ⟨j, h1, h2⟩ := hd; exact ⟨m, j, h1, hlt, h2⟩
        · exact absurd (hself.2 fun j hj he => hd ⟨j, hj, he⟩) h
      · by_cases ham : a = m
        · subst ham; exact hself.1 h b hb
        · exact hm2 a b (by omega) hb
    have hdbl : ¬ DoubleP v.names := fun ⟨a, b, h1, h2, h3⟩ => hm2 a b (by omega) h1 h3
    simp only [smp, lookOk, lookRes, sfOf, sgOf, hOk, hRes, hOut, ↓reduceIte, Nat.reduceEqDiff, reduceCtorEq, zC2, zA2, zB6, zA5, zB4, zB5, zA4, zB3, zA3, zB2, zC1, zA1, zB1, zA0, zB0, e88, e41, e89, e25, e90, e36, e1]
    have hn : ¬ (m : Int) < v.names.length := by omega
    simp [hlt, hn, - List.getD_eq_getElem?_getD]
    clear hlt w3 hn
    refine zD8 (kend := fun I => kEndF I Tb [.tmp 2]) hI hF (sfOk (.cons ok88 (.cons ok41 (.cons ok89 (.cons ok25 (.cons ok90 (.cons ok36 .nil))))))) TbOk (by exact fun Bk e s h => endF TbOk Bk e s h) (lv := lv69) 2 (fun i : {i : Nat // 1 ≤ i ∧ i ≤ v.items.length + 1 ∧ (v.k = 11 → ∀ j, 1 ≤ j → j < i → j < v.items.length → cmpV (v.items.getD (j - 1) default) (v.items.getD j default) ≤ 0)} => [.loc 0 6 0 0, .d (.int .i64 v.k), .d (.int .i64 (i.1 : Int))]) (fun i : {i : Nat // 1 ≤ i ∧ i ≤ v.items.length + 1 ∧ (v.k = 11 → ∀ j, 1 ≤ j → j < i → j < v.items.length → cmpV (v.items.getD (j - 1) default) (v.items.getD j default) ≤ 0)} => [(0, some ⟨[.d v.enc], 6, 42, true, true⟩)]) (fun i : {i : Nat // 1 ≤ i ∧ i ≤ v.items.length + 1 ∧ (v.k = 11 → ∀ j, 1 ≤ j → j < i → j < v.items.length → cmpV (v.items.getD (j - 1) default) (v.items.getD j default) ≤ 0)} => v.items.length + 1 - i.1) [0] (⟨1, by omega, by omega, fun _ j a b => by omega⟩ : {i : Nat // 1 ≤ i ∧ i ≤ v.items.length + 1 ∧ (v.k = 11 → ∀ j, 1 ≤ j → j < i → j < v.items.length → cmpV (v.items.getD (j - 1) default) (v.items.getD j default) ≤ 0)}) (by rfl) (by rfl) ?_ ?_ fun i => ?_
    · rfl
    · rfl
    obtain ⟨q, hq1, hq2, hq3⟩ := i
    refine zD7 fun C hC => ?_
    generalize hgen0 : v.enc = gen0
    generalize hgen1 : DV.int .i64 v.k = gen1
    generalize hgen2 : DV.int .i64 (q : Int) = gen2
    cbv
    subst hgen0
    subst hgen1
    subst hgen2
    subst hC
    refine ⟨?_⟩
    simp (maxSteps := 3000000) only [hI, hF, std]
    have w3 := zE0 (n := q) (by omega)
    have w2 := wrap_pred hq1 (by omega)
    by_cases hlt : q < v.items.length ∧ v.k = 11
    · have hp : q - 1 < v.items.length := by omega
      have g1 := get_enc _ _ hlt.1
      have g2 := get_enc _ _ hp
      have k1 := V.ok_get hv hlt.1
      have k2 := V.ok_get hv hp
      simp only [smp, lookOk, lookRes, sfOf, sgOf, hOk, hRes, hOut, ↓reduceIte, Nat.reduceEqDiff, reduceCtorEq, zC2, zA2, zB6, zA5, zB4, zB5, zA4, zB3, zA3, zB2, zC1, zA1, zB1, zA0, zB0, e88, e41, e89, e25, e90, e36, e3, w2, g1, g2]
      simp [hlt, w3, - List.getD_eq_getElem?_getD, k1, k2, zC2, zA2, zB6, zA5, zB4, zB5, zA4, zB3, zA3, zB2, zC1, zA1, zB1, zA0, zB0]
      refine ⟨hp, fun h => (o3 hnames hdbl ⟨hlt.2, (sortedOk_f _).2 fun hs => ?_⟩).symm, fun h => ⟨q + 1, by omega, ⟨by omega, by omega, fun j a b c => ?_⟩, by simp⟩⟩
      · have := hs q hq1 hlt.1; omega
      · by_cases hj : j = q
        · subst hj; exact h
        · exact hq3 hlt.2 j a (by omega) c
    · simp only [smp, lookOk, lookRes, sfOf, sgOf, hOk, hRes, hOut, ↓reduceIte, Nat.reduceEqDiff, reduceCtorEq, zC2, zA2, zB6, zA5, zB4, zB5, zA4, zB3, zA3, zB2, zC1, zA1, zB1, zA0, zB0, e88, e41, e89, e25, e90, e36, e3]
      have hn : ¬ ((q : Int) < v.items.length ∧ v.k = 11) := by omega
      simp [- List.getD_eq_getElem?_getD]
      refine ⟨fun a b => absurd ⟨a, b⟩ hlt, fun _ => (o4 hnames hdbl fun hc => ?_).symm⟩
      have hle : ¬ q < v.items.length := fun h => hlt ⟨h, hc.1⟩
      exact (sortedOk_f _).1 hc.2 fun j a b => hq3 hc.1 j a (by omega) b
  simp only [zC2, zA2, zB6, zA5, zB4, zB5, zA4, zB3, zA3, zB2, zC1, zA1, zB1, zA0, zB0, hv, e1, e3, decide_true]
  by_cases c1 : ¬ ((1 ≤ v.k ∧ v.k ≤ 6) ∨ (9 ≤ v.k ∧ v.k ≤ 12) ∨ v.k = 14)
  · have hE : ownE v = 4 := by unfold ownE; rw [if_pos c1]
    have q1 : (decide (1 ≤ v.k) && decide (v.k ≤ 6)) = false := by simp; omega
    have q2 : (decide (9 ≤ v.k) && decide (v.k ≤ 12)) = false := by simp; omega
    have q3 : ¬ v.k = 14 := by omega
    simp [q1, q2, q3, hE]
  have hk : v.k = 1 ∨ v.k = 2 ∨ v.k = 3 ∨ v.k = 4 ∨ v.k = 5 ∨ v.k = 6 ∨ v.k = 9 ∨ v.k = 10 ∨ v.k = 11 ∨ v.k = 12 ∨ v.k = 14 := by omega
  have hE : ownE v = ownE v := rfl
  conv at hE => rhs; unfold ownE
  rw [if_neg c1] at hE
  have gd : (¬ (v.e ≠ 0 ∨ (¬(v.k = 1 ∨ v.k = 2 ∨ v.k = 14) ∧ v.n ≠ 0) ∨ (¬(3 ≤ v.k ∧ v.k ≤ 6) ∧ v.s ≠ ⟨#[]⟩) ∨ (¬(v.k = 9 ∨ v.k = 12) ∧ v.names ≠ []) ∨ (¬(9 ≤ v.k ∧ v.k ≤ 12) ∧ v.items ≠ []))) →
    ¬ ((v.k = 1 ∧ ¬(0 ≤ v.n ∧ v.n ≤ 1)) ∨ (v.k = 14 ∧ ¬(0 ≤ v.n ∧ v.n ≤ 4))) →
    ¬ (((v.k = 9 ∨ v.k = 12) ∧ (v.names.length : Int) ≠ v.items.length) ∨ (v.k = 12 ∧ (v.items.length : Int) ≠ 1)) →
    ¬ ((v.s.size : Int) > 200 ∨ (v.k = 9 ∧ (v.items.length : Int) > 16) ∨ (v.items.length : Int) > 40) →
    ¬ ((v.k = 2 ∧ ¬(-1152921504606846976 ≤ v.n ∧ v.n ≤ 1152921504606846976)) ∨ charsOk v = false) →
    ¬ (v.k = 3 ∧ nameOk v.s = false) → L := fun a b c d e f => loops ⟨Classical.not_not.1 c1, a, b, c, d, e, f⟩
  clear loops hL
  rcases hk with h | h | h | h | h | h | h | h | h | h | h
  all_goals simp [h] at hE gd
  all_goals simp [h]
  all_goals clear hI hF hv c1 e1 e3
  all_goals have ln : 0 < v.names.length ↔ ¬ v.names = [] := List.length_pos_iff
  all_goals have li : 0 < v.items.length ↔ ¬ v.items = [] := List.length_pos_iff
  all_goals try simp only [ln, li]
  all_goals clear ln li
  all_goals grind
open Classical in
noncomputable def e69 : Ent := ⟨132, fun | [d_v] => decide (isV d_v) | _ => false, fun | [d_v] => .int .i64 (ownE (toV d_v)) | _ => .inil⟩
open Classical in
theorem ok69 : EntOk Tryz.prog [0] e69 := fun ds h => by
  unfold e69 at h ⊢
  simp only at h ⊢
  split at h
  · rw [decide_eq_true_iff] at h
    obtain ⟨v0, rfl, k0⟩ := h
    simp only [zB2, zA1, zA0]
    exact pc69 _ k0
  · cases h
end Go.Proofs.Sx

set_option linter.unusedVariables false
set_option linter.unusedSimpArgs false
set_option maxRecDepth 100000
namespace Go.Proofs.Sx
open Go Go.Proofs Go.Proofs.Am 
variable {gs : List Nat}

def lv47 : Nat → List Nat × List Nat
  | 25 => ([1, 3, 130, 131, 132], [0, 1])
  | _ => ([], [])
theorem shape_form {k : Int} (h : (1 ≤ k ∧ k ≤ 6) ∨ (9 ≤ k ∧ k ≤ 12) ∨ k = 14) : ∃ lo hi t n i m o ins, shapeK k = shapeD lo hi t n i m o (decide (k = 11)) ins true := by
  have hk : k = 1 ∨ k = 2 ∨ k = 3 ∨ k = 4 ∨ k = 5 ∨ k = 6 ∨ k = 9 ∨ k = 10 ∨ k = 11 ∨ k = 12 ∨ k = 14 := by omega
  rcases hk with h | h | h | h | h | h | h | h | h | h | h <;> subst h <;> exact ⟨_, _, _, _, _, _, _, _, rfl⟩
theorem zG3 (l : List ByteArray) : (0 ≤ idxN l) ↔ ¬ NamesP l := by
  rw [idxN_iff]
  constructor
  · intro h hn
    apply h
    intro x hx
    obtain ⟨i, hi, rfl⟩ := List.getElem_of_mem hx
    have := hn i hi
    simpa [List.getD, List.getElem?_eq_getElem hi] using this
  · intro h hn
    apply h
    intro i hi
    apply hn
    simp [List.getD, List.getElem?_eq_getElem hi]
theorem idxN_lt (l : List ByteArray) : (idxN l < 0) ↔ NamesP l := by
  have := zG3 l
  constructor
  · intro h; exact Classical.byContradiction fun hn => by have := this.2 hn; omega
  · intro h; exact Classical.byContradiction fun hn => this.1 (by omega) h
theorem slD_encS (o : Option (List ByteArray)) (i : Nat) : slD (encS o) none (some (.int .i64 (i : Int))) = encS (o.map (·.take i)) := by
  cases o with
  | none => rfl
  | some l =>
    simp only [slD, encS, isSnil_sim, if_false, Option.map, lstD_sim]
    show DV.sim _ = _
    simp [loN, hiN]
    rfl
theorem intO_none : intO none = true := rfl
theorem intO_int (k : IntKind) (i : Int) : intO (some (.int k i)) = true := rfl
theorem loN_none : loN none = 0 := rfl
theorem hiN_int (n : Nat) (k : IntKind) (i : Int) : hiN n (some (.int k i)) = i := rfl
theorem cells_one (s : ByteArray) : (DV.str s).cells = [.str s] := rfl
theorem okS0_take {o : Option (List ByteArray)} (h : okS0 o) (i : Nat) : okS0 (o.map (·.take i)) := by
  cases o with
  | none => exact h
  | some l =>
    refine ⟨Nat.le_trans ?_ h.1, fun x hx => h.2 x ?_⟩
    · simp; omega
    · simp only [Option.map, Option.getD_some] at hx ⊢; exact List.mem_of_mem_take hx
theorem getD_take (o : Option (List ByteArray)) (i : Nat) : (o.map (·.take i)).getD [] = (o.getD []).take i := by
  cases o <;> simp
/-- The first place in the first i ones. -/
theorem idxS_take : ∀ {l : List ByteArray} {s : ByteArray} {i : Nat}, i ≤ l.length → (0 ≤ idxS (l.take i) s ↔ ∃ j, j < i ∧ l.getD j ⟨#[]⟩ = s)
  | [], s, i, h => by simp at h; subst h; simp [idxS]
  | x :: l, s, 0, h => by simp [idxS]
  | x :: l, s, i + 1, h => by
    have ih := idxS_take (l := l) (s := s) (i := i) (by simpa using h)
    have hge := idxS_ge (l.take i) s
    simp only [List.take_succ_cons, idxS]
    constructor
    · intro h1
      by_cases hx : x = s
      · exact ⟨0, by omega, by simpa using hx⟩
      · rw [if_neg hx] at h1
        obtain ⟨j, a, b⟩ := ih.1 (by split at h1 <;> omega)
        exact ⟨j + 1, by omega, by simpa using b⟩
    · rintro ⟨j, a, b⟩
      split
      · omega
      cases j with
      | zero => simp at b; contradiction
      | succ j =>
        have := ih.2 ⟨j, by omega, by simpa using b⟩
        rw [if_neg (by omega)]; omega
set_option maxHeartbeats 8000000 in
theorem pc47 (v : V) (hv : v.ok) : PureCall Tryz.prog [0] 117 [v.enc] (dRet (.int .i64 (ownE v))) := by
  refine zD2 mixed fn47 (Nat.le_of_ble_eq_true rfl) (Nat.lt_of_succ_le (Nat.le_of_ble_eq_true rfl)) (sfOk (.cons ok62 (.cons ok63 (.cons ok21 (.cons ok64 (.cons ok66 (.cons ok67 .nil))))))) TbOk (lv := lv47) fun I F hI hF => ?_
  refine zD7 fun C hC => ?_
  generalize hgen0 : v.enc = gen0
  cbv
  subst hgen0
  subst hC
  refine ⟨?_⟩
  simp (maxSteps := 3000000) only [hI, hF, std]
  have e1 : v.nm.getD [] = v.names := rfl
  have e3 : v.it.getD [] = v.items := rfl
  simp only [smp, lookOk, lookRes, sfOf, sgOf, hOk, hRes, hOut, ↓reduceIte, Nat.reduceEqDiff, reduceCtorEq, zC2, zA2, zB6, zA5, zB4, zB5, zA4, zB3, zA3, zB2, zC1, zA1, zB1, zA0, zB0, e62, e63, e21, e64, e66, e67]
  generalize hL : Sat Tryz.prog [0] _ (Tree.loop _ _ _ _ _ _ _) = L
  have loops : Good v → NamesP v.names → L := by
    intro hg hN
    rw [← hL]
    clear hL
    obtain ⟨o1, o2, o3, o4⟩ := ownE_good hg
    have nl := V.ok_nl hv
    have il := V.ok_il hv
    obtain ⟨lo, hi, t, n, i0, m, o, ins, hs⟩ := shape_form hg.kind
    rw [hs, shapeD]
    simp only [zF5, List.getD_cons_zero]
    clear hs e1
    refine zD8 (kend := fun I => kEndF I Tb [.tmp 2]) hI hF (sfOk (.cons ok62 (.cons ok63 (.cons ok21 (.cons ok64 (.cons ok66 (.cons ok67 .nil))))))) TbOk (by exact fun Bk e s h => endF TbOk Bk e s h) (lv := lv47) 0 (fun i : {i : Nat // i ≤ v.names.length ∧ ∀ a b, a < i → b < a → v.names.getD b ⟨#[]⟩ ≠ v.names.getD a ⟨#[]⟩} => [.loc 0 6 0 0, .loc 1 9 0 0, .d (encS v.nm), .d (.int .i64 (v.names.length : Int)), .d (.int .i64 (i.1 : Int))]) (fun i : {i : Nat // i ≤ v.names.length ∧ ∀ a b, a < i → b < a → v.names.getD b ⟨#[]⟩ ≠ v.names.getD a ⟨#[]⟩} => [(0, some ⟨[.d v.enc], 6, 42, true, true⟩), (1, some ⟨[.d (.agg [.int .i64 lo, .int .i64 hi, .bool t, .bool n, .bool i0, .int .i64 m, .bool o, .bool (decide (v.k = 11)), .bool ins])], 9, 57, true, true⟩)]) (fun i : {i : Nat // i ≤ v.names.length ∧ ∀ a b, a < i → b < a → v.names.getD b ⟨#[]⟩ ≠ v.names.getD a ⟨#[]⟩} => v.names.length - i.1) [0, 1] (⟨0, by omega, fun a b h => by omega⟩ : {i : Nat // i ≤ v.names.length ∧ ∀ a b, a < i → b < a → v.names.getD b ⟨#[]⟩ ≠ v.names.getD a ⟨#[]⟩}) (by rfl) (by rfl) ?_ ?_ fun i => ?_
    · simp [V.names]
    · rfl
    obtain ⟨i, hi1, hi2⟩ := i
    refine zD7 fun C hC => ?_
    generalize hgen0 : v.enc = gen0
    generalize hgen1 : encS v.nm = gen1
    generalize hgen2 : DV.int .i64 (v.names.length : Int) = gen2
    generalize hgen3 : DV.int .i64 (i : Int) = gen3
    generalize hgen4 : DV.int .i64 lo = gen4
    generalize hgen5 : DV.int .i64 hi = gen5
    generalize hgen6 : DV.bool t = gen6
    generalize hgen7 : DV.bool n = gen7
    generalize hgen8 : DV.bool i0 = gen8
    generalize hgen9 : DV.int .i64 m = gen9
    generalize hgen10 : DV.bool o = gen10
    generalize hgen11 : DV.bool ins = gen11
    generalize hgen12 : DV.bool (decide (v.k = 11)) = gen12
    cbv
    subst hgen0
    subst hgen1
    subst hgen2
    subst hgen3
    subst hgen4
    subst hgen5
    subst hgen6
    subst hgen7
    subst hgen8
    subst hgen9
    subst hgen10
    subst hgen11
    subst hgen12
    subst hC
    refine ⟨?_⟩
    simp (maxSteps := 3000000) only [hI, hF, std]
    have w3 := zE0 (n := i) (by omega)
    have hok : okS0 v.nm := V.ok_nm hv
    have hoi : okO v.it := V.ok_it hv
    by_cases hlt : i < v.names.length
    · have g1 := zH6 _ _ hlt
      have e2 : v.nm.getD [] = v.names := rfl
      simp only [smp, lookOk, lookRes, sfOf, sgOf, hOk, hRes, hOut, ↓reduceIte, Nat.reduceEqDiff, reduceCtorEq, zC2, zA2, zB6, zA5, zB4, zB5, zA4, zB3, zA3, zB2, zC1, zA1, zB1, zA0, zB0, e62, e63, e21, e64, e66, e67, slD_encS, e2, g1, cells_one, intO_none, intO_int, loN_none, hiN_int]
      have hx := idxS_take (s := v.names.getD i ⟨#[]⟩) (i := i) (Nat.le_of_lt hlt)
      simp [hlt, w3, - List.getD_eq_getElem?_getD, hok, zC2, zA2, zB6, zA5, zB4, zB5, zA4, zB3, zA3, zB2, zC1, zA1, zB1, zA0, zB0, okS0_take hok, getD_take, e2]
      refine ⟨⟨fun x _ => rfl, by omega⟩, fun h => (o2 hN ?_).symm, fun h => ⟨i + 1, by omega, ⟨by omega, fun a b ha hb => ?_⟩, by simp⟩⟩
      · obtain ⟨j, a, b⟩ := hx.1 h
        exact ⟨i, j, a, hlt, b⟩
      · by_cases hai : a = i
        · subst hai
          intro he
          have := hx.2 ⟨b, hb, he⟩
          clear w3; omega
        · exact hi2 a b (by clear w3; omega) hb
    · simp only [smp, lookOk, lookRes, sfOf, sgOf, hOk, hRes, hOut, ↓reduceIte, Nat.reduceEqDiff, reduceCtorEq, zC2, zA2, zB6, zA5, zB4, zB5, zA4, zB3, zA3, zB2, zC1, zA1, zB1, zA0, zB0, e62, e63, e21, e64, e66, e67]
      have hn : ¬ (i : Int) < v.names.length := by omega
      simp [hlt, hn, - List.getD_eq_getElem?_getD, zC2, zA2, zB6, zA5, zB4, zB5, zA4, zB3, zA3, zB2, zC1, zA1, zB1, zA0, zB0, hoi, e3]
      have hdbl : ¬ DoubleP v.names := fun ⟨a, b, h1, h2, h3⟩ => hi2 a b (by omega) h1 h3
      refine ⟨fun a b => (o3 hN hdbl ⟨a, b⟩).symm, fun h => (o4 hN hdbl fun hc => ?_).symm⟩
      rw [h hc.1] at hc; cases hc.2
  have ngood : Good v → ¬ NamesP v.names → ownE v = 7 := fun h hn => (ownE_good h).1 hn
  clear hL
  by_cases c1 : ¬ ((1 ≤ v.k ∧ v.k ≤ 6) ∨ (9 ≤ v.k ∧ v.k ≤ 12) ∨ v.k = 14)
  · have hE : ownE v = 4 := by unfold ownE; rw [if_pos c1]
    have hs : shapeK v.k = shapeD 0 0 false false false 0 false false false false := by
      unfold shapeK
      repeat rw [if_neg (by omega)]
    rw [hs, shapeD]
    simp [zC2, zA2, zB6, zA5, zB4, zB5, zA4, zB3, zA3, zB2, zC1, zA1, zB1, zA0, zB0, hE, zF5, zG0, zG9, zG6, zF1, one_int, zG8]
    rfl
  have hk : v.k = 1 ∨ v.k = 2 ∨ v.k = 3 ∨ v.k = 4 ∨ v.k = 5 ∨ v.k = 6 ∨ v.k = 9 ∨ v.k = 10 ∨ v.k = 11 ∨ v.k = 12 ∨ v.k = 14 := by omega
  have hE : ownE v = ownE v := rfl
  conv at hE => rhs; unfold ownE
  rw [if_neg c1] at hE
  have gd : (¬ (v.e ≠ 0 ∨ (¬(v.k = 1 ∨ v.k = 2 ∨ v.k = 14) ∧ v.n ≠ 0) ∨ (¬(3 ≤ v.k ∧ v.k ≤ 6) ∧ v.s ≠ ⟨#[]⟩) ∨ (¬(v.k = 9 ∨ v.k = 12) ∧ v.names ≠ []) ∨ (¬(9 ≤ v.k ∧ v.k ≤ 12) ∧ v.items ≠ []))) →
    ¬ ((v.k = 1 ∧ ¬(0 ≤ v.n ∧ v.n ≤ 1)) ∨ (v.k = 14 ∧ ¬(0 ≤ v.n ∧ v.n ≤ 4))) →
    ¬ (((v.k = 9 ∨ v.k = 12) ∧ (v.names.length : Int) ≠ v.items.length) ∨ (v.k = 12 ∧ (v.items.length : Int) ≠ 1)) →
    ¬ ((v.s.size : Int) > 200 ∨ (v.k = 9 ∧ (v.items.length : Int) > 16) ∨ (v.items.length : Int) > 40) →
    ¬ ((v.k = 2 ∧ ¬(-1152921504606846976 ≤ v.n ∧ v.n ≤ 1152921504606846976)) ∨ charsOk v = false) →
    ¬ (v.k = 3 ∧ nameOk v.s = false) → (NamesP v.names → L) := fun a b c d e f => loops ⟨Classical.not_not.1 c1, a, b, c, d, e, f⟩
  clear loops ngood
  rcases hk with h | h | h | h | h | h | h | h | h | h | h
  · have hs : shapeK v.k = shapeD 0 1 false false false 0 false false false true := by rw [h]; rfl
    rw [hs, shapeD]
    clear hs
    simp only [zC2, zA2, zB6, zA5, zB4, zB5, zA4, zB3, zA3, zB2, zC1, zA1, zB1, zA0, zB0, zF5, zG0, zG9, zG6, zF1, one_int, zG8, smp, lookOk, lookRes, sfOf, sgOf, hOk, hRes, hOut, ↓reduceIte, Nat.reduceEqDiff, reduceCtorEq, e1, e3]
    simp [h] at hE gd ⊢
    simp only [zC1, hv, V.ok_s hv, V.ok_nm hv, V.ok_it hv, zB0, zB1, implies_true, and_true, true_and, zG3, idxN_lt, e1, e3]
    have hd : ∀ b, isBoolD (DV.bool b) = true := fun _ => rfl
    try simp only [hd, implies_true, and_true, true_and]
    clear hI hF hv c1 e1 e3 hd
    have ln : 0 < v.names.length ↔ ¬ v.names = [] := List.length_pos_iff
    have li : 0 < v.items.length ↔ ¬ v.items = [] := List.length_pos_iff
    try simp only [ln, li]
    clear ln li
    have lz : v.items = [] → ((v.items.length : Nat) : Int) = 0 := fun h => by rw [h]; rfl
    have nz : v.names = [] → ((v.names.length : Nat) : Int) = 0 := fun h => by rw [h]; rfl
    have sz : v.s = ⟨#[]⟩ → ((v.s.size : Nat) : Int) = 0 := fun h => by rw [h]; rfl
    try simp only [h, Int.reduceEq, false_and, false_or] at hE
    try simp only [h, Int.reduceEq, false_and, false_or] at gd
    grind (splits := 30)
  · have hs : shapeK v.k = shapeD (-1152921504606846976) 1152921504606846976 false false false 0 false false true true := by rw [h]; rfl
    rw [hs, shapeD]
    clear hs
    simp only [zC2, zA2, zB6, zA5, zB4, zB5, zA4, zB3, zA3, zB2, zC1, zA1, zB1, zA0, zB0, zF5, zG0, zG9, zG6, zF1, one_int, zG8, smp, lookOk, lookRes, sfOf, sgOf, hOk, hRes, hOut, ↓reduceIte, Nat.reduceEqDiff, reduceCtorEq, e1, e3]
    simp [h] at hE gd ⊢
    simp only [zC1, hv, V.ok_s hv, V.ok_nm hv, V.ok_it hv, zB0, zB1, implies_true, and_true, true_and, zG3, idxN_lt, e1, e3]
    have hd : ∀ b, isBoolD (DV.bool b) = true := fun _ => rfl
    try simp only [hd, implies_true, and_true, true_and]
    clear hI hF hv c1 e1 e3 hd
    have ln : 0 < v.names.length ↔ ¬ v.names = [] := List.length_pos_iff
    have li : 0 < v.items.length ↔ ¬ v.items = [] := List.length_pos_iff
    try simp only [ln, li]
    clear ln li
    have lz : v.items = [] → ((v.items.length : Nat) : Int) = 0 := fun h => by rw [h]; rfl
    have nz : v.names = [] → ((v.names.length : Nat) : Int) = 0 := fun h => by rw [h]; rfl
    have sz : v.s = ⟨#[]⟩ → ((v.s.size : Nat) : Int) = 0 := fun h => by rw [h]; rfl
    try simp only [h, Int.reduceEq, false_and, false_or] at hE
    try simp only [h, Int.reduceEq, false_and, false_or] at gd
    grind (splits := 30)
  · have hs : shapeK v.k = shapeD 0 0 true false false 0 false false false true := by rw [h]; rfl
    rw [hs, shapeD]
    clear hs
    simp only [zC2, zA2, zB6, zA5, zB4, zB5, zA4, zB3, zA3, zB2, zC1, zA1, zB1, zA0, zB0, zF5, zG0, zG9, zG6, zF1, one_int, zG8, smp, lookOk, lookRes, sfOf, sgOf, hOk, hRes, hOut, ↓reduceIte, Nat.reduceEqDiff, reduceCtorEq, e1, e3]
    simp [h] at hE gd ⊢
    simp only [zC1, hv, V.ok_s hv, V.ok_nm hv, V.ok_it hv, zB0, zB1, implies_true, and_true, true_and, zG3, idxN_lt, e1, e3]
    have hd : ∀ b, isBoolD (DV.bool b) = true := fun _ => rfl
    try simp only [hd, implies_true, and_true, true_and]
    clear hI hF hv c1 e1 e3 hd
    have ln : 0 < v.names.length ↔ ¬ v.names = [] := List.length_pos_iff
    have li : 0 < v.items.length ↔ ¬ v.items = [] := List.length_pos_iff
    try simp only [ln, li]
    clear ln li
    have lz : v.items = [] → ((v.items.length : Nat) : Int) = 0 := fun h => by rw [h]; rfl
    have nz : v.names = [] → ((v.names.length : Nat) : Int) = 0 := fun h => by rw [h]; rfl
    have sz : v.s = ⟨#[]⟩ → ((v.s.size : Nat) : Int) = 0 := fun h => by rw [h]; rfl
    try simp only [h, Int.reduceEq, false_and, false_or] at hE
    try simp only [h, Int.reduceEq, false_and, false_or] at gd
    grind (splits := 30)
  · have hs : shapeK v.k = shapeD 0 0 true false false 0 false false false true := by rw [h]; rfl
    rw [hs, shapeD]
    clear hs
    simp only [zC2, zA2, zB6, zA5, zB4, zB5, zA4, zB3, zA3, zB2, zC1, zA1, zB1, zA0, zB0, zF5, zG0, zG9, zG6, zF1, one_int, zG8, smp, lookOk, lookRes, sfOf, sgOf, hOk, hRes, hOut, ↓reduceIte, Nat.reduceEqDiff, reduceCtorEq, e1, e3]
    simp [h] at hE gd ⊢
    simp only [zC1, hv, V.ok_s hv, V.ok_nm hv, V.ok_it hv, zB0, zB1, implies_true, and_true, true_and, zG3, idxN_lt, e1, e3]
    have hd : ∀ b, isBoolD (DV.bool b) = true := fun _ => rfl
    try simp only [hd, implies_true, and_true, true_and]
    clear hI hF hv c1 e1 e3 hd
    have ln : 0 < v.names.length ↔ ¬ v.names = [] := List.length_pos_iff
    have li : 0 < v.items.length ↔ ¬ v.items = [] := List.length_pos_iff
    try simp only [ln, li]
    clear ln li
    have lz : v.items = [] → ((v.items.length : Nat) : Int) = 0 := fun h => by rw [h]; rfl
    have nz : v.names = [] → ((v.names.length : Nat) : Int) = 0 := fun h => by rw [h]; rfl
    have sz : v.s = ⟨#[]⟩ → ((v.s.size : Nat) : Int) = 0 := fun h => by rw [h]; rfl
    try simp only [h, Int.reduceEq, false_and, false_or] at hE
    try simp only [h, Int.reduceEq, false_and, false_or] at gd
    grind (splits := 30)
  · have hs : shapeK v.k = shapeD 0 0 true false false 0 false false false true := by rw [h]; rfl
    rw [hs, shapeD]
    clear hs
    simp only [zC2, zA2, zB6, zA5, zB4, zB5, zA4, zB3, zA3, zB2, zC1, zA1, zB1, zA0, zB0, zF5, zG0, zG9, zG6, zF1, one_int, zG8, smp, lookOk, lookRes, sfOf, sgOf, hOk, hRes, hOut, ↓reduceIte, Nat.reduceEqDiff, reduceCtorEq, e1, e3]
    simp [h] at hE gd ⊢
    simp only [zC1, hv, V.ok_s hv, V.ok_nm hv, V.ok_it hv, zB0, zB1, implies_true, and_true, true_and, zG3, idxN_lt, e1, e3]
    have hd : ∀ b, isBoolD (DV.bool b) = true := fun _ => rfl
    try simp only [hd, implies_true, and_true, true_and]
    clear hI hF hv c1 e1 e3 hd
    have ln : 0 < v.names.length ↔ ¬ v.names = [] := List.length_pos_iff
    have li : 0 < v.items.length ↔ ¬ v.items = [] := List.length_pos_iff
    try simp only [ln, li]
    clear ln li
    have lz : v.items = [] → ((v.items.length : Nat) : Int) = 0 := fun h => by rw [h]; rfl
    have nz : v.names = [] → ((v.names.length : Nat) : Int) = 0 := fun h => by rw [h]; rfl
    have sz : v.s = ⟨#[]⟩ → ((v.s.size : Nat) : Int) = 0 := fun h => by rw [h]; rfl
    try simp only [h, Int.reduceEq, false_and, false_or] at hE
    try simp only [h, Int.reduceEq, false_and, false_or] at gd
    grind (splits := 30)
  · have hs : shapeK v.k = shapeD 0 0 true false false 0 false false false true := by rw [h]; rfl
    rw [hs, shapeD]
    clear hs
    simp only [zC2, zA2, zB6, zA5, zB4, zB5, zA4, zB3, zA3, zB2, zC1, zA1, zB1, zA0, zB0, zF5, zG0, zG9, zG6, zF1, one_int, zG8, smp, lookOk, lookRes, sfOf, sgOf, hOk, hRes, hOut, ↓reduceIte, Nat.reduceEqDiff, reduceCtorEq, e1, e3]
    simp [h] at hE gd ⊢
    simp only [zC1, hv, V.ok_s hv, V.ok_nm hv, V.ok_it hv, zB0, zB1, implies_true, and_true, true_and, zG3, idxN_lt, e1, e3]
    have hd : ∀ b, isBoolD (DV.bool b) = true := fun _ => rfl
    try simp only [hd, implies_true, and_true, true_and]
    clear hI hF hv c1 e1 e3 hd
    have ln : 0 < v.names.length ↔ ¬ v.names = [] := List.length_pos_iff
    have li : 0 < v.items.length ↔ ¬ v.items = [] := List.length_pos_iff
    try simp only [ln, li]
    clear ln li
    have lz : v.items = [] → ((v.items.length : Nat) : Int) = 0 := fun h => by rw [h]; rfl
    have nz : v.names = [] → ((v.names.length : Nat) : Int) = 0 := fun h => by rw [h]; rfl
    have sz : v.s = ⟨#[]⟩ → ((v.s.size : Nat) : Int) = 0 := fun h => by rw [h]; rfl
    try simp only [h, Int.reduceEq, false_and, false_or] at hE
    try simp only [h, Int.reduceEq, false_and, false_or] at gd
    grind (splits := 30)
  · have hs : shapeK v.k = shapeD 0 0 false true true 16 false false false true := by rw [h]; rfl
    rw [hs, shapeD]
    clear hs
    simp only [zC2, zA2, zB6, zA5, zB4, zB5, zA4, zB3, zA3, zB2, zC1, zA1, zB1, zA0, zB0, zF5, zG0, zG9, zG6, zF1, one_int, zG8, smp, lookOk, lookRes, sfOf, sgOf, hOk, hRes, hOut, ↓reduceIte, Nat.reduceEqDiff, reduceCtorEq, e1, e3]
    simp [h] at hE gd ⊢
    simp only [zC1, hv, V.ok_s hv, V.ok_nm hv, V.ok_it hv, zB0, zB1, implies_true, and_true, true_and, zG3, idxN_lt, e1, e3]
    have hd : ∀ b, isBoolD (DV.bool b) = true := fun _ => rfl
    try simp only [hd, implies_true, and_true, true_and]
    clear hI hF hv c1 e1 e3 hd
    have ln : 0 < v.names.length ↔ ¬ v.names = [] := List.length_pos_iff
    have li : 0 < v.items.length ↔ ¬ v.items = [] := List.length_pos_iff
    try simp only [ln, li]
    clear ln li
    have lz : v.items = [] → ((v.items.length : Nat) : Int) = 0 := fun h => by rw [h]; rfl
    have nz : v.names = [] → ((v.names.length : Nat) : Int) = 0 := fun h => by rw [h]; rfl
    have sz : v.s = ⟨#[]⟩ → ((v.s.size : Nat) : Int) = 0 := fun h => by rw [h]; rfl
    try simp only [h, Int.reduceEq, false_and, false_or] at hE
    try simp only [h, Int.reduceEq, false_and, false_or] at gd
    grind (splits := 30)
  · have hs : shapeK v.k = shapeD 0 0 false false true 40 false false false true := by rw [h]; rfl
    rw [hs, shapeD]
    clear hs
    simp only [zC2, zA2, zB6, zA5, zB4, zB5, zA4, zB3, zA3, zB2, zC1, zA1, zB1, zA0, zB0, zF5, zG0, zG9, zG6, zF1, one_int, zG8, smp, lookOk, lookRes, sfOf, sgOf, hOk, hRes, hOut, ↓reduceIte, Nat.reduceEqDiff, reduceCtorEq, e1, e3]
    simp [h] at hE gd ⊢
    simp only [zC1, hv, V.ok_s hv, V.ok_nm hv, V.ok_it hv, zB0, zB1, implies_true, and_true, true_and, zG3, idxN_lt, e1, e3]
    have hd : ∀ b, isBoolD (DV.bool b) = true := fun _ => rfl
    try simp only [hd, implies_true, and_true, true_and]
    clear hI hF hv c1 e1 e3 hd
    have ln : 0 < v.names.length ↔ ¬ v.names = [] := List.length_pos_iff
    have li : 0 < v.items.length ↔ ¬ v.items = [] := List.length_pos_iff
    try simp only [ln, li]
    clear ln li
    have lz : v.items = [] → ((v.items.length : Nat) : Int) = 0 := fun h => by rw [h]; rfl
    have nz : v.names = [] → ((v.names.length : Nat) : Int) = 0 := fun h => by rw [h]; rfl
    have sz : v.s = ⟨#[]⟩ → ((v.s.size : Nat) : Int) = 0 := fun h => by rw [h]; rfl
    try simp only [h, Int.reduceEq, false_and, false_or] at hE
    try simp only [h, Int.reduceEq, false_and, false_or] at gd
    grind (splits := 30)
  · have hs : shapeK v.k = shapeD 0 0 false false true 40 false true false true := by rw [h]; rfl
    rw [hs, shapeD]
    clear hs
    simp only [zC2, zA2, zB6, zA5, zB4, zB5, zA4, zB3, zA3, zB2, zC1, zA1, zB1, zA0, zB0, zF5, zG0, zG9, zG6, zF1, one_int, zG8, smp, lookOk, lookRes, sfOf, sgOf, hOk, hRes, hOut, ↓reduceIte, Nat.reduceEqDiff, reduceCtorEq, e1, e3]
    simp [h] at hE gd ⊢
    simp only [zC1, hv, V.ok_s hv, V.ok_nm hv, V.ok_it hv, zB0, zB1, implies_true, and_true, true_and, zG3, idxN_lt, e1, e3]
    have hd : ∀ b, isBoolD (DV.bool b) = true := fun _ => rfl
    try simp only [hd, implies_true, and_true, true_and]
    clear hI hF hv c1 e1 e3 hd
    have ln : 0 < v.names.length ↔ ¬ v.names = [] := List.length_pos_iff
    have li : 0 < v.items.length ↔ ¬ v.items = [] := List.length_pos_iff
    try simp only [ln, li]
    clear ln li
    have lz : v.items = [] → ((v.items.length : Nat) : Int) = 0 := fun h => by rw [h]; rfl
    have nz : v.names = [] → ((v.names.length : Nat) : Int) = 0 := fun h => by rw [h]; rfl
    have sz : v.s = ⟨#[]⟩ → ((v.s.size : Nat) : Int) = 0 := fun h => by rw [h]; rfl
    try simp only [h, Int.reduceEq, false_and, false_or] at hE
    try simp only [h, Int.reduceEq, false_and, false_or] at gd
    grind (splits := 30)
  · have hs : shapeK v.k = shapeD 0 0 false true true 1 true false false true := by rw [h]; rfl
    rw [hs, shapeD]
    clear hs
    simp only [zC2, zA2, zB6, zA5, zB4, zB5, zA4, zB3, zA3, zB2, zC1, zA1, zB1, zA0, zB0, zF5, zG0, zG9, zG6, zF1, one_int, zG8, smp, lookOk, lookRes, sfOf, sgOf, hOk, hRes, hOut, ↓reduceIte, Nat.reduceEqDiff, reduceCtorEq, e1, e3]
    simp [h] at hE gd ⊢
    simp only [zC1, hv, V.ok_s hv, V.ok_nm hv, V.ok_it hv, zB0, zB1, implies_true, and_true, true_and, zG3, idxN_lt, e1, e3]
    have hd : ∀ b, isBoolD (DV.bool b) = true := fun _ => rfl
    try simp only [hd, implies_true, and_true, true_and]
    clear hI hF hv c1 e1 e3 hd
    have ln : 0 < v.names.length ↔ ¬ v.names = [] := List.length_pos_iff
    have li : 0 < v.items.length ↔ ¬ v.items = [] := List.length_pos_iff
    try simp only [ln, li]
    clear ln li
    have lz : v.items = [] → ((v.items.length : Nat) : Int) = 0 := fun h => by rw [h]; rfl
    have nz : v.names = [] → ((v.names.length : Nat) : Int) = 0 := fun h => by rw [h]; rfl
    have sz : v.s = ⟨#[]⟩ → ((v.s.size : Nat) : Int) = 0 := fun h => by rw [h]; rfl
    try simp only [h, Int.reduceEq, false_and, false_or] at hE
    try simp only [h, Int.reduceEq, false_and, false_or] at gd
    grind (splits := 30)
  · have hs : shapeK v.k = shapeD 0 4 false false false 0 false false false true := by rw [h]; rfl
    rw [hs, shapeD]
    clear hs
    simp only [zC2, zA2, zB6, zA5, zB4, zB5, zA4, zB3, zA3, zB2, zC1, zA1, zB1, zA0, zB0, zF5, zG0, zG9, zG6, zF1, one_int, zG8, smp, lookOk, lookRes, sfOf, sgOf, hOk, hRes, hOut, ↓reduceIte, Nat.reduceEqDiff, reduceCtorEq, e1, e3]
    simp [h] at hE gd ⊢
    simp only [zC1, hv, V.ok_s hv, V.ok_nm hv, V.ok_it hv, zB0, zB1, implies_true, and_true, true_and, zG3, idxN_lt, e1, e3]
    have hd : ∀ b, isBoolD (DV.bool b) = true := fun _ => rfl
    try simp only [hd, implies_true, and_true, true_and]
    clear hI hF hv c1 e1 e3 hd
    have ln : 0 < v.names.length ↔ ¬ v.names = [] := List.length_pos_iff
    have li : 0 < v.items.length ↔ ¬ v.items = [] := List.length_pos_iff
    try simp only [ln, li]
    clear ln li
    have lz : v.items = [] → ((v.items.length : Nat) : Int) = 0 := fun h => by rw [h]; rfl
    have nz : v.names = [] → ((v.names.length : Nat) : Int) = 0 := fun h => by rw [h]; rfl
    have sz : v.s = ⟨#[]⟩ → ((v.s.size : Nat) : Int) = 0 := fun h => by rw [h]; rfl
    try simp only [h, Int.reduceEq, false_and, false_or] at hE
    try simp only [h, Int.reduceEq, false_and, false_or] at gd
    grind (splits := 30)
end Go.Proofs.Sx

set_option linter.unusedVariables false
set_option linter.unusedSimpArgs false
set_option maxRecDepth 100000
namespace Go.Proofs.Sx
open Go Go.Proofs Go.Proofs.Am 
variable {gs : List Nat}

open Classical in
noncomputable def e47 : Ent := ⟨117, fun | [d_v] => decide (isV d_v) | _ => false, fun | [d_v] => .int .i64 (ownE (toV d_v)) | _ => .inil⟩
open Classical in
theorem ok47 : EntOk Tryz.prog [0] e47 := fun ds h => by
  unfold e47 at h ⊢
  simp only at h ⊢
  split at h
  · rw [decide_eq_true_iff] at h
    obtain ⟨v0, rfl, k0⟩ := h
    simp only [zB2, zA1, zA0]
    exact pc47 _ k0
  · cases h
mutual
noncomputable def plainE : V → Int
  | .mk k n e s nm it => if ownE (.mk k n e s nm it) ≠ 0 then ownE (.mk k n e s nm it) else plainO it
noncomputable def plainO : Option (List V) → Int
  | none => 0
  | some l => plainL l
noncomputable def plainL : List V → Int
  | [] => 0
  | v :: r => if plainE v ≠ 0 then plainE v else plainL r
end
theorem plainO_eq (o : Option (List V)) : plainO o = plainL (o.getD []) := by cases o <;> rw [plainO] <;> simp [plainL]
theorem plainE_eq (v : V) : plainE v = if ownE v ≠ 0 then ownE v else plainL v.items := by
  cases v; rw [plainE, plainO_eq]; rfl
theorem plainL_step (l : List V) (i : Nat) (h : i < l.length) : plainL (l.drop i) = if plainE (l.getD i default) ≠ 0 then plainE (l.getD i default) else plainL (l.drop (i + 1)) := by
  rw [List.drop_eq_getElem_cons h, plainL]
  simp [List.getD, h]
open Classical in
/-- A function of shorter values. -/
noncomputable def eVn (f : Nat) (r : V → DV) (n : Nat) : Ent := ⟨f, fun | [a] => decide (isV a ∧ (toV a).sz < n) | _ => false, fun | [a] => r (toV a) | _ => .inil⟩
open Classical in
theorem okVn {f n : Nat} {r : V → DV} (h : ∀ v : V, v.ok → v.sz < n → PureCall Tryz.prog [0] f [v.enc] (dRet (r v))) : EntOk Tryz.prog [0] (eVn f r n) := fun ds hk => by
  unfold eVn at hk ⊢
  simp only at hk ⊢
  split at hk
  · rw [decide_eq_true_iff] at hk
    obtain ⟨⟨v, rfl, h1⟩, h3⟩ := hk
    simp only [zB2] at h3 ⊢
    exact h v h1 h3
  · cases hk
def lv28 : Nat → List Nat × List Nat
  | 5 => ([1, 13, 14, 15], [0])
  | _ => ([], [])
theorem pc28n : ∀ (n : Nat) (v : V), v.ok → v.sz < n → PureCall Tryz.prog [0] 97 [v.enc] (dRet (.int .i64 (plainE v)))
  | 0, v, _, h => by omega
  | n + 1, v, hv, hn => by
    have ok28' := okVn (r := fun v => .int .i64 (plainE v)) (pc28n n)
    refine zD2 mixed fn28 (Nat.le_of_ble_eq_true rfl) (Nat.lt_of_succ_le (Nat.le_of_ble_eq_true rfl)) (sfOk (.cons ok47 (.cons ok28' .nil))) TbOk (lv := lv28) fun I F hI hF => ?_
    refine zD7 fun C hC => ?_
    generalize hgen0 : v.enc = gen0
    cbv
    subst hgen0
    subst hC
    refine ⟨?_⟩
    simp (maxSteps := 3000000) only [hI, hF, std]
    have e3 : v.it.getD [] = v.items := rfl
    have il := V.ok_il hv
    have hE := plainE_eq v
    simp only [smp, lookOk, lookRes, sfOf, sgOf, hOk, hRes, hOut, ↓reduceIte, Nat.reduceEqDiff, reduceCtorEq, zC2, zA2, zB6, zA5, zB4, zB5, zA4, zB3, zA3, zB2, zC1, zA1, zB1, zA0, zB0, e47, eVn, e3]
    simp [hv, zC2, zA2, zB6, zA5, zB4, zB5, zA4, zB3, zA3, zB2, zC1, zA1, zB1, zA0, zB0]
    refine ⟨fun h => ?_, fun h => ?_⟩
    · rw [hE, if_pos h]
    rw [if_neg (fun hc => hc h)] at hE
    refine zD8 (kend := fun I => kEndF I Tb [.tmp 2]) hI hF (sfOk (.cons ok47 (.cons ok28' .nil))) TbOk (by exact fun Bk e s h => endF TbOk Bk e s h) (lv := lv28) 0 (fun i : {i : Nat // i ≤ v.items.length ∧ plainL v.items = plainL (v.items.drop i)} => [.loc 0 6 0 0, .d (encO v.it), .d (.int .i64 (v.items.length : Int)), .d (.int .i64 (i.1 : Int))]) (fun i : {i : Nat // i ≤ v.items.length ∧ plainL v.items = plainL (v.items.drop i)} => [(0, some ⟨[.d v.enc], 6, 42, true, true⟩)]) (fun i : {i : Nat // i ≤ v.items.length ∧ plainL v.items = plainL (v.items.drop i)} => v.items.length - i.1) [0] (⟨0, by omega, by simp⟩ : {i : Nat // i ≤ v.items.length ∧ plainL v.items = plainL (v.items.drop i)}) (by rfl) (by rfl) ?_ ?_ fun i => ?_
    · rfl
    · rfl
    obtain ⟨i, hi1, hi2⟩ := i
    refine zD7 fun C hC => ?_
    generalize hgen0 : v.enc = gen0
    generalize hgen1 : encO v.it = gen1
    generalize hgen2 : DV.int .i64 (v.items.length : Int) = gen2
    generalize hgen3 : DV.int .i64 (i : Int) = gen3
    cbv
    subst hgen0
    subst hgen1
    subst hgen2
    subst hgen3
    subst hC
    refine ⟨?_⟩
    simp (maxSteps := 3000000) only [hI, hF, std]
    have w3 := zE0 (n := i) (by omega)
    by_cases hlt : i < v.items.length
    · have g1 := get_enc _ _ hlt
      have k1 := V.ok_get hv hlt
      have k2 := V.sz_get hlt
      have k3 : (v.items.getD i default).sz < n := by omega
      have hs := plainL_step v.items i hlt
      simp only [smp, lookOk, lookRes, sfOf, sgOf, hOk, hRes, hOut, ↓reduceIte, Nat.reduceEqDiff, reduceCtorEq, zC2, zA2, zB6, zA5, zB4, zB5, zA4, zB3, zA3, zB2, zC1, zA1, zB1, zA0, zB0, e47, eVn, e3, g1]
      simp [hlt, w3, - List.getD_eq_getElem?_getD, k1, k3, zC2, zA2, zB6, zA5, zB4, zB5, zA4, zB3, zA3, zB2, zC1, zA1, zB1, zA0, zB0]
      refine ⟨fun h => ?_, fun h => ⟨i + 1, by omega, ⟨by omega, ?_⟩, by simp⟩⟩
      · rw [hE, hi2, hs, if_pos h]
      · rw [hi2, hs, if_neg (fun hc => hc h)]
    · have hs : v.items.drop i = [] := List.drop_eq_nil_of_le (by omega)
      simp only [smp, lookOk, lookRes, sfOf, sgOf, hOk, hRes, hOut, ↓reduceIte, Nat.reduceEqDiff, reduceCtorEq, zC2, zA2, zB6, zA5, zB4, zB5, zA4, zB3, zA3, zB2, zC1, zA1, zB1, zA0, zB0, e47, eVn, e3]
      simp [hlt, hE, hi2, hs, plainL]
theorem pc28 (v : V) (hv : v.ok) : PureCall Tryz.prog [0] 97 [v.enc] (dRet (.int .i64 (plainE v))) := pc28n (v.sz + 1) v hv (by omega)
open Classical in
noncomputable def e28 : Ent := ⟨97, fun | [d_v] => decide (isV d_v) | _ => false, fun | [d_v] => .int .i64 (plainE (toV d_v)) | _ => .inil⟩
open Classical in
theorem ok28 : EntOk Tryz.prog [0] e28 := fun ds h => by
  unfold e28 at h ⊢
  simp only at h ⊢
  split at h
  · rw [decide_eq_true_iff] at h
    obtain ⟨v0, rfl, k0⟩ := h
    simp only [zB2, zA1, zA0]
    exact pc28 _ k0
  · cases h
def lv49 : Nat → List Nat × List Nat
  | 5 => ([1, 4], [0])
  | _ => ([], [])
theorem pc49n : ∀ (n : Nat) (v : V), v.ok → v.sz < n → PureCall Tryz.prog [0] 115 [v.enc] (dRet (.int .i64 (plainE v)))
  | 0, v, _, h => by omega
  | n + 1, v, hv, hn => by
    have ok49' := okVn (r := fun v => .int .i64 (plainE v)) (pc49n n)
    refine zD2 mixed fn49 (Nat.le_of_ble_eq_true rfl) (Nat.lt_of_succ_le (Nat.le_of_ble_eq_true rfl)) (sfOk (.cons ok69 (.cons ok49' .nil))) TbOk (lv := lv49) fun I F hI hF => ?_
    refine zD7 fun C hC => ?_
    generalize hgen0 : v.enc = gen0
    cbv
    subst hgen0
    subst hC
    refine ⟨?_⟩
    simp (maxSteps := 3000000) only [hI, hF, std]
    have e3 : v.it.getD [] = v.items := rfl
    have il := V.ok_il hv
    have hE := plainE_eq v
    simp only [smp, lookOk, lookRes, sfOf, sgOf, hOk, hRes, hOut, ↓reduceIte, Nat.reduceEqDiff, reduceCtorEq, zC2, zA2, zB6, zA5, zB4, zB5, zA4, zB3, zA3, zB2, zC1, zA1, zB1, zA0, zB0, e69, eVn, e3]
    simp [hv, zC2, zA2, zB6, zA5, zB4, zB5, zA4, zB3, zA3, zB2, zC1, zA1, zB1, zA0, zB0]
    refine ⟨fun h => ?_, fun h => ?_⟩
    · rw [hE, if_pos h]
    rw [if_neg (fun hc => hc h)] at hE
    refine zD8 (kend := fun I => kEndF I Tb [.tmp 2]) hI hF (sfOk (.cons ok69 (.cons ok49' .nil))) TbOk (by exact fun Bk e s h => endF TbOk Bk e s h) (lv := lv49) 0 (fun i : {i : Nat // i ≤ v.items.length ∧ plainL v.items = plainL (v.items.drop i)} => [.loc 0 6 0 0, .d (.int .i64 (i.1 : Int))]) (fun i : {i : Nat // i ≤ v.items.length ∧ plainL v.items = plainL (v.items.drop i)} => [(0, some ⟨[.d v.enc], 6, 42, true, true⟩)]) (fun i : {i : Nat // i ≤ v.items.length ∧ plainL v.items = plainL (v.items.drop i)} => v.items.length - i.1) [0] (⟨0, by omega, by simp⟩ : {i : Nat // i ≤ v.items.length ∧ plainL v.items = plainL (v.items.drop i)}) (by rfl) (by rfl) ?_ ?_ fun i => ?_
    · rfl
    · rfl
    obtain ⟨i, hi1, hi2⟩ := i
    refine zD7 fun C hC => ?_
    generalize hgen0 : v.enc = gen0
    generalize hgen1 : DV.int .i64 (i : Int) = gen1
    cbv
    subst hgen0
    subst hgen1
    subst hC
    refine ⟨?_⟩
    simp (maxSteps := 3000000) only [hI, hF, std]
    have w3 := zE0 (n := i) (by omega)
    by_cases hlt : i < v.items.length
    · have g1 := get_enc _ _ hlt
      have k1 := V.ok_get hv hlt
      have k2 := V.sz_get hlt
      have k3 : (v.items.getD i default).sz < n := by omega
      have hs := plainL_step v.items i hlt
      simp only [smp, lookOk, lookRes, sfOf, sgOf, hOk, hRes, hOut, ↓reduceIte, Nat.reduceEqDiff, reduceCtorEq, zC2, zA2, zB6, zA5, zB4, zB5, zA4, zB3, zA3, zB2, zC1, zA1, zB1, zA0, zB0, e69, eVn, e3, g1]
      simp [hlt, w3, - List.getD_eq_getElem?_getD, k1, k3, zC2, zA2, zB6, zA5, zB4, zB5, zA4, zB3, zA3, zB2, zC1, zA1, zB1, zA0, zB0]
      refine ⟨fun h => ?_, fun h => ⟨i + 1, by omega, ⟨by omega, ?_⟩, by simp⟩⟩
      · rw [hE, hi2, hs, if_pos h]
      · rw [hi2, hs, if_neg (fun hc => hc h)]
    · have hs : v.items.drop i = [] := List.drop_eq_nil_of_le (by omega)
      simp only [smp, lookOk, lookRes, sfOf, sgOf, hOk, hRes, hOut, ↓reduceIte, Nat.reduceEqDiff, reduceCtorEq, zC2, zA2, zB6, zA5, zB4, zB5, zA4, zB3, zA3, zB2, zC1, zA1, zB1, zA0, zB0, e69, eVn, e3]
      simp [hlt, hE, hi2, hs, plainL]
theorem pc49 (v : V) (hv : v.ok) : PureCall Tryz.prog [0] 115 [v.enc] (dRet (.int .i64 (plainE v))) := pc49n (v.sz + 1) v hv (by omega)
open Classical in
noncomputable def e49 : Ent := ⟨115, fun | [d_v] => decide (isV d_v) | _ => false, fun | [d_v] => .int .i64 (plainE (toV d_v)) | _ => .inil⟩
open Classical in
theorem ok49 : EntOk Tryz.prog [0] e49 := fun ds h => by
  unfold e49 at h ⊢
  simp only at h ⊢
  split at h
  · rw [decide_eq_true_iff] at h
    obtain ⟨v0, rfl, k0⟩ := h
    simp only [zB2, zA1, zA0]
    exact pc49 _ k0
  · cases h
end Go.Proofs.Sx

set_option linter.unusedVariables false
set_option linter.unusedSimpArgs false
set_option maxRecDepth 100000
namespace Go.Proofs.Sx
open Go Go.Proofs Go.Proofs.Am 
variable {gs : List Nat}

def Zst : Type := Int × Bool
def encZ (s : Zst) : DV := .agg [.int .i64 s.1, .bool s.2]
def meetS (s : Zst) (d : Int) : Zst := (s.1 - 1, s.2 || decide (s.1 - 1 < 0) || decide (d < 1))
noncomputable def h59 : HEnt := {
  f := 157
  es := 2
  ty := 150
  ok x ds := match x, ds with
    | .agg [.int .i64 n, .bool b], [.int .i64 d] => decide (-1048576 ≤ n ∧ n ≤ 1048576)
    | _, _ => false
  res x ds := match x, ds with
    | .agg [.int .i64 n, .bool b], [.int .i64 d] => .bool (!(meetS (n, b) d).2)
    | _, _ => .inil
  out x ds := match x, ds with
    | .agg [.int .i64 n, .bool b], [.int .i64 d] => encZ (meetS (n, b) d)
    | _, _ => .inil }
theorem pc59 (n : Int) (b : Bool) (d : Int) (hn : -1048576 ≤ n ∧ n ≤ 1048576) : PtrCall Tryz.prog [0] 157 2 150 (.agg [.int .i64 n, .bool b]) [.int .i64 d] (encZ (meetS (n, b) d)) (.bool (!(meetS (n, b) d).2)) := by
  refine ptr_of_tree (H := shP [] (sgOf [])) mixed fn59 (Nat.le_of_ble_eq_true rfl) (Nat.lt_of_succ_le (Nat.le_of_ble_eq_true rfl)) (sfOkH .nil .nil) TbOk (lv := lv0) fun I F hI hF => ?_
  generalize hG : sgOf [] = G
  refine zD7 fun C hC => ?_
  generalize hgen0 : DV.int .i64 n = gen0
  generalize hgen1 : DV.bool b = gen1
  generalize hgen2 : DV.int .i64 d = gen2
  generalize hgen3 : encZ (meetS (n, b) d) = gen3
  cbv
  subst hgen0
  subst hgen1
  subst hgen2
  subst hgen3
  subst hC
  subst hG
  refine ⟨?_⟩
  simp (maxSteps := 3000000) only [hI, hF, std]
  have w : IntKind.i64.wrap (n - 1) = n - 1 := wrap64 (by omega) (by omega)
  simp only [smp, lookOk, lookRes, sfOf, sgOf, hOk, hRes, hOut, ↓reduceIte, Nat.reduceEqDiff, reduceCtorEq, zC2, zA2, zB6, zA5, zB4, zB5, zA4, zB3, zA3, zB2, zC1, zA1, zB1, zA0, zB0, w]
  simp [meetS, encZ, cond_eq_ite]
theorem okh59 : HEntOk Tryz.prog [0] h59 := fun x ds h => by
  unfold h59 at h ⊢
  simp only at h ⊢
  split at h
  · rw [decide_eq_true_iff] at h
    exact pc59 _ _ _ h
  · cases h

mutual
def sizV : V → Int → Zst → Zst
  | .mk _ _ _ _ _ it, d, s => if (meetS s d).2 = true then meetS s d else sizO it (d - 1) (meetS s d)
def sizO : Option (List V) → Int → Zst → Zst
  | none, _, s => s
  | some l, d, s => sizL l d s
def sizL : List V → Int → Zst → Zst
  | [], _, s => s
  | v :: r, d, s => if s.2 = true then s else sizL r d (sizV v d s)
end
theorem sizO_eq (o : Option (List V)) (d : Int) (s : Zst) : sizO o d s = sizL (o.getD []) d s := by cases o <;> rw [sizO] <;> simp [sizL]
theorem sizV_eq (v : V) (d : Int) (s : Zst) : sizV v d s = if (meetS s d).2 = true then meetS s d else sizL v.items (d - 1) (meetS s d) := by
  cases v; rw [sizV, sizO_eq]; rfl
theorem sizL_step (l : List V) (i : Nat) (d : Int) (s : Zst) (h : i < l.length) : sizL (l.drop i) d s = if s.2 = true then s else sizL (l.drop (i + 1)) d (sizV (l.getD i default) d s) := by
  rw [List.drop_eq_getElem_cons h, sizL]
  simp [List.getD, h]
theorem sizL_over (l : List V) (d : Int) (s : Zst) (h : s.2 = true) : sizL l d s = s := by
  cases l <;> simp [sizL, h]
/-- A measure that is met by what is within bounds. -/
structure ZOk (m : Int) (s : Zst) : Prop where
  lo : -1 ≤ s.1
  hi : s.1 ≤ m
  pos : s.2 = false → 0 ≤ s.1
theorem meetS_ok {m : Int} {s : Zst} {d : Int} (h : ZOk m s) (h2 : s.2 = false) : ZOk m (meetS s d) := by
  have h3 := h.pos h2
  have h4 := h.hi
  refine ⟨by simp only [meetS]; omega, by simp only [meetS]; omega, fun h5 => ?_⟩
  simp [meetS] at h5 ⊢
  omega
mutual
theorem sizV_ok : ∀ (v : V) (m d : Int) (s : Zst), ZOk m s → s.2 = false → ZOk m (sizV v d s)
  | .mk _ _ _ _ _ it, m, d, s, h, h2 => by
    rw [sizV]
    split
    · exact meetS_ok h h2
    · exact sizO_ok it m (d - 1) _ (meetS_ok h h2)
theorem sizO_ok : ∀ (o : Option (List V)) (m d : Int) (s : Zst), ZOk m s → ZOk m (sizO o d s)
  | none, m, d, s, h => by rw [sizO]; exact h
  | some l, m, d, s, h => by rw [sizO]; exact sizL_ok l m d s h
theorem sizL_ok : ∀ (l : List V) (m d : Int) (s : Zst), ZOk m s → ZOk m (sizL l d s)
  | [], m, d, s, h => by rw [sizL]; exact h
  | v :: r, m, d, s, h => by
    rw [sizL]
    split
    · exact h
    · rename_i h2; exact sizL_ok r m d _ (sizV_ok v m d s h (by simpa using h2))
end

open Classical in
noncomputable def h37n (N : Nat) : HEnt := {
  f := 131
  es := 2
  ty := 150
  ok x ds := match x, ds with
    | .agg [.int .i64 n, .bool b], [v, .int .i64 d] => decide (isV v ∧ (toV v).sz < N ∧ ZOk 1048576 (n, b) ∧ b = false ∧ 0 ≤ d ∧ d ≤ 1048576)
    | _, _ => false
  res x ds := .tup []
  out x ds := match x, ds with
    | .agg [.int .i64 n, .bool b], [v, .int .i64 d] => encZ (sizV (toV v) d (n, b))
    | _, _ => .inil }
open Classical in
theorem okh37n {N : Nat} (h : ∀ (v : V) (n : Int) (b : Bool) (d : Int), v.ok → v.sz < N → ZOk 1048576 (n, b) → b = false → 0 ≤ d → d ≤ 1048576 → PtrCall Tryz.prog [0] 131 2 150 (encZ (n, b)) [v.enc, .int .i64 d] (encZ (sizV v d (n, b))) (.tup [])) : HEntOk Tryz.prog [0] (h37n N) := fun x ds hk => by
  unfold h37n at hk ⊢
  simp only at hk ⊢
  split at hk
  · rw [decide_eq_true_iff] at hk
    obtain ⟨⟨v, rfl, h1⟩, h2, h3, h4, h5, h6⟩ := hk
    simp only [zB2] at h2 ⊢
    exact h v _ _ _ h1 h2 h3 h4 h5 h6
  · cases hk
def lv37 : Nat → List Nat × List Nat
  | 3 => ([0, 2, 4, 6], [0, 1])
  | _ => ([], [])
theorem pc37n : ∀ (N : Nat) (v : V) (n : Int) (b : Bool) (d : Int), v.ok → v.sz < N → ZOk 1048576 (n, b) → b = false → 0 ≤ d → d ≤ 1048576 → PtrCall Tryz.prog [0] 131 2 150 (encZ (n, b)) [v.enc, .int .i64 d] (encZ (sizV v d (n, b))) (.tup [])
  | 0, v, _, _, _, _, h, _, _, _, _ => by omega
  | N + 1, v, n, b, d, hv, hn, hz, hb, hd, hd2 => by
    have okh37' := okh37n (pc37n N)
    refine ptr_of_tree (H := shP [(157, 2, 150), (131, 2, 150)] (sgOf [h59, (h37n _)])) mixed fn37 (Nat.le_of_ble_eq_true rfl) (Nat.lt_of_succ_le (Nat.le_of_ble_eq_true rfl)) (sfOkH .nil (.cons okh59 (.cons okh37' .nil))) TbOk (lv := lv37) fun I F hI hF => ?_
    generalize hG : sgOf [h59, (h37n _)] = G
    refine zD7 fun C hC => ?_
    generalize hgen0 : encZ (n, b) = gen0
    generalize hgen1 : v.enc = gen1
    generalize hgen2 : DV.int .i64 d = gen2
    generalize hgen3 : encZ (sizV v d (n, b)) = gen3
    cbv
    subst hgen0
    subst hgen1
    subst hgen2
    subst hgen3
    subst hC
    subst hG
    refine ⟨?_⟩
    simp (maxSteps := 3000000) only [hI, hF, std]
    simp only [smp, lookOk, lookRes, sfOf, sgOf, hOk, hRes, hOut, ↓reduceIte, Nat.reduceEqDiff, reduceCtorEq, zC2, zA2, zB6, zA5, zB4, zB5, zA4, zB3, zA3, zB2, zC1, zA1, zB1, zA0, zB0, h59, h37n, encZ]
    have hb2 : -1048576 ≤ n ∧ n ≤ 1048576 := by have := hz.lo; have := hz.hi; simp only at *; omega
    have hE := sizV_eq v d (n, b)
    have hm := meetS_ok (d := d) hz hb
    have e3 : v.it.getD [] = v.items := rfl
    have il := V.ok_il hv
    simp [hb2]
    refine ⟨fun h => ?_, fun h => ?_⟩
    · rw [hE, if_pos h]; exact ⟨rfl, rfl⟩
    rw [if_neg (by rw [h]; simp)] at hE
    have hd3 : 1 ≤ d := by simp [meetS] at h; omega
    have wd : IntKind.i64.wrap (d - 1) = d - 1 := wrap64 (by omega) (by omega)
    refine zD8 (kend := fun I => kEndP I Tb 2 150 []) (H := shP [(157, 2, 150), (131, 2, 150)] (sgOf [h59, (h37n _)])) hI hF (sfOkH .nil (.cons okh59 (.cons okh37' .nil))) TbOk (by exact fun Bk e s h => endP TbOk Bk e s h) (lv := lv37) 0 (fun i : {i : Nat × Zst // i.1 ≤ v.items.length ∧ sizL v.items (d - 1) (meetS (n, b) d) = sizL (v.items.drop i.1) (d - 1) i.2 ∧ ZOk 1048576 i.2} => [.loc 0 2 0 0, .d (.int .i64 d), .loc 1 6 0 0, .d (.int .i64 (i.1.1 : Int))]) (fun i : {i : Nat × Zst // i.1 ≤ v.items.length ∧ sizL v.items (d - 1) (meetS (n, b) d) = sizL (v.items.drop i.1) (d - 1) i.2 ∧ ZOk 1048576 i.2} => [(0, some ⟨[.d (encZ i.1.2)], 2, 150, true, true⟩), (1, some ⟨[.d v.enc], 6, 42, true, true⟩)]) (fun i : {i : Nat × Zst // i.1 ≤ v.items.length ∧ sizL v.items (d - 1) (meetS (n, b) d) = sizL (v.items.drop i.1) (d - 1) i.2 ∧ ZOk 1048576 i.2} => v.items.length - i.1.1) [0, 1] (⟨(0, meetS (n, b) d), by omega, by simp, hm⟩ : {i : Nat × Zst // i.1 ≤ v.items.length ∧ sizL v.items (d - 1) (meetS (n, b) d) = sizL (v.items.drop i.1) (d - 1) i.2 ∧ ZOk 1048576 i.2}) (by rfl) (by rfl) ?_ ?_ fun i => ?_
    · rfl
    · rfl
    obtain ⟨⟨i, s⟩, hi1, hi2, hi3⟩ := i
    generalize hG : sgOf [h59, (h37n _)] = G
    refine zD7 fun C hC => ?_
    generalize hgen0 : encZ s = gen0
    generalize hgen1 : v.enc = gen1
    generalize hgen2 : DV.int .i64 d = gen2
    generalize hgen3 : DV.int .i64 (i : Int) = gen3
    cbv
    subst hgen0
    subst hgen1
    subst hgen2
    subst hgen3
    subst hC
    subst hG
    refine ⟨?_⟩
    simp (maxSteps := 3000000) only [hI, hF, std]
    have w3 := zE0 (n := i) (by omega)
    by_cases hlt : i < v.items.length ∧ s.2 = false
    · have g1 := get_enc _ _ hlt.1
      have k1 := V.ok_get hv hlt.1
      have k2 := V.sz_get hlt.1
      have k3 : (v.items.getD i default).sz < N := by omega
      have hs := sizL_step v.items i (d - 1) s hlt.1
      rw [if_neg (by simp [hlt.2])] at hs
      simp only [smp, lookOk, lookRes, sfOf, sgOf, hOk, hRes, hOut, ↓reduceIte, Nat.reduceEqDiff, reduceCtorEq, zC2, zA2, zB6, zA5, zB4, zB5, zA4, zB3, zA3, zB2, zC1, zA1, zB1, zA0, zB0, h59, h37n, encZ, e3, g1, wd]
      simp [hlt, w3, - List.getD_eq_getElem?_getD, k1, k3, zC2, zA2, zB6, zA5, zB4, zB5, zA4, zB3, zA3, zB2, zC1, zA1, zB1, zA0, zB0, hi3]
      have hse : ((s.1, false) : Zst) = s := by rw [← hlt.2]; rfl
      have hse' : (s.fst, false) = s := hse
      rw [hse']
      exact ⟨⟨hi3, hd3, by omega⟩, i + 1, by omega, by simp, _, rfl, ⟨by omega, by rw [hi2, hs], sizV_ok _ _ _ _ hi3 hlt.2⟩, rfl⟩
    · simp only [smp, lookOk, lookRes, sfOf, sgOf, hOk, hRes, hOut, ↓reduceIte, Nat.reduceEqDiff, reduceCtorEq, zC2, zA2, zB6, zA5, zB4, zB5, zA4, zB3, zA3, zB2, zC1, zA1, zB1, zA0, zB0, h59, h37n, encZ, e3]
      simp [hE, hi2]
      refine ⟨fun a b => absurd ⟨a, b⟩ hlt, fun h => ?_⟩
      have : sizL (v.items.drop i) (d - 1) s = s := by
        by_cases hi : i < v.items.length
        · exact sizL_over _ _ _ (h hi)
        · rw [List.drop_eq_nil_of_le (by omega), sizL]
      rw [this]; exact ⟨rfl, rfl⟩
theorem pc37 (v : V) (n : Int) (d : Int) (hv : v.ok) (h : 0 ≤ n ∧ n ≤ 1048576) (h2 : 0 ≤ d ∧ d ≤ 1048576) : PtrCall Tryz.prog [0] 131 2 150 (encZ (n, false)) [v.enc, .int .i64 d] (encZ (sizV v d (n, false))) (.tup []) :=
  pc37n (v.sz + 1) v n false d hv (by omega) ⟨by simp only; omega, h.2, fun _ => h.1⟩ rfl h2.1 h2.2
open Classical in
noncomputable def h37 : HEnt := {
  f := 131
  es := 2
  ty := 150
  ok x ds := match x, ds with
    | .agg [.int .i64 n, .bool b], [v, .int .i64 d] => decide (isV v ∧ ZOk 1048576 (n, b) ∧ b = false ∧ 0 ≤ d ∧ d ≤ 1048576)
    | _, _ => false
  res x ds := .tup []
  out x ds := match x, ds with
    | .agg [.int .i64 n, .bool b], [v, .int .i64 d] => encZ (sizV (toV v) d (n, b))
    | _, _ => .inil }
open Classical in
theorem okh37 : HEntOk Tryz.prog [0] h37 := fun x ds hk => by
  unfold h37 at hk ⊢
  simp only at hk ⊢
  split at hk
  · rw [decide_eq_true_iff] at hk
    obtain ⟨⟨v, rfl, h1⟩, h3, rfl, h5, h6⟩ := hk
    simp only [zB2]
    exact pc37 v _ _ h1 ⟨h3.pos rfl, h3.hi⟩ ⟨h5, h6⟩
  · cases hk
noncomputable def smallV (v : V) (n : Int) : Bool := !(sizV v 8 (n, false)).2
theorem pc48 (v : V) (n : Int) (hv : v.ok) (h : 0 ≤ n ∧ n ≤ 1048576) : PureCall Tryz.prog [0] 114 [v.enc, .int .i64 n] (dRet (.bool (smallV v n))) := by
  refine zD2 (H := shP [(131, 2, 150)] (sgOf [h37])) mixed fn48 (Nat.le_of_ble_eq_true rfl) (Nat.lt_of_succ_le (Nat.le_of_ble_eq_true rfl)) (sfOkH .nil (.cons okh37 .nil)) TbOk (lv := lv0) fun I F hI hF => ?_
  generalize hG : sgOf [h37] = G
  refine zD7 fun C hC => ?_
  generalize hgen0 : v.enc = gen0
  generalize hgen1 : DV.int .i64 n = gen1
  generalize hgen2 : smallV v n = gen2
  cbv
  subst hgen0
  subst hgen1
  subst hgen2
  subst hC
  subst hG
  refine ⟨?_⟩
  simp (maxSteps := 3000000) only [hI, hF, std]
  have hz : ZOk 1048576 (n, false) := ⟨by simp only; omega, h.2, fun _ => h.1⟩
  simp only [smp, lookOk, lookRes, sfOf, sgOf, hOk, hRes, hOut, ↓reduceIte, Nat.reduceEqDiff, reduceCtorEq, zC2, zA2, zB6, zA5, zB4, zB5, zA4, zB3, zA3, zB2, zC1, zA1, zB1, zA0, zB0, h37, encZ]
  simp [hv, hz, zC2, zA2, zB6, zA5, zB4, zB5, zA4, zB3, zA3, zB2, zC1, zA1, zB1, zA0, zB0, smallV]
open Classical in
noncomputable def e48 : Ent := ⟨114, fun | [d_v, .int .i64 n] => decide (isV d_v ∧ 0 ≤ n ∧ n ≤ 1048576) | _ => false, fun | [d_v, .int .i64 n] => .bool (smallV (toV d_v) n) | _ => .inil⟩
open Classical in
theorem ok48 : EntOk Tryz.prog [0] e48 := fun ds h => by
  unfold e48 at h ⊢
  simp only at h ⊢
  split at h
  · rw [decide_eq_true_iff] at h
    obtain ⟨⟨v0, rfl, k0⟩, kx⟩ := h
    simp only [zB2, zA1, zA0] at kx ⊢
    exact pc48 _ _ k0 kx
  · cases h
/-- The program's own test of smallness. -/
def encM (n : Int) : DV := .agg [.int .i64 n]
mutual
def fitV : V → Int → Int → Int × Bool
  | .mk _ _ _ _ _ it, d, n => if n - 1 < 0 ∨ d < 1 then (n - 1, false) else fitO it (d - 1) (n - 1)
def fitO : Option (List V) → Int → Int → Int × Bool
  | none, _, n => (n, true)
  | some l, d, n => fitL l d n
def fitL : List V → Int → Int → Int × Bool
  | [], _, n => (n, true)
  | v :: r, d, n => if (fitV v d n).2 = true then fitL r d (fitV v d n).1 else ((fitV v d n).1, false)
end
theorem fitO_eq (o : Option (List V)) (d n : Int) : fitO o d n = fitL (o.getD []) d n := by cases o <;> rw [fitO] <;> simp [fitL]
theorem fitV_eq (v : V) (d n : Int) : fitV v d n = if n - 1 < 0 ∨ d < 1 then (n - 1, false) else fitL v.items (d - 1) (n - 1) := by
  cases v; rw [fitV, fitO_eq]; rfl
theorem fitL_step (l : List V) (i : Nat) (d n : Int) (h : i < l.length) : fitL (l.drop i) d n = if (fitV (l.getD i default) d n).2 = true then fitL (l.drop (i + 1)) d (fitV (l.getD i default) d n).1 else ((fitV (l.getD i default) d n).1, false) := by
  rw [List.drop_eq_getElem_cons h, fitL]
  simp [List.getD, h]
theorem sizV_1 (k m e : Int) (s : ByteArray) (nm : Option (List ByteArray)) (it : Option (List V)) (d : Int) (z : Zst) : sizV (.mk k m e s nm it) d z = if (meetS z d).2 = true then meetS z d else sizO it (d - 1) (meetS z d) := by rw [sizV]
theorem sizO_1 (d : Int) (z : Zst) : sizO none d z = z := by rw [sizO]
theorem sizO_2 (l : List V) (d : Int) (z : Zst) : sizO (some l) d z = sizL l d z := by rw [sizO]
theorem sizL_1 (d : Int) (z : Zst) : sizL [] d z = z := by rw [sizL]
theorem sizL_2 (v : V) (r : List V) (d : Int) (z : Zst) : sizL (v :: r) d z = if z.2 = true then z else sizL r d (sizV v d z) := by rw [sizL]
def z0 (n : Int) : Zst := (n, false)
theorem meet_t {d n : Int} (h : n - 1 < 0 ∨ d < 1) : (meetS (z0 n) d).2 = true := by
  simp only [meetS, z0, Bool.false_or, Bool.or_eq_true]
  exact h.imp (fun h => decide_eq_true h) (fun h => decide_eq_true h)
theorem meet_f {d n : Int} (h : ¬ (n - 1 < 0 ∨ d < 1)) : meetS (z0 n) d = z0 (n - 1) := by
  have h1 : ¬ n - 1 < 0 := fun a => h (.inl a)
  have h2 : ¬ d < 1 := fun a => h (.inr a)
  simp [meetS, z0, h1, h2]
  rfl
mutual
/-- Both tests are one. -/
theorem fit_siz : ∀ (v : V) (d n : Int), 0 ≤ n → (sizV v d (z0 n)).2 = !(fitV v d n).2 ∧ ((fitV v d n).2 = true → (sizV v d (z0 n)).1 = (fitV v d n).1 ∧ 0 ≤ (fitV v d n).1)
  | .mk _ _ _ _ _ it, d, n, hn => by
    rw [sizV_1, fitV]
    by_cases h : n - 1 < 0 ∨ d < 1
    · rw [if_pos (meet_t h), if_pos h, meet_t h]
      exact ⟨rfl, fun h => by cases h⟩
    · rw [meet_f h, if_neg (by simp [z0]), if_neg h]
      exact fit_sizO it (d - 1) (n - 1) (by omega)
theorem fit_sizO : ∀ (o : Option (List V)) (d n : Int), 0 ≤ n → (sizO o d (z0 n)).2 = !(fitO o d n).2 ∧ ((fitO o d n).2 = true → (sizO o d (z0 n)).1 = (fitO o d n).1 ∧ 0 ≤ (fitO o d n).1)
  | none, d, n, hn => by rw [sizO_1, fitO]; exact ⟨rfl, fun _ => ⟨rfl, hn⟩⟩
  | some l, d, n, hn => by rw [sizO_2, fitO]; exact fit_sizL l d n hn
theorem fit_sizL : ∀ (l : List V) (d n : Int), 0 ≤ n → (sizL l d (z0 n)).2 = !(fitL l d n).2 ∧ ((fitL l d n).2 = true → (sizL l d (z0 n)).1 = (fitL l d n).1 ∧ 0 ≤ (fitL l d n).1)
  | [], d, n, hn => by rw [sizL_1, fitL]; exact ⟨rfl, fun _ => ⟨rfl, hn⟩⟩
  | v :: r, d, n, hn => by
    obtain ⟨h1, h2⟩ := fit_siz v d n hn
    rw [sizL_2, fitL, if_neg (by simp [z0])]
    cases hf : (fitV v d n).2 with
    | true =>
      obtain ⟨h3, h4⟩ := h2 hf
      rw [hf] at h1
      have : sizV v d (z0 n) = z0 (fitV v d n).1 := Prod.ext h3 h1
      rw [this, if_pos rfl]
      exact fit_sizL r d _ h4
    | false =>
      rw [hf] at h1
      rw [if_neg (by simp), sizL_over r d _ h1]
      exact ⟨h1, fun h => by cases h⟩
end
mutual
theorem fitV_lo : ∀ (v : V) (d n : Int), 0 ≤ n → -1 ≤ (fitV v d n).1 ∧ (fitV v d n).1 ≤ n ∧ ((fitV v d n).2 = true → 0 ≤ (fitV v d n).1)
  | .mk _ _ _ _ _ it, d, n, hn => by
    rw [fitV]
    split
    · exact ⟨by simp only; omega, by simp only; omega, fun h => by cases h⟩
    · have := fitO_lo it (d - 1) (n - 1) (by omega); exact ⟨this.1, by omega, this.2.2⟩
theorem fitO_lo : ∀ (o : Option (List V)) (d n : Int), 0 ≤ n → -1 ≤ (fitO o d n).1 ∧ (fitO o d n).1 ≤ n ∧ ((fitO o d n).2 = true → 0 ≤ (fitO o d n).1)
  | none, d, n, hn => by rw [fitO]; exact ⟨by simp only; omega, by simp only; omega, fun _ => hn⟩
  | some l, d, n, hn => by rw [fitO]; exact fitL_lo l d n hn
theorem fitL_lo : ∀ (l : List V) (d n : Int), 0 ≤ n → -1 ≤ (fitL l d n).1 ∧ (fitL l d n).1 ≤ n ∧ ((fitL l d n).2 = true → 0 ≤ (fitL l d n).1)
  | [], d, n, hn => by rw [fitL]; exact ⟨by simp only; omega, by simp only; omega, fun _ => hn⟩
  | v :: r, d, n, hn => by
    have h := fitV_lo v d n hn
    rw [fitL]
    split
    · rename_i hf
      have := fitL_lo r d _ (h.2.2 hf)
      exact ⟨this.1, by omega, this.2.2⟩
    · exact ⟨h.1, h.2.1, fun h => by cases h⟩
end

open Classical in
noncomputable def h46n (N : Nat) : HEnt := {
  f := 116
  es := 1
  ty := 137
  ok x ds := match x, ds with
    | .agg [.int .i64 n], [v, .int .i64 d] => decide (isV v ∧ (toV v).sz < N ∧ (0 ≤ n ∧ n ≤ 1048576) ∧ 0 ≤ d ∧ d ≤ 1048576)
    | _, _ => false
  res x ds := match x, ds with
    | .agg [.int .i64 n], [v, .int .i64 d] => .bool (fitV (toV v) d n).2
    | _, _ => .inil
  out x ds := match x, ds with
    | .agg [.int .i64 n], [v, .int .i64 d] => encM (fitV (toV v) d n).1
    | _, _ => .inil }
open Classical in
theorem okh46n {N : Nat} (h : ∀ (v : V) (n : Int) (d : Int), v.ok → v.sz < N → (0 ≤ n ∧ n ≤ 1048576) → 0 ≤ d → d ≤ 1048576 → PtrCall Tryz.prog [0] 116 1 137 (encM n) [v.enc, .int .i64 d] (encM (fitV v d n).1) (.bool (fitV v d n).2)) : HEntOk Tryz.prog [0] (h46n N) := fun x ds hk => by
  unfold h46n at hk ⊢
  simp only at hk ⊢
  split at hk
  · rw [decide_eq_true_iff] at hk
    obtain ⟨⟨v, rfl, h1⟩, h2, h3, h5, h6⟩ := hk
    simp only [zB2] at h2 ⊢
    exact h v _ _ h1 h2 h3 h5 h6
  · cases hk
def lv46 : Nat → List Nat × List Nat
  | 5 => ([0, 2, 4, 26, 27, 28], [0, 1])
  | _ => ([], [])
/-- A count in a block, as it is after a store and as it is after a call. -/
def cm : Bool → Int → AV
  | true, n => .agg [.d (.int .i64 n)]
  | false, n => .d (encM n)
theorem pc46n : ∀ (N : Nat) (v : V) (n : Int) (d : Int), v.ok → v.sz < N → (0 ≤ n ∧ n ≤ 1048576) → 0 ≤ d → d ≤ 1048576 → PtrCall Tryz.prog [0] 116 1 137 (encM n) [v.enc, .int .i64 d] (encM (fitV v d n).1) (.bool (fitV v d n).2)
  | 0, v, _, _, _, h, _, _, _ => by omega
  | N + 1, v, n, d, hv, hn, hz, hd, hd2 => by
    have okh46' := okh46n (pc46n N)
    generalize hr : fitV v d n = fr
    refine ptr_of_tree (H := shP [(116, 1, 137)] (sgOf [(h46n _)])) mixed fn46 (Nat.le_of_ble_eq_true rfl) (Nat.lt_of_succ_le (Nat.le_of_ble_eq_true rfl)) (sfOkH .nil (.cons okh46' .nil)) TbOk (lv := lv46) fun I F hI hF => ?_
    generalize hG : sgOf [(h46n _)] = G
    refine zD7 fun C hC => ?_
    generalize hgen0 : encM n = gen0
    generalize hgen1 : v.enc = gen1
    generalize hgen2 : DV.int .i64 d = gen2
    generalize hgen3 : encM fr.1 = gen3
    generalize hgen4 : DV.bool fr.2 = gen4
    cbv
    subst hgen0
    subst hgen1
    subst hgen2
    subst hgen3
    subst hgen4
    subst hC
    subst hG
    refine ⟨?_⟩
    simp (maxSteps := 3000000) only [hI, hF, std]
    have e3 : v.it.getD [] = v.items := rfl
    have il := V.ok_il hv
    have hE := fitV_eq v d n
    rw [hr] at hE
    have w : IntKind.i64.wrap (n - 1) = n - 1 := wrap64 (by omega) (by omega)
    simp only [smp, lookOk, lookRes, sfOf, sgOf, hOk, hRes, hOut, ↓reduceIte, Nat.reduceEqDiff, reduceCtorEq, zC2, zA2, zB6, zA5, zB4, zB5, zA4, zB3, zA3, zB2, zC1, zA1, zB1, zA0, zB0, h46n, encM, w]
    simp
    by_cases hc : n - 1 < 0 ∨ d < 1
    · rw [if_pos hc] at hE
      rw [hE]
      simp [cond_eq_ite]
      intro h1 h2
      omega
    rw [if_neg hc] at hE
    have hc1 : ¬ n - 1 < 0 := fun a => hc (.inl a)
    have hc2 : ¬ d < 1 := fun a => hc (.inr a)
    have wd : IntKind.i64.wrap (d - 1) = d - 1 := wrap64 (by omega) (by omega)
    have p1 : 1 ≤ n := by omega
    have p2 : 1 ≤ d := by omega
    have p3 : ¬ n < 1 := by omega
    simp [hc1, hc2, p1, p2, p3]
    refine zD8 (kend := fun I => kEndP I Tb 1 137 [.tmp 6]) (H := shP [(116, 1, 137)] (sgOf [(h46n _)])) hI hF (sfOkH .nil (.cons okh46' .nil)) TbOk (by exact fun Bk e s h => endP TbOk Bk e s h) (lv := lv46) 0 (fun i : {i : Bool × Nat × Int // i.2.1 ≤ v.items.length ∧ fitL v.items (d - 1) (n - 1) = fitL (v.items.drop i.2.1) (d - 1) i.2.2 ∧ 0 ≤ i.2.2 ∧ i.2.2 ≤ n} => [.loc 0 1 0 0, .d (.int .i64 d), .loc 1 6 0 0, .d (encO v.it), .d (.int .i64 (v.items.length : Int)), .d (.int .i64 (i.1.2.1 : Int))]) (fun i : {i : Bool × Nat × Int // i.2.1 ≤ v.items.length ∧ fitL v.items (d - 1) (n - 1) = fitL (v.items.drop i.2.1) (d - 1) i.2.2 ∧ 0 ≤ i.2.2 ∧ i.2.2 ≤ n} => [(0, some ⟨[cm i.1.1 i.1.2.2], 1, 137, true, true⟩), (1, some ⟨[.d v.enc], 6, 42, true, true⟩)]) (fun i : {i : Bool × Nat × Int // i.2.1 ≤ v.items.length ∧ fitL v.items (d - 1) (n - 1) = fitL (v.items.drop i.2.1) (d - 1) i.2.2 ∧ 0 ≤ i.2.2 ∧ i.2.2 ≤ n} => v.items.length - i.1.2.1) [0, 1] (⟨(true, 0, n - 1), by simp, by simp, by simp; omega, by simp; omega⟩ : {i : Bool × Nat × Int // i.2.1 ≤ v.items.length ∧ fitL v.items (d - 1) (n - 1) = fitL (v.items.drop i.2.1) (d - 1) i.2.2 ∧ 0 ≤ i.2.2 ∧ i.2.2 ≤ n}) (by rfl) (by rfl) ?_ ?_ fun i => ?_
    · simp [e3]
    · rfl
    obtain ⟨⟨bf, i, m⟩, hi1, hi2, hi3, hi4⟩ := i
    have hi1 : i ≤ v.items.length := hi1
    have hi2 : fitL v.items (d - 1) (n - 1) = fitL (v.items.drop i) (d - 1) m := hi2
    have hi3 : 0 ≤ m := hi3
    have hi4 : m ≤ n := hi4
    have w3 := zE0 (n := i) (by omega)
    cases bf
    · rw [show cm false m = .d (encM m) from rfl]
      generalize hG : sgOf [(h46n _)] = G
      refine zD7 fun C hC => ?_
      generalize hgen0 : encM m = gen0
      generalize hgen1 : v.enc = gen1
      generalize hgen2 : encO v.it = gen2
      generalize hgen3 : DV.int .i64 d = gen3
      generalize hgen4 : DV.int .i64 (v.items.length : Int) = gen4
      generalize hgen5 : DV.int .i64 (i : Int) = gen5
      cbv
      subst hgen0
      subst hgen1
      subst hgen2
      subst hgen3
      subst hgen4
      subst hgen5
      subst hC
      subst hG
      refine ⟨?_⟩
      simp (maxSteps := 3000000) only [hI, hF, std]
      by_cases hlt : i < v.items.length
      · have g1 := get_enc _ _ hlt
        have k1 := V.ok_get hv hlt
        have k2 := V.sz_get hlt
        have k3 : (v.items.getD i default).sz < N := by omega
        have hs := fitL_step v.items i (d - 1) m hlt
        have hlo := fitV_lo (v.items.getD i default) (d - 1) m hi3
        have hm : m ≤ 1048576 := by omega
        have hd4 : 1 ≤ d ∧ d - 1 ≤ 1048576 := by omega
        simp only [smp, lookOk, lookRes, sfOf, sgOf, hOk, hRes, hOut, ↓reduceIte, Nat.reduceEqDiff, reduceCtorEq, zC2, zA2, zB6, zA5, zB4, zB5, zA4, zB3, zA3, zB2, zC1, zA1, zB1, zA0, zB0, h46n, encM, e3, g1, wd]
        simp [hlt, w3, - List.getD_eq_getElem?_getD, k1, k3, zC2, zA2, zB6, zA5, zB4, zB5, zA4, zB3, zA3, zB2, zC1, zA1, zB1, zA0, zB0, hi3, hm, hd4, cm]
        refine ⟨fun h => ?_, fun h => ⟨i + 1, by omega, by simp, _, ⟨by omega, by rw [hi2, hs, if_pos h], hlo.2.2 h, by omega⟩, rfl⟩⟩
        rw [hE, hi2, hs, if_neg (by rw [h]; simp)]; exact ⟨rfl, rfl⟩
      · simp only [smp, lookOk, lookRes, sfOf, sgOf, hOk, hRes, hOut, ↓reduceIte, Nat.reduceEqDiff, reduceCtorEq, zC2, zA2, zB6, zA5, zB4, zB5, zA4, zB3, zA3, zB2, zC1, zA1, zB1, zA0, zB0, h46n, encM, e3]
        have hn : v.items.drop i = [] := List.drop_eq_nil_of_le (by omega)
        simp [hlt, hE, hi2, hn, fitL]
    · rw [show cm true m = .agg [.d (.int .i64 m)] from rfl]
      generalize hG : sgOf [(h46n _)] = G
      refine zD7 fun C hC => ?_
      generalize hgen0 : DV.int .i64 m = gen0
      generalize hgen1 : v.enc = gen1
      generalize hgen2 : encO v.it = gen2
      generalize hgen3 : DV.int .i64 d = gen3
      generalize hgen4 : DV.int .i64 (v.items.length : Int) = gen4
      generalize hgen5 : DV.int .i64 (i : Int) = gen5
      cbv
      subst hgen0
      subst hgen1
      subst hgen2
      subst hgen3
      subst hgen4
      subst hgen5
      subst hC
      subst hG
      refine ⟨?_⟩
      simp (maxSteps := 3000000) only [hI, hF, std]
      by_cases hlt : i < v.items.length
      · have g1 := get_enc _ _ hlt
        have k1 := V.ok_get hv hlt
        have k2 := V.sz_get hlt
        have k3 : (v.items.getD i default).sz < N := by omega
        have hs := fitL_step v.items i (d - 1) m hlt
        have hlo := fitV_lo (v.items.getD i default) (d - 1) m hi3
        have hm : m ≤ 1048576 := by omega
        have hd4 : 1 ≤ d ∧ d - 1 ≤ 1048576 := by omega
        simp only [smp, lookOk, lookRes, sfOf, sgOf, hOk, hRes, hOut, ↓reduceIte, Nat.reduceEqDiff, reduceCtorEq, zC2, zA2, zB6, zA5, zB4, zB5, zA4, zB3, zA3, zB2, zC1, zA1, zB1, zA0, zB0, h46n, encM, e3, g1, wd]
        simp [hlt, w3, - List.getD_eq_getElem?_getD, k1, k3, zC2, zA2, zB6, zA5, zB4, zB5, zA4, zB3, zA3, zB2, zC1, zA1, zB1, zA0, zB0, hi3, hm, hd4, cm]
        refine ⟨fun h => ?_, fun h => ⟨i + 1, by omega, by simp, _, ⟨by omega, by rw [hi2, hs, if_pos h], hlo.2.2 h, by omega⟩, rfl⟩⟩
        rw [hE, hi2, hs, if_neg (by rw [h]; simp)]; exact ⟨rfl, rfl⟩
      · simp only [smp, lookOk, lookRes, sfOf, sgOf, hOk, hRes, hOut, ↓reduceIte, Nat.reduceEqDiff, reduceCtorEq, zC2, zA2, zB6, zA5, zB4, zB5, zA4, zB3, zA3, zB2, zC1, zA1, zB1, zA0, zB0, h46n, encM, e3]
        have hn : v.items.drop i = [] := List.drop_eq_nil_of_le (by omega)
        simp [hlt, hE, hi2, hn, fitL]
open Classical in
noncomputable def h46 : HEnt := {
  f := 116
  es := 1
  ty := 137
  ok x ds := match x, ds with
    | .agg [.int .i64 n], [v, .int .i64 d] => decide (isV v ∧ (0 ≤ n ∧ n ≤ 1048576) ∧ 0 ≤ d ∧ d ≤ 1048576)
    | _, _ => false
  res x ds := match x, ds with
    | .agg [.int .i64 n], [v, .int .i64 d] => .bool (fitV (toV v) d n).2
    | _, _ => .inil
  out x ds := match x, ds with
    | .agg [.int .i64 n], [v, .int .i64 d] => encM (fitV (toV v) d n).1
    | _, _ => .inil }
open Classical in
theorem okh46 : HEntOk Tryz.prog [0] h46 := fun x ds hk => by
  unfold h46 at hk ⊢
  simp only at hk ⊢
  split at hk
  · rw [decide_eq_true_iff] at hk
    obtain ⟨⟨v, rfl, h1⟩, h3, h5, h6⟩ := hk
    simp only [zB2]
    exact pc46n (v.sz + 1) v _ _ h1 (by omega) h3 h5 h6
  · cases hk
theorem pc27 (v : V) (hv : v.ok) : PureCall Tryz.prog [0] 96 [v.enc] (dRet (.bool (smallV v 120))) := by
  have hf := (fit_siz v 8 120 (by omega)).1
  have hs : smallV v 120 = (fitV v 8 120).2 := by
    show (!(sizV v 8 (z0 120)).2) = _
    rw [hf]; simp
  rw [hs]
  refine zD2 (H := shP [(116, 1, 137)] (sgOf [h46])) mixed fn27 (Nat.le_of_ble_eq_true rfl) (Nat.lt_of_succ_le (Nat.le_of_ble_eq_true rfl)) (sfOkH .nil (.cons okh46 .nil)) TbOk (lv := lv0) fun I F hI hF => ?_
  generalize hG : sgOf [h46] = G
  refine zD7 fun C hC => ?_
  generalize hgen0 : v.enc = gen0
  cbv
  subst hgen0
  subst hC
  subst hG
  refine ⟨?_⟩
  simp (maxSteps := 3000000) only [hI, hF, std]
  simp only [smp, lookOk, lookRes, sfOf, sgOf, hOk, hRes, hOut, ↓reduceIte, Nat.reduceEqDiff, reduceCtorEq, zC2, zA2, zB6, zA5, zB4, zB5, zA4, zB3, zA3, zB2, zC1, zA1, zB1, zA0, zB0, h46, encM]
  simp [hv, zC2, zA2, zB6, zA5, zB4, zB5, zA4, zB3, zA3, zB2, zC1, zA1, zB1, zA0, zB0]
open Classical in
noncomputable def e27 : Ent := ⟨96, fun | [d_v] => decide (isV d_v) | _ => false, fun | [d_v] => .bool (smallV (toV d_v) 120) | _ => .inil⟩
open Classical in
theorem ok27 : EntOk Tryz.prog [0] e27 := fun ds h => by
  unfold e27 at h ⊢
  simp only at h ⊢
  split at h
  · rw [decide_eq_true_iff] at h
    obtain ⟨v0, rfl, k0⟩ := h
    simp only [zB2, zA1, zA0]
    exact pc27 _ k0
  · cases h
/-- The error of a value. -/
noncomputable def valE (v : V) : Int := if smallV v 120 then plainE v else 2
theorem pc10 (v : V) (hv : v.ok) : PureCall Tryz.prog [0] 67 [v.enc] (dRet (.int .i64 (valE v))) := by
  refine zD2 mixed fn10 (Nat.le_of_ble_eq_true rfl) (Nat.lt_of_succ_le (Nat.le_of_ble_eq_true rfl)) (sfOk (.cons ok27 (.cons ok28 .nil))) TbOk (lv := lv0) fun I F hI hF => ?_
  refine zD7 fun C hC => ?_
  generalize hgen0 : v.enc = gen0
  cbv
  subst hgen0
  subst hC
  refine ⟨?_⟩
  simp (maxSteps := 3000000) only [hI, hF, std]
  simp only [smp, lookOk, lookRes, sfOf, sgOf, hOk, hRes, hOut, ↓reduceIte, Nat.reduceEqDiff, reduceCtorEq, zC2, zA2, zB6, zA5, zB4, zB5, zA4, zB3, zA3, zB2, zC1, zA1, zB1, zA0, zB0, e27, e28]
  simp [hv, zC2, zA2, zB6, zA5, zB4, zB5, zA4, zB3, zA3, zB2, zC1, zA1, zB1, zA0, zB0, valE]
  cases smallV v 120 <;> simp
open Classical in
noncomputable def e10 : Ent := ⟨67, fun | [d_v] => decide (isV d_v) | _ => false, fun | [d_v] => .int .i64 (valE (toV d_v)) | _ => .inil⟩
open Classical in
theorem ok10 : EntOk Tryz.prog [0] e10 := fun ds h => by
  unfold e10 at h ⊢
  simp only at h ⊢
  split at h
  · rw [decide_eq_true_iff] at h
    obtain ⟨v0, rfl, k0⟩ := h
    simp only [zB2, zA1, zA0]
    exact pc10 _ k0
  · cases h
theorem pc31 (v : V) (hv : v.ok) : PureCall Tryz.prog [0] 87 [v.enc] (dRet (.int .i64 (valE v))) := by
  refine zD2 mixed fn31 (Nat.le_of_ble_eq_true rfl) (Nat.lt_of_succ_le (Nat.le_of_ble_eq_true rfl)) (sfOk (.cons ok48 (.cons ok49 .nil))) TbOk (lv := lv0) fun I F hI hF => ?_
  refine zD7 fun C hC => ?_
  generalize hgen0 : v.enc = gen0
  cbv
  subst hgen0
  subst hC
  refine ⟨?_⟩
  simp (maxSteps := 3000000) only [hI, hF, std]
  simp only [smp, lookOk, lookRes, sfOf, sgOf, hOk, hRes, hOut, ↓reduceIte, Nat.reduceEqDiff, reduceCtorEq, zC2, zA2, zB6, zA5, zB4, zB5, zA4, zB3, zA3, zB2, zC1, zA1, zB1, zA0, zB0, e48, e49]
  simp [hv, zC2, zA2, zB6, zA5, zB4, zB5, zA4, zB3, zA3, zB2, zC1, zA1, zB1, zA0, zB0, valE]
  cases smallV v 120 <;> simp
open Classical in
noncomputable def e31 : Ent := ⟨87, fun | [d_v] => decide (isV d_v) | _ => false, fun | [d_v] => .int .i64 (valE (toV d_v)) | _ => .inil⟩
open Classical in
theorem ok31 : EntOk Tryz.prog [0] e31 := fun ds h => by
  unfold e31 at h ⊢
  simp only at h ⊢
  split at h
  · rw [decide_eq_true_iff] at h
    obtain ⟨v0, rfl, k0⟩ := h
    simp only [zB2, zA1, zA0]
    exact pc31 _ k0
  · cases h
theorem pc12 (v : V) (hv : v.ok) : PureCall Tryz.prog [0] 59 [v.enc] (dRet (.int .i64 (valE v))) := by
  refine zD2 mixed fn12 (Nat.le_of_ble_eq_true rfl) (Nat.lt_of_succ_le (Nat.le_of_ble_eq_true rfl)) (sfOk (.cons ok31 .nil)) TbOk (lv := lv0) fun I F hI hF => ?_
  refine zD7 fun C hC => ?_
  generalize hgen0 : v.enc = gen0
  cbv
  subst hgen0
  subst hC
  refine ⟨?_⟩
  simp (maxSteps := 3000000) only [hI, hF, std]
  simp only [smp, lookOk, lookRes, sfOf, sgOf, hOk, hRes, hOut, ↓reduceIte, Nat.reduceEqDiff, reduceCtorEq, zC2, zA2, zB6, zA5, zB4, zB5, zA4, zB3, zA3, zB2, zC1, zA1, zB1, zA0, zB0, e31]
  simp [hv, zC2, zA2, zB6, zA5, zB4, zB5, zA4, zB3, zA3, zB2, zC1, zA1, zB1, zA0, zB0, valE]
open Classical in
noncomputable def e12 : Ent := ⟨59, fun | [d_v] => decide (isV d_v) | _ => false, fun | [d_v] => .int .i64 (valE (toV d_v)) | _ => .inil⟩
open Classical in
theorem ok12 : EntOk Tryz.prog [0] e12 := fun ds h => by
  unfold e12 at h ⊢
  simp only at h ⊢
  split at h
  · rw [decide_eq_true_iff] at h
    obtain ⟨v0, rfl, k0⟩ := h
    simp only [zB2, zA1, zA0]
    exact pc12 _ k0
  · cases h
end Go.Proofs.Sx

set_option linter.unusedVariables false
set_option linter.unusedSimpArgs false
set_option maxRecDepth 100000
namespace Go.Proofs.Sx
open Go Go.Proofs Go.Proofs.Am 
variable {gs : List Nat}

mutual
def ownV : V → V
  | .mk k n e s nm it => .mk k n e s (some (nm.getD [])) (ownO it)
def ownO : Option (List V) → Option (List V)
  | none => none
  | some l => ownR l
def ownR : List V → Option (List V)
  | [] => none
  | v :: r => some (ownV v :: ownL r)
def ownL : List V → List V
  | [] => []
  | v :: r => ownV v :: ownL r
end
theorem ownL_map : ∀ (l : List V), ownL l = l.map ownV
  | [] => by simp [ownL]
  | v :: r => by simp [ownL, ownL_map r]
theorem ownR_get (l : List V) : (ownR l).getD [] = l.map ownV := by
  cases l with
  | nil => simp [ownR]
  | cons v r => rw [ownR, ownL_map]; rfl
theorem ownO_get (o : Option (List V)) : (ownO o).getD [] = (o.getD []).map ownV := by
  cases o with
  | none => simp [ownO]
  | some l => rw [ownO, ownR_get]; rfl
theorem ownO_eq (o : Option (List V)) : ownO o = if o.getD [] = [] then none else some ((o.getD []).map ownV) := by
  cases o with
  | none => simp [ownO]
  | some l => cases l with
    | nil => rw [ownO, ownR]; rfl
    | cons v r => rw [ownO, ownR, ownL_map]; rfl
theorem own_k (v : V) : (ownV v).k = v.k := by cases v; rw [ownV]; rfl
theorem own_n (v : V) : (ownV v).n = v.n := by cases v; rw [ownV]; rfl
theorem own_e (v : V) : (ownV v).e = v.e := by cases v; rw [ownV]; rfl
theorem own_s (v : V) : (ownV v).s = v.s := by cases v; rw [ownV]; rfl
theorem own_names (v : V) : (ownV v).names = v.names := by cases v; rw [ownV]; rfl
theorem own_items (v : V) : (ownV v).items = v.items.map ownV := by cases v; rw [ownV]; exact ownO_get _
theorem own_eq (v : V) : ownV v = .mk v.k v.n v.e v.s (some v.names) (ownO v.it) := by cases v; rw [ownV]; rfl
mutual
theorem cmpV_own : ∀ (v w : V), cmpV (ownV v) (ownV w) = cmpV v w
  | .mk k n e s nm it, .mk k' n' e' s' nm' it' => by
    rw [ownV, ownV, cmpV, cmpV, cmpO_eq, cmpO_eq, ownO_get, ownO_get, cmpO_own it it']; rfl
theorem cmpO_own : ∀ (a b : Option (List V)), cmpL ((a.getD []).map ownV) ((b.getD []).map ownV) = cmpL (a.getD []) (b.getD [])
  | none, o => by
    simp only [Option.getD_none, List.map_nil]
    cases h : o.getD [] with
    | nil => rfl
    | cons v r => simp [cmpL]
  | some l, o => cmpL_own l (o.getD [])
theorem cmpL_own : ∀ (a b : List V), cmpL (a.map ownV) (b.map ownV) = cmpL a b
  | [], [] => by simp [cmpL]
  | [], _ :: _ => by simp [cmpL]
  | _ :: _, [] => by simp [cmpL]
  | x :: l, y :: r => by simp only [List.map_cons, cmpL]; rw [cmpV_own x y, cmpL_own l r]
end
theorem get_own {l : List V} {i : Nat} (h : i < l.length) : (l.map ownV).getD i default = ownV (l.getD i default) := by
  simp [List.getD, h]
theorem sorted_own (l : List V) : sortedOk (l.map ownV) = sortedOk l := by
  have : SortedP (l.map ownV) = SortedP l := by
    apply propext
    unfold SortedP
    rw [List.length_map]
    constructor
    · intro h i h1 h2
      have := h i h1 h2
      rwa [get_own h2, get_own (by omega), cmpV_own] at this
    · intro h i h1 h2
      rw [get_own h2, get_own (by omega), cmpV_own]
      exact h i h1 h2
  rw [Bool.eq_iff_iff, sortedOk_t, sortedOk_t, this]
theorem chars_own (v : V) : charsOk (ownV v) = charsOk v := by
  have : CharsP (ownV v) = CharsP v := by unfold CharsP; rw [own_s, own_k]
  rw [Bool.eq_iff_iff, charsOk_t, charsOk_t, this]
theorem ownE_own (v : V) : ownE (ownV v) = ownE v := by
  have h : (v.items.map ownV ≠ []) = (v.items ≠ []) := by simp
  have hd : ∀ (p q : Prop) (a : Decidable p) (c : Decidable q) (x y z : Int), p = q → y = z → (@ite _ p a x y) = (@ite _ q c x z) := fun p q a c x y z h1 h2 => by subst h1 h2; congr
  unfold ownE
  refine hd _ _ _ _ _ _ _ ?_ (hd _ _ _ _ _ _ _ ?_ (hd _ _ _ _ _ _ _ ?_ (hd _ _ _ _ _ _ _ ?_ (hd _ _ _ _ _ _ _ ?_ (hd _ _ _ _ _ _ _ ?_ (hd _ _ _ _ _ _ _ ?_ (hd _ _ _ _ _ _ _ ?_ (hd _ _ _ _ _ _ _ ?_ rfl)))))))) <;> simp only [own_k, own_n, own_e, own_s, own_names, own_items, chars_own, sorted_own, List.length_map, h]
mutual
theorem plainE_own : ∀ (v : V), plainE (ownV v) = plainE v
  | .mk k n e s nm it => by
    have h := ownE_own (.mk k n e s nm it)
    rw [plainE_eq, own_items, h, plainE_eq (.mk k n e s nm it)]
    have := plainO_own it
    simp only [V.items, V.it] at this ⊢
    rw [this]
theorem plainO_own : ∀ (o : Option (List V)), plainL ((V.items (.mk 0 0 0 ⟨#[]⟩ none o)).map ownV) = plainL (V.items (.mk 0 0 0 ⟨#[]⟩ none o))
  | none => rfl
  | some l => plainL_own l
theorem plainL_own : ∀ (l : List V), plainL (l.map ownV) = plainL l
  | [] => rfl
  | v :: r => by simp only [List.map_cons, plainL]; rw [plainE_own v, plainL_own r]
end
mutual
theorem sizV_own : ∀ (v : V) (d : Int) (z : Zst), sizV (ownV v) d z = sizV v d z
  | .mk k n e s nm it, d, z => by rw [ownV, sizV_1, sizV_1, sizO_eq, ownO_get, sizO_own it, sizO_eq]
theorem sizO_own : ∀ (o : Option (List V)) (d : Int) (z : Zst), sizL ((o.getD []).map ownV) d z = sizL (o.getD []) d z
  | none, d, z => rfl
  | some l, d, z => sizL_own l d z
theorem sizL_own : ∀ (l : List V) (d : Int) (z : Zst), sizL (l.map ownV) d z = sizL l d z
  | [], d, z => rfl
  | v :: r, d, z => by simp only [List.map_cons, sizL_2]; rw [sizV_own v, sizL_own r]
end
theorem valE_own (v : V) : valE (ownV v) = valE v := by
  have : smallV (ownV v) 120 = smallV v 120 := by
    have := sizV_own v 8 ((120, false) : Zst)
    unfold smallV; exact congrArg (fun z : Zst => !z.2) this
  unfold valE; rw [this, plainE_own]
mutual
theorem own_ok : ∀ {v : V}, v.ok → (ownV v).ok
  | .mk k n e s nm it, h => by
    rw [V.ok] at h
    obtain ⟨h1, h2, h3, h4⟩ := h
    rw [ownV, V.ok]
    exact ⟨h1, h2, h3, ownO_ok h4⟩
theorem ownO_ok : ∀ {o : Option (List V)}, okO o → okO (ownO o)
  | none, h => by rw [ownO]; exact h
  | some [], h => by rw [ownO, ownR]; trivial
  | some (v :: r), h => by
    rw [okO] at h
    have h2 := h.2
    rw [okL] at h2
    rw [ownO, ownR, okO, okL, ownL_map]
    exact ⟨by simpa using h.1, own_ok h2.1, ownL_ok h2.2⟩
theorem ownL_ok : ∀ {l : List V}, okL l → okL (l.map ownV)
  | [], h => by simpa using h
  | v :: r, h => by
    rw [okL] at h
    rw [List.map_cons, okL]
    exact ⟨own_ok h.1, ownL_ok h.2⟩
end
end Go.Proofs.Sx

set_option linter.unusedVariables false
set_option linter.unusedSimpArgs false
set_option maxRecDepth 100000
namespace Go.Proofs.Sx
open Go Go.Proofs Go.Proofs.Am 
variable {gs : List Nat}

structure B where
  nm : ByteArray
  v : V
instance : Inhabited B := ⟨⟨⟨#[]⟩, default⟩⟩
end Go.Proofs.Sx

set_option linter.unusedVariables false
set_option linter.unusedSimpArgs false
set_option maxRecDepth 100000
namespace Go.Proofs.Sx
open Go Go.Proofs Go.Proofs.Am 
variable {gs : List Nat}

structure Nd where
  k : Int
  n : Int
  tx : ByteArray
  nm : Option (List ByteArray)
  ar : Option (List Int)
instance : Inhabited Nd := ⟨⟨0, 0, ⟨#[]⟩, none, none⟩⟩
def Nd.names (x : Nd) : List ByteArray := x.nm.getD []
def Nd.args (x : Nd) : List Int := x.ar.getD []
def encIs (o : Option (List Int)) : DV := match o with
  | none => .snil
  | some l => .sim (l.map (.int .i64))
def encN (x : Nd) : DV := .agg [.int .i64 x.k, .int .i64 x.n, .str x.tx, encS x.nm, encIs x.ar]
def encT (o : Option (List Nd)) : DV := match o with
  | none => .snil
  | some l => .sim (l.map encN)
theorem mapI_inj {l r : List Int} (h : l.map (DV.int .i64) = r.map (.int .i64)) : l = r := by
  induction l generalizing r with
  | nil => cases r <;> first | rfl | simp at h
  | cons x l ih => cases r with
    | nil => simp at h
    | cons y r => simp at h; rw [h.1, ih h.2]
theorem encIs_inj {a b : Option (List Int)} (h : encIs a = encIs b) : a = b := by
  cases a <;> cases b <;> simp [encIs] at h <;> first | rfl | skip
  rw [mapI_inj h]
theorem encN_inj {a b : Nd} (h : encN a = encN b) : a = b := by
  simp only [encN, DV.agg.injEq, List.cons.injEq, DV.int.injEq, DV.str.injEq, true_and, and_true] at h
  obtain ⟨h1, h2, h3, h4, h5⟩ := h
  cases a; cases b
  simp only at h1 h2 h3 h4 h5
  subst h1 h2 h3
  cases encS_inj h4
  cases encIs_inj h5
  rfl
theorem encT_inj {a b : Option (List Nd)} (h : encT a = encT b) : a = b := by
  cases a <;> cases b <;> simp [encT] at h <;> first | rfl | skip
  rename_i l r
  congr
  induction l generalizing r with
  | nil => cases r <;> first | rfl | simp at h
  | cons x l ih => cases r with
    | nil => simp at h
    | cons y r =>
      simp at h
      rw [encN_inj h.1, ih r h.2]
def okIs (o : Option (List Int)) : Prop := (o.getD []).length ≤ 1048576
def okN (x : Nd) : Prop := x.tx.size ≤ 1048576 ∧ okS0 x.nm ∧ okIs x.ar
def okT (o : Option (List Nd)) : Prop := (o.getD []).length ≤ 1048576 ∧ ∀ x ∈ o.getD [], okN x
def isIs (d : DV) : Prop := ∃ o, d = encIs o ∧ okIs o
open Classical in
noncomputable def toIs (d : DV) : Option (List Int) := if h : ∃ v, d = encIs v then Classical.choose h else none
theorem zB9 (v : Option (List Int)) : toIs (encIs v) = v := by
  have h : ∃ w, encIs v = encIs w := ⟨v, rfl⟩
  unfold toIs
  rw [dif_pos h]
  exact encIs_inj (Classical.choose_spec h).symm
theorem zC3 (v : Option (List Int)) : isIs (encIs v) = okIs v := by
  apply propext
  constructor
  · rintro ⟨w, h1, h2⟩; rw [encIs_inj h1]; exact h2
  · intro h; exact ⟨v, rfl, h⟩
def isN (d : DV) : Prop := ∃ o, d = encN o ∧ okN o
open Classical in
noncomputable def toN (d : DV) : Nd := if h : ∃ v, d = encN v then Classical.choose h else default
theorem zC9 (v : Nd) : toN (encN v) = v := by
  have h : ∃ w, encN v = encN w := ⟨v, rfl⟩
  unfold toN
  rw [dif_pos h]
  exact encN_inj (Classical.choose_spec h).symm
theorem zD1 (v : Nd) : isN (encN v) = okN v := by
  apply propext
  constructor
  · rintro ⟨w, h1, h2⟩; rw [encN_inj h1]; exact h2
  · intro h; exact ⟨v, rfl, h⟩
def isT (d : DV) : Prop := ∃ o, d = encT o ∧ okT o
open Classical in
noncomputable def toT (d : DV) : Option (List Nd) := if h : ∃ v, d = encT v then Classical.choose h else none
theorem zC8 (v : Option (List Nd)) : toT (encT v) = v := by
  have h : ∃ w, encT v = encT w := ⟨v, rfl⟩
  unfold toT
  rw [dif_pos h]
  exact encT_inj (Classical.choose_spec h).symm
theorem zD0 (v : Option (List Nd)) : isT (encT v) = okT v := by
  apply propext
  constructor
  · rintro ⟨w, h1, h2⟩; rw [encT_inj h1]; exact h2
  · intro h; exact ⟨v, rfl, h⟩
theorem zC5 (o : Option (List Nd)) : lstD (encT o) = (o.getD []).map encN := by cases o <;> simp [encT, lstD]
theorem zC0 (o : Option (List Nd)) : isSlD (encT o) = true := by cases o <;> simp [encT, isSlD]
theorem zC4 (o : Option (List Nd)) : avOne (.d (encT o)) = true := by cases o <;> simp [encT, avOne]
theorem zB8 (o : Option (List Int)) : lstD (encIs o) = (o.getD []).map (.int .i64) := by cases o <;> simp [encIs, lstD]
theorem zA7 (o : Option (List Int)) : isSlD (encIs o) = true := by cases o <;> simp [encIs, isSlD]
theorem zB7 (o : Option (List Int)) : avOne (.d (encIs o)) = true := by cases o <;> simp [encIs, avOne]
theorem zA6 (x : Nd) : (encN x).cells = [.int .i64 x.k, .int .i64 x.n, .str x.tx, encS x.nm, encIs x.ar] := rfl
theorem zA8 (x : Nd) : dIsAgg (encN x) = true := rfl
theorem zA9 (o : Option (List Nd)) : (encT o).cells = [encT o] := by cases o <;> rfl
theorem zC6 (x : Nd) : dlV 5 true (encN x) 0 = encN x := dlV_whole 5 _ rfl
theorem zC7 (x : Nd) : DV.agg [.int .i64 x.k, .int .i64 x.n, .str x.tx, encS x.nm, encIs x.ar] = encN x := rfl
theorem zF7 (l : List Nd) (i : Nat) (h : i < l.length) : (l.map encN).getD i .inil = encN (l.getD i default) := by
  simp [List.getD, List.getElem?_map, List.getElem?_eq_getElem h]
theorem zE9 (l : List Int) (i : Nat) (h : i < l.length) : (l.map (DV.int .i64)).getD i .inil = .int .i64 (l.getD i 0) := by
  simp [List.getD, List.getElem?_map, List.getElem?_eq_getElem h]
theorem zH5 {o : Option (List Nd)} (h : okT o) {i : Nat} (hi : i < (o.getD []).length) : okN ((o.getD []).getD i default) := by
  refine h.2 _ ?_
  simp [List.getD, List.getElem?_eq_getElem hi]
end Go.Proofs.Sx

set_option linter.unusedVariables false
set_option linter.unusedSimpArgs false
set_option maxRecDepth 100000
namespace Go.Proofs.Sx
open Go Go.Proofs Go.Proofs.Am 
variable {gs : List Nat}

/-- What is gathered at the head of a loop: nothing yet, or a row. -/
def accA (es : Nat) : Bool → Nat → AV
  | false, _ => .d .snil
  | true, n => .slc 0 es 0 n
def accB (es ty : Nat) (els : List AV) : Bool → Option LB
  | false => none
  | true => some ⟨els, es, ty, true, true⟩
theorem mapM_d (lh : Nat → Option LB) (n : Nat) (l : List DV) : (l.map AV.d).mapM (frz lh n) = some l := frz_map_d lh n l
theorem zH4 (a b : Nat) : (Nat.add.match_1 (motive := fun _ _ => Nat) a b (fun a => a) (fun a b => (Nat.add a b).succ)) = a + b := by cases b <;> rfl
theorem frz_row {lh : LM} {b es ty n : Nat} {l : List DV} (hb : lh.get b = some ⟨l.map .d, es, ty, true, true⟩) (hn : l.length = n) (h : n ≤ 1048576) : frz lh.get 8 (.slc b es 0 n) = some (.sim l) := by
  have hl : 0 + n ≤ (l.map AV.d).length ∧ n ≤ big := ⟨by simp; omega, by unfold big; omega⟩
  simp only [frz, hb, if_pos hl, List.drop_zero]
  rw [List.take_of_length_le (by simp; omega), mapM_d]; rfl
theorem pc29 (o : Option (List ByteArray)) (ho : okS0 o) : PureCall Tryz.prog [0] 29 [encS o] (dRet (encS (some (o.getD [])))) := by
  refine pure_of_treeR mixed fn29 (Nat.le_of_ble_eq_true rfl) (Nat.lt_of_succ_le (Nat.le_of_ble_eq_true rfl)) (sfOk .nil) TbOk (lv := lv0) fun I F hI hF => ?_
  refine zD7 fun C hC => ?_
  generalize hgen0 : encS o = gen0
  cbv
  subst hgen0
  subst hC
  refine ⟨?_⟩
  simp (maxSteps := 3000000) only [hI, hF, std]
  simp only [smp, lookOk, lookRes, sfOf, sgOf, hOk, hRes, hOut, ↓reduceIte, Nat.reduceEqDiff, reduceCtorEq, zC2, zA2, zB6, zA5, zB4, zB5, zA4, zB3, zA3, zB2, zC1, zA1, zB1, zA0, zB0, zH4, tupA, List.take_nil, List.nil_append, List.length_map]
  have hl := ho.1
  refine ⟨fun h => ?_, fun h => ?_⟩
  · cases o with
    | none => rfl
    | some l => cases h
  · cases o with
    | none => cases h
    | some l =>
      refine ⟨by simp [encS, cells_str], by simp; simp at hl; omega, ?_⟩
      exact frz_row (l := l.map .str) rfl (by simp) (by simpa using hl)
open Classical in
noncomputable def e29 : Ent := ⟨29, fun | [d_o] => decide (isSs d_o) | _ => false, fun | [d_o] => encS (some ((toSs d_o).getD [])) | _ => .inil⟩
open Classical in
theorem ok29 : EntOk Tryz.prog [0] e29 := fun ds h => by
  unfold e29 at h ⊢
  simp only at h ⊢
  split at h
  · rw [decide_eq_true_iff] at h
    obtain ⟨v0, rfl, k0⟩ := h
    simp only [zB2, zA1, zA0]
    exact pc29 _ k0
  · cases h
end Go.Proofs.Sx

set_option linter.unusedVariables false
set_option linter.unusedSimpArgs false
set_option maxRecDepth 100000
namespace Go.Proofs.Sx
open Go Go.Proofs Go.Proofs.Am 
variable {gs : List Nat}

structure Kn where
  nm : ByteArray
  kd : Int
instance : Inhabited Kn := ⟨⟨⟨#[]⟩, 0⟩⟩
def encK (x : Kn) : DV := .agg [.str x.nm, .int .i64 x.kd]
def encKs (o : Option (List Kn)) : DV := match o with
  | none => .snil
  | some l => .sim (l.map encK)
theorem encK_inj {a b : Kn} (h : encK a = encK b) : a = b := by
  simp only [encK, DV.agg.injEq, List.cons.injEq, DV.int.injEq, DV.str.injEq, true_and, and_true] at h
  obtain ⟨h1, h2⟩ := h
  cases a; cases b
  simp only at h1 h2
  subst h1 h2
  rfl
theorem encKs_inj {a b : Option (List Kn)} (h : encKs a = encKs b) : a = b := by
  cases a <;> cases b <;> simp [encKs] at h <;> first | rfl | skip
  rename_i l r
  congr
  induction l generalizing r with
  | nil => cases r <;> first | rfl | simp at h
  | cons x l ih => cases r with
    | nil => simp at h
    | cons y r =>
      simp at h
      rw [encK_inj h.1, ih r h.2]
def okK (x : Kn) : Prop := x.nm.size ≤ 1048576
def okKs (o : Option (List Kn)) : Prop := (o.getD []).length ≤ 1048576 ∧ ∀ x ∈ o.getD [], okK x
def isK (d : DV) : Prop := ∃ o, d = encK o ∧ okK o
open Classical in
noncomputable def toK (d : DV) : Kn := if h : ∃ v, d = encK v then Classical.choose h else default
theorem zE7 (v : Kn) : toK (encK v) = v := by
  have h : ∃ w, encK v = encK w := ⟨v, rfl⟩
  unfold toK
  rw [dif_pos h]
  exact encK_inj (Classical.choose_spec h).symm
theorem zE8 (v : Kn) : isK (encK v) = okK v := by
  apply propext
  constructor
  · rintro ⟨w, h1, h2⟩; rw [encK_inj h1]; exact h2
  · intro h; exact ⟨v, rfl, h⟩
def isKs (d : DV) : Prop := ∃ o, d = encKs o ∧ okKs o
open Classical in
noncomputable def toKs (d : DV) : Option (List Kn) := if h : ∃ v, d = encKs v then Classical.choose h else none
theorem zD9 (v : Option (List Kn)) : toKs (encKs v) = v := by
  have h : ∃ w, encKs v = encKs w := ⟨v, rfl⟩
  unfold toKs
  rw [dif_pos h]
  exact encKs_inj (Classical.choose_spec h).symm
theorem zE3 (v : Option (List Kn)) : isKs (encKs v) = okKs v := by
  apply propext
  constructor
  · rintro ⟨w, h1, h2⟩; rw [encKs_inj h1]; exact h2
  · intro h; exact ⟨v, rfl, h⟩
theorem zE2 (o : Option (List Kn)) : lstD (encKs o) = (o.getD []).map encK := by cases o <;> simp [encKs, lstD]
theorem zD5 (o : Option (List Kn)) : isSlD (encKs o) = true := by cases o <;> simp [encKs, isSlD]
theorem zE1 (o : Option (List Kn)) : avOne (.d (encKs o)) = true := by cases o <;> simp [encKs, avOne]
theorem zD4 (x : Kn) : (encK x).cells = [.str x.nm, .int .i64 x.kd] := rfl
theorem zD6 (x : Kn) : dIsAgg (encK x) = true := rfl
theorem zD3 (o : Option (List Kn)) : (encKs o).cells = [encKs o] := by cases o <;> rfl
theorem zE5 (x : Kn) : dlV 2 true (encK x) 0 = encK x := dlV_whole 2 _ rfl
theorem zE6 (x : Kn) : DV.agg [.str x.nm, .int .i64 x.kd] = encK x := rfl
theorem get_encK (l : List Kn) (i : Nat) (h : i < l.length) : (l.map encK).getD i .inil = encK (l.getD i default) := by
  simp [List.getD, List.getElem?_map, List.getElem?_eq_getElem h]
theorem okKs_get {o : Option (List Kn)} (h : okKs o) {i : Nat} (hi : i < (o.getD []).length) : okK ((o.getD []).getD i default) := by
  refine h.2 _ ?_
  simp [List.getD, List.getElem?_eq_getElem hi]
/-- The names before one of them are others. -/
def kDbl (l : List Kn) (i : Nat) : Prop := ∃ j, j < i ∧ (l.getD j default).nm = (l.getD i default).nm
open Classical in
noncomputable def kErr1 (l : List Kn) (i : Nat) : Int :=
  if nameOk (l.getD i default).nm = false then 7 else if kDbl l i then 13
  else if ¬ ((1 ≤ (l.getD i default).kd ∧ (l.getD i default).kd ≤ 6) ∨ (9 ≤ (l.getD i default).kd ∧ (l.getD i default).kd ≤ 12) ∨ (l.getD i default).kd = 14) then 4 else 0
open Classical in
noncomputable def kErrF (l : List Kn) : Nat → Nat → Int
  | 0, _ => 0
  | m + 1, i => if kErr1 l i ≠ 0 then kErr1 l i else kErrF l m (i + 1)
/-- The error of a list of names with kinds. -/
noncomputable def kErr (l : List Kn) : Int := if 40 < l.length then 2 else kErrF l l.length 0
def lv1008 : Nat → List Nat × List Nat
  | 4 => ([0, 3], [])
  | 9 => ([0, 3, 4], [])
  | _ => ([], [])
set_option maxHeartbeats 2000000 in
theorem pc1008 (o : Option (List Kn)) (ho : okKs o) : PureCall Tryz.prog [0] 8 [encKs o] (dRet (.int .i64 (kErr (o.getD [])))) := by
  have hl := ho.1
  generalize hr : kErr (o.getD []) = r
  refine zD2 mixed fn1008 (Nat.le_of_ble_eq_true rfl) (Nat.lt_of_succ_le (Nat.le_of_ble_eq_true rfl)) (sfOk (.cons ok25 (.cons ok88 .nil))) TbOk (lv := lv1008) fun I F hI hF => ?_
  refine zD7 fun C hC => ?_
  generalize hgen0 : encKs o = gen0
  generalize hgen1 : DV.int .i64 r = gen1
  cbv
  subst hgen0
  subst hgen1
  subst hC
  refine ⟨?_⟩
  simp (maxSteps := 3000000) only [hI, hF, std]
  unfold kErr at hr
  simp only [smp, lookOk, lookRes, sfOf, sgOf, hOk, hRes, hOut, ↓reduceIte, Nat.reduceEqDiff, reduceCtorEq, zC2, zA2, zB6, zA5, zB4, zB5, zA4, zB3, zA3, zB2, zC1, zA1, zB1, zA0, zB0, zE5, zD4, zE2, zD5, zE1, zD6, zE7, zE8, zD9, zE3, zE6, zD3, e25, e88]
  simp
  refine ⟨fun h => ?_, fun h => ?_⟩
  · rw [← hr, if_pos (by omega)]
  rw [if_neg (by omega)] at hr
  refine zD8 (kend := fun I => kEndF I Tb [.tmp 2]) hI hF (sfOk (.cons ok25 (.cons ok88 .nil))) TbOk (by exact fun Bk e s h => endF TbOk Bk e s h) (lv := lv1008) 0 (fun i : {i : Nat // i ≤ (o.getD []).length ∧ kErrF (o.getD []) ((o.getD []).length - i) i = r} => [.d (encKs o), .d (.int .i64 (i.1 : Int))]) (fun i : {i : Nat // i ≤ (o.getD []).length ∧ kErrF (o.getD []) ((o.getD []).length - i) i = r} => []) (fun i : {i : Nat // i ≤ (o.getD []).length ∧ kErrF (o.getD []) ((o.getD []).length - i) i = r} => (o.getD []).length - i.1) [] (⟨0, by omega, hr⟩ : {i : Nat // i ≤ (o.getD []).length ∧ kErrF (o.getD []) ((o.getD []).length - i) i = r}) (by rfl) (by rfl) ?_ ?_ fun i => ?_
  · rfl
  · rfl
  obtain ⟨p, hi1, hi2⟩ := i
  refine zD7 fun C hC => ?_
  generalize hgen0 : encKs o = gen0
  generalize hgen1 : DV.int .i64 (p : Int) = gen1
  generalize hgen2 : DV.int .i64 r = gen2
  cbv
  subst hgen0
  subst hgen1
  subst hgen2
  subst hC
  refine ⟨?_⟩
  simp (maxSteps := 3000000) only [hI, hF, std]
  by_cases hlt : p < (o.getD []).length
  · have g1 := get_encK _ _ hlt
    rw [show (o.getD []).length - p = ((o.getD []).length - (p + 1)) + 1 from by omega, kErrF] at hi2
    simp only [smp, lookOk, lookRes, sfOf, sgOf, hOk, hRes, hOut, ↓reduceIte, Nat.reduceEqDiff, reduceCtorEq, zC2, zA2, zB6, zA5, zB4, zB5, zA4, zB3, zA3, zB2, zC1, zA1, zB1, zA0, zB0, zE5, zD4, zE2, zD5, zE1, zD6, zE7, zE8, zD9, zE3, zE6, zD3, e25, e88, g1]
    simp [hlt, - List.getD_eq_getElem?_getD]
    refine ⟨fun h => ?_, fun hn => ?_⟩
    · have he : kErr1 (o.getD []) p = 7 := by unfold kErr1; rw [if_pos h]
      rw [if_pos (by rw [he]; omega), he] at hi2; exact hi2
    refine zD8 (kend := fun I => kEndF I Tb [.tmp 2]) hI hF (sfOk (.cons ok25 (.cons ok88 .nil))) TbOk (by exact fun Bk e s h => endF TbOk Bk e s h) (lv := lv1008) 1 (fun i : {i : Nat // i ≤ p ∧ ∀ j, j < i → ((o.getD []).getD j default).nm ≠ ((o.getD []).getD p default).nm} => [.d (encKs o), .d (.int .i64 (p : Int)), .d (.int .i64 (i.1 : Int))]) (fun i : {i : Nat // i ≤ p ∧ ∀ j, j < i → ((o.getD []).getD j default).nm ≠ ((o.getD []).getD p default).nm} => []) (fun i : {i : Nat // i ≤ p ∧ ∀ j, j < i → ((o.getD []).getD j default).nm ≠ ((o.getD []).getD p default).nm} => p - i.1) [] (⟨0, by omega, fun j h => by omega⟩ : {i : Nat // i ≤ p ∧ ∀ j, j < i → ((o.getD []).getD j default).nm ≠ ((o.getD []).getD p default).nm}) (by rfl) (by rfl) ?_ ?_ fun i => ?_
    · rfl
    · rfl
    obtain ⟨m, hm1, hm2⟩ := i
    refine zD7 fun C hC => ?_
    generalize hgen0 : encKs o = gen0
    generalize hgen1 : DV.int .i64 (p : Int) = gen1
    generalize hgen2 : DV.int .i64 (m : Int) = gen2
    generalize hgen3 : DV.int .i64 r = gen3
    cbv
    subst hgen0
    subst hgen1
    subst hgen2
    subst hgen3
    subst hC
    refine ⟨?_⟩
    simp (maxSteps := 3000000) only [hI, hF, std]
    have w3 := zE0 (n := m) (by omega)
    have w4 := zE0 (n := p) (by omega)
    by_cases hmp : m < p
    · have g2 := get_encK (o.getD []) m (by omega)
      have hml : m < (o.getD []).length := by omega
      simp only [smp, lookOk, lookRes, sfOf, sgOf, hOk, hRes, hOut, ↓reduceIte, Nat.reduceEqDiff, reduceCtorEq, zC2, zA2, zB6, zA5, zB4, zB5, zA4, zB3, zA3, zB2, zC1, zA1, zB1, zA0, zB0, zE5, zD4, zE2, zD5, zE1, zD6, zE7, zE8, zD9, zE3, zE6, zD3, e25, e88, g1, g2]
      simp [hlt, hml, hmp, - List.getD_eq_getElem?_getD, w3]
      refine ⟨fun h => ?_, fun h => ⟨m + 1, by omega, ⟨by omega, fun j hj => ?_⟩, by omega⟩⟩
      · have hd : kDbl (o.getD []) p := ⟨m, hmp, h⟩
        have he : kErr1 (o.getD []) p = 13 := by unfold kErr1; rw [if_neg (by rw [hn]; exact fun h => nomatch h), if_pos hd]
        rw [if_pos (by rw [he]; omega), he] at hi2; exact hi2
      · by_cases hjm : j = m
        · subst hjm; exact h
        · exact hm2 j (by omega)
    · have hd : ¬ kDbl (o.getD []) p := fun ⟨j, h1, h2⟩ => hm2 j (by omega) h2
      simp only [smp, lookOk, lookRes, sfOf, sgOf, hOk, hRes, hOut, ↓reduceIte, Nat.reduceEqDiff, reduceCtorEq, zC2, zA2, zB6, zA5, zB4, zB5, zA4, zB3, zA3, zB2, zC1, zA1, zB1, zA0, zB0, zE5, zD4, zE2, zD5, zE1, zD6, zE7, zE8, zD9, zE3, zE6, zD3, e25, e88, g1]
      simp [hlt, hmp, - List.getD_eq_getElem?_getD, w4]
      have he : kErr1 (o.getD []) p = if ¬ ((1 ≤ ((o.getD []).getD p default).kd ∧ ((o.getD []).getD p default).kd ≤ 6) ∨ (9 ≤ ((o.getD []).getD p default).kd ∧ ((o.getD []).getD p default).kd ≤ 12) ∨ ((o.getD []).getD p default).kd = 14) then 4 else 0 := by
        unfold kErr1; rw [if_neg (by rw [hn]; exact fun h => nomatch h), if_neg hd]
      refine ⟨fun h1 h2 h3 => ?_, fun h => ?_⟩
      · rw [if_pos (by omega)] at he
        rw [if_pos (by rw [he]; omega), he] at hi2; exact hi2
      · rw [if_neg (by omega)] at he
        rw [if_neg (by rw [he]; exact fun h => h rfl)] at hi2
        rw [into_bk_ne (by decide), into_bk]
        exact ⟨⟨p + 1, by omega, hi2⟩, by show (o.getD []).length - (p + 1) < (o.getD []).length - p; omega, rfl, rfl⟩
  · simp only [smp, lookOk, lookRes, sfOf, sgOf, hOk, hRes, hOut, ↓reduceIte, Nat.reduceEqDiff, reduceCtorEq, zC2, zA2, zB6, zA5, zB4, zB5, zA4, zB3, zA3, zB2, zC1, zA1, zB1, zA0, zB0, zE5, zD4, zE2, zD5, zE1, zD6, zE7, zE8, zD9, zE3, zE6, zD3, e25, e88]
    simp [hlt, - List.getD_eq_getElem?_getD]
    rw [show (o.getD []).length - p = 0 from by omega, kErrF] at hi2
    exact hi2
open Classical in
noncomputable def e1008 : Ent := ⟨8, fun | [d_o] => decide (isKs d_o) | _ => false, fun | [d_o] => .int .i64 (kErr ((toKs d_o).getD [])) | _ => .inil⟩
open Classical in
theorem ok1008 : EntOk Tryz.prog [0] e1008 := fun ds h => by
  unfold e1008 at h ⊢
  simp only at h ⊢
  split at h
  · rw [decide_eq_true_iff] at h
    obtain ⟨v0, rfl, k0⟩ := h
    simp only [zB2, zA1, zA0, zE7, zD9]
    exact pc1008 _ k0
  · cases h
/-- Texts that are short enough. -/
def shortN (x : Nd) : Prop := x.tx.size ≤ 400 ∧ x.names.length ≤ 60 ∧ x.args.length ≤ 230 ∧ ∀ s ∈ x.names, s.size ≤ 400
def shortT (l : List Nd) : Prop := l.length ≤ 230 ∧ ∀ x ∈ l, shortN x
def lv1017 : Nat → List Nat × List Nat
  | 4 => ([0, 3], [])
  | 9 => ([0, 3, 4], [])
  | _ => ([], [])
open Classical in
theorem pc1017 (o : Option (List Nd)) (ho : okT o) : PureCall Tryz.prog [0] 17 [encT o] (dRet (.bool (decide (shortT (o.getD []))))) := by
  have hl := ho.1
  generalize hr : decide (shortT (o.getD [])) = r
  refine zD2 mixed fn1017 (Nat.le_of_ble_eq_true rfl) (Nat.lt_of_succ_le (Nat.le_of_ble_eq_true rfl)) (sfOk .nil) TbOk (lv := lv1017) fun I F hI hF => ?_
  refine zD7 fun C hC => ?_
  generalize hgen0 : encT o = gen0
  generalize hgen1 : DV.bool r = gen1
  cbv
  subst hgen0
  subst hgen1
  subst hC
  refine ⟨?_⟩
  simp (maxSteps := 3000000) only [hI, hF, std]
  simp only [smp, lookOk, lookRes, sfOf, sgOf, hOk, hRes, hOut, ↓reduceIte, Nat.reduceEqDiff, reduceCtorEq, zC2, zA2, zB6, zA5, zB4, zB5, zA4, zB3, zA3, zB2, zC1, zA1, zB1, zA0, zB0, zA9, zC6, zA6, zC5, zC0, zC4, zB8, zA7, zB7, zA8, zC9, zD1, zC8, zD0, zB9, zC3, zC7]
  simp
  refine ⟨fun h => ?_, fun h => ?_⟩
  · rw [← hr]
    have : ¬ shortT (o.getD []) := fun h' => by have := h'.1; omega
    simp [this]
  refine zD8 (kend := fun I => kEndF I Tb [.tmp 2]) hI hF (sfOk .nil) TbOk (by exact fun Bk e s h => endF TbOk Bk e s h) (lv := lv1017) 0 (fun i : {i : Nat // i ≤ (o.getD []).length ∧ ∀ j, j < i → shortN ((o.getD []).getD j default)} => [.d (encT o), .d (.int .i64 (i.1 : Int))]) (fun i : {i : Nat // i ≤ (o.getD []).length ∧ ∀ j, j < i → shortN ((o.getD []).getD j default)} => []) (fun i : {i : Nat // i ≤ (o.getD []).length ∧ ∀ j, j < i → shortN ((o.getD []).getD j default)} => (o.getD []).length - i.1) [] (⟨0, by omega, fun j h => by omega⟩ : {i : Nat // i ≤ (o.getD []).length ∧ ∀ j, j < i → shortN ((o.getD []).getD j default)}) (by rfl) (by rfl) ?_ ?_ fun i => ?_
  · rfl
  · rfl
  obtain ⟨p, hi1, hi2⟩ := i
  refine zD7 fun C hC => ?_
  generalize hgen0 : encT o = gen0
  generalize hgen1 : DV.int .i64 (p : Int) = gen1
  generalize hgen2 : DV.bool r = gen2
  cbv
  subst hgen0
  subst hgen1
  subst hgen2
  subst hC
  refine ⟨?_⟩
  simp (maxSteps := 3000000) only [hI, hF, std]
  have w4 := zE0 (n := p) (by omega)
  by_cases hlt : p < (o.getD []).length
  · have g1 := zF7 _ _ hlt
    have hx := zH5 ho hlt
    have e : ((o.getD []).getD p default).ar.getD [] = ((o.getD []).getD p default).args := rfl
    have e2 : ((o.getD []).getD p default).nm.getD [] = ((o.getD []).getD p default).names := rfl
    have nl : ((o.getD []).getD p default).names.length ≤ 1048576 := hx.2.1.1
    have hmem : (o.getD []).getD p default ∈ o.getD [] := by simp [List.getD, hlt]
    simp only [smp, lookOk, lookRes, sfOf, sgOf, hOk, hRes, hOut, ↓reduceIte, Nat.reduceEqDiff, reduceCtorEq, zC2, zA2, zB6, zA5, zB4, zB5, zA4, zB3, zA3, zB2, zC1, zA1, zB1, zA0, zB0, zA9, zC6, zA6, zC5, zC0, zC4, zB8, zA7, zB7, zA8, zC9, zD1, zC8, zD0, zB9, zC3, zC7, g1, e, e2]
    simp [hlt, - List.getD_eq_getElem?_getD, e, e2]
    refine ⟨fun h => ?_, fun a1 a2 a3 => ?_⟩
    · rw [← hr]
      have : ¬ shortT (o.getD []) := fun h' => by
        obtain ⟨b1, b2, b3, _⟩ := h'.2 _ hmem
        omega
      simp [this]
    have a1 : ((o.getD []).getD p default).tx.size ≤ 400 := Int.ofNat_le.1 a1
    have a2 : ((o.getD []).getD p default).names.length ≤ 60 := Int.ofNat_le.1 a2
    have a3 : ((o.getD []).getD p default).args.length ≤ 230 := Int.ofNat_le.1 a3
    have hmemS : ∀ (l : List ByteArray) (m : Nat), m < l.length → l.getD m ⟨#[]⟩ ∈ l := fun l m h => by simp [List.getD, h]
    refine zD8 (kend := fun I => kEndF I Tb [.tmp 2]) hI hF (sfOk .nil) TbOk (by exact fun Bk e s h => endF TbOk Bk e s h) (lv := lv1017) 1 (fun i : {i : Nat // i ≤ ((o.getD []).getD p default).names.length ∧ ∀ j, j < i → (((o.getD []).getD p default).names.getD j ⟨#[]⟩).size ≤ 400} => [.d (encT o), .d (.int .i64 (p : Int)), .d (.int .i64 (i.1 : Int))]) (fun i : {i : Nat // i ≤ ((o.getD []).getD p default).names.length ∧ ∀ j, j < i → (((o.getD []).getD p default).names.getD j ⟨#[]⟩).size ≤ 400} => []) (fun i : {i : Nat // i ≤ ((o.getD []).getD p default).names.length ∧ ∀ j, j < i → (((o.getD []).getD p default).names.getD j ⟨#[]⟩).size ≤ 400} => ((o.getD []).getD p default).names.length - i.1) [] (⟨0, by omega, fun j h => by omega⟩ : {i : Nat // i ≤ ((o.getD []).getD p default).names.length ∧ ∀ j, j < i → (((o.getD []).getD p default).names.getD j ⟨#[]⟩).size ≤ 400}) (by rfl) (by rfl) ?_ ?_ fun i => ?_
    · rfl
    · rfl
    obtain ⟨m, hm1, hm2⟩ := i
    refine zD7 fun C hC => ?_
    generalize hgen0 : encT o = gen0
    generalize hgen1 : DV.int .i64 (p : Int) = gen1
    generalize hgen2 : DV.int .i64 (m : Int) = gen2
    generalize hgen3 : DV.bool r = gen3
    cbv
    subst hgen0
    subst hgen1
    subst hgen2
    subst hgen3
    subst hC
    refine ⟨?_⟩
    simp (maxSteps := 3000000) only [hI, hF, std]
    have w3 := zE0 (n := m) (by omega)
    by_cases hml : m < ((o.getD []).getD p default).names.length
    · have g2 := zH6 _ _ hml
      simp only [smp, lookOk, lookRes, sfOf, sgOf, hOk, hRes, hOut, ↓reduceIte, Nat.reduceEqDiff, reduceCtorEq, zC2, zA2, zB6, zA5, zB4, zB5, zA4, zB3, zA3, zB2, zC1, zA1, zB1, zA0, zB0, zA9, zC6, zA6, zC5, zC0, zC4, zB8, zA7, zB7, zA8, zC9, zD1, zC8, zD0, zB9, zC3, zC7, g1, e, e2, g2]
      simp [hlt, hml, - List.getD_eq_getElem?_getD, e, e2, w3]
      refine ⟨fun h => ?_, fun h => ⟨m + 1, by omega, ⟨by omega, fun j hj => ?_⟩, by omega⟩⟩
      · rw [← hr]
        have : ¬ shortT (o.getD []) := fun h' => by
          obtain ⟨b1, b2, b3, b4⟩ := h'.2 _ hmem
          have := b4 (((o.getD []).getD p default).names.getD m ⟨#[]⟩) (hmemS _ _ hml)
          omega
        simp [this]
      · by_cases hjm : j = m
        · subst hjm; exact Int.ofNat_le.1 h
        · exact hm2 j (by omega)
    · simp only [smp, lookOk, lookRes, sfOf, sgOf, hOk, hRes, hOut, ↓reduceIte, Nat.reduceEqDiff, reduceCtorEq, zC2, zA2, zB6, zA5, zB4, zB5, zA4, zB3, zA3, zB2, zC1, zA1, zB1, zA0, zB0, zA9, zC6, zA6, zC5, zC0, zC4, zB8, zA7, zB7, zA8, zC9, zD1, zC8, zD0, zB9, zC3, zC7, g1, e, e2]
      simp [hlt, hml, - List.getD_eq_getElem?_getD, e, e2, w4]
      rw [into_bk_ne (by decide), into_bk]
      refine ⟨⟨p + 1, by omega, fun j hj => ?_⟩, by show (o.getD []).length - (p + 1) < (o.getD []).length - p; omega, rfl, rfl⟩
      by_cases hjp : j = p
      · subst hjp
        refine ⟨by omega, by omega, by omega, fun x hx => ?_⟩
        obtain ⟨q, hq, he⟩ := List.getElem_of_mem hx
        have hq2 := hm2 q (by omega)
        have hqe : ∀ (l : List ByteArray) (q : Nat) (hq : q < l.length), l.getD q ⟨#[]⟩ = l[q] := fun l q hq => by simp [List.getD, hq]
        rw [hqe _ _ hq, he] at hq2
        exact hq2
      · exact hi2 j (by omega)
  · simp only [smp, lookOk, lookRes, sfOf, sgOf, hOk, hRes, hOut, ↓reduceIte, Nat.reduceEqDiff, reduceCtorEq, zC2, zA2, zB6, zA5, zB4, zB5, zA4, zB3, zA3, zB2, zC1, zA1, zB1, zA0, zB0, zA9, zC6, zA6, zC5, zC0, zC4, zB8, zA7, zB7, zA8, zC9, zD1, zC8, zD0, zB9, zC3, zC7]
    simp [hlt, - List.getD_eq_getElem?_getD]
    rw [← hr]
    have h5 : (o.getD []).length ≤ 230 := Int.ofNat_le.1 h
    have : shortT (o.getD []) := ⟨h5, fun x hx => by
      obtain ⟨q, hq, rfl⟩ := List.getElem_of_mem hx
      have := hi2 q (by omega)
      simpa [List.getD, hq] using this⟩
    simp [this]
open Classical in
noncomputable def e1017 : Ent := ⟨17, fun | [d_o] => decide (isT d_o) | _ => false, fun | [d_o] => .bool (decide (shortT ((toT d_o).getD []))) | _ => .inil⟩
open Classical in
theorem ok1017 : EntOk Tryz.prog [0] e1017 := fun ds h => by
  unfold e1017 at h ⊢
  simp only at h ⊢
  split at h
  · rw [decide_eq_true_iff] at h
    obtain ⟨v0, rfl, k0⟩ := h
    simp only [zB2, zA1, zA0, zB9, zC9, zC8]
    exact pc1017 _ k0
  · cases h
theorem pc1030 (o : Option (List Int)) (ho : okIs o) : PureCall Tryz.prog [0] 30 [encIs o] (dRet (encIs (some (o.getD [])))) := by
  have hl : (o.getD []).length ≤ 1048576 := ho
  refine pure_of_treeR mixed fn1030 (Nat.le_of_ble_eq_true rfl) (Nat.lt_of_succ_le (Nat.le_of_ble_eq_true rfl)) (sfOk .nil) TbOk (lv := lv0) fun I F hI hF => ?_
  refine zD7 fun C hC => ?_
  generalize hgen0 : encIs o = gen0
  cbv
  subst hgen0
  subst hC
  refine ⟨?_⟩
  simp (maxSteps := 3000000) only [hI, hF, std]
  simp only [smp, lookOk, lookRes, sfOf, sgOf, hOk, hRes, hOut, ↓reduceIte, Nat.reduceEqDiff, reduceCtorEq, zC2, zA2, zB6, zA5, zB4, zB5, zA4, zB3, zA3, zB2, zC1, zA1, zB1, zA0, zB0, zA9, zC6, zA6, zC5, zC0, zC4, zB8, zA7, zB7, zA8, zC9, zD1, zC8, zD0, zB9, zC3, zC7, zH4, tupA, List.take_nil, List.nil_append, List.length_map]
  refine ⟨fun h => ?_, fun h => ?_⟩
  · cases o with
    | none => rfl
    | some l => cases h
  · cases o with
    | none => cases h
    | some l =>
      refine ⟨by simp [encIs, DV.cells], by simp; simp at hl; omega, ?_⟩
      exact frz_row (l := l.map (.int .i64)) rfl (by simp) (by simpa using hl)
open Classical in
noncomputable def e1030 : Ent := ⟨30, fun | [d_o] => decide (isIs d_o) | _ => false, fun | [d_o] => encIs (some ((toIs d_o).getD [])) | _ => .inil⟩
open Classical in
theorem ok1030 : EntOk Tryz.prog [0] e1030 := fun ds h => by
  unfold e1030 at h ⊢
  simp only at h ⊢
  split at h
  · rw [decide_eq_true_iff] at h
    obtain ⟨v0, rfl, k0⟩ := h
    simp only [zB2, zA1, zA0, zB9, zC9, zC8]
    exact pc1030 _ k0
  · cases h
end Go.Proofs.Sx

set_option linter.unusedVariables false
set_option linter.unusedSimpArgs false
set_option maxRecDepth 100000
namespace Go.Proofs.Sx
open Go Go.Proofs Go.Proofs.Am 
variable {gs : List Nat}

def TbRT : BT := (.node 1000000 ⟨none, .other, [], none⟩ .nil (.node 2000077 ⟨none, .other, [], none⟩ .nil .nil))
def TbR : Nat → Option TRow := orT TbRT.get Tb
theorem TbROk : TabOk Tryz.prog TbR := tabOk_or (tabOk_tree (by kernel_rfl)) TbOk
/-- Lists of whole numbers, place by place. -/
def lv70 : Nat → List Nat × List Nat
  | 4 => ([0, 1, 12, 13], [])
  | _ => ([], [])
theorem pc70 (a b : Option (List Int)) (ha : okIs a) (hb : okIs b) : PureCall Tryz.prog [0] 77 [encIs a, encIs b] (dRet (.bool (decide (a.getD [] = b.getD [])))) := by
  generalize hr : decide (a.getD [] = b.getD []) = r
  refine zD2 mixed fn70 (Nat.le_of_ble_eq_true rfl) (Nat.lt_of_succ_le (Nat.le_of_ble_eq_true rfl)) (sfOk .nil) TbROk (lv := lv70) fun I F hI hF => ?_
  refine zD7 fun C hC => ?_
  generalize hgen0 : encIs a = gen0
  generalize hgen1 : encIs b = gen1
  generalize hgen2 : DV.bool r = gen2
  cbv
  subst hgen0
  subst hgen1
  subst hgen2
  subst hC
  refine ⟨?_⟩
  simp (maxSteps := 3000000) only [hI, hF, std]
  have la : (a.getD []).length ≤ 1048576 := ha
  have lb : (b.getD []).length ≤ 1048576 := hb
  simp only [smp, lookOk, lookRes, sfOf, sgOf, hOk, hRes, hOut, ↓reduceIte, Nat.reduceEqDiff, reduceCtorEq, zC2, zA2, zB6, zA5, zB4, zB5, zA4, zB3, zA3, zB2, zC1, zA1, zB1, zA0, zB0, zA9, zC6, zA6, zC5, zC0, zC4, zB8, zA7, zB7, zA8, zC9, zD1, zC8, zD0, zB9, zC3, zC7]
  simp
  refine ⟨fun h => ?_, fun h => ?_⟩
  · rw [← hr]; exact decide_eq_false fun he => h (by rw [he])
  have h : (a.getD []).length = (b.getD []).length := Int.ofNat.inj h
  refine zD8 (kend := fun I => kEndF I TbR [.tmp 4]) hI hF (sfOk .nil) TbROk (by exact fun Bk e s h => endF TbROk Bk e s h) (lv := lv70) 0 (fun i : {i : Nat // i ≤ (a.getD []).length ∧ ∀ j, j < i → (a.getD []).getD j 0 = (b.getD []).getD j 0} => [.d (encIs a), .d (encIs b), .d (.int .i64 ((a.getD []).length : Int)), .d (.int .i64 (i.1 : Int))]) (fun i : {i : Nat // i ≤ (a.getD []).length ∧ ∀ j, j < i → (a.getD []).getD j 0 = (b.getD []).getD j 0} => []) (fun i : {i : Nat // i ≤ (a.getD []).length ∧ ∀ j, j < i → (a.getD []).getD j 0 = (b.getD []).getD j 0} => (a.getD []).length - i.1) [] (⟨0, by omega, fun j h => by omega⟩ : {i : Nat // i ≤ (a.getD []).length ∧ ∀ j, j < i → (a.getD []).getD j 0 = (b.getD []).getD j 0}) (by rfl) (by rfl) ?_ ?_ fun i => ?_
  · simp
  · rfl
  obtain ⟨i, hi1, hi2⟩ := i
  refine zD7 fun C hC => ?_
  generalize hgen0 : encIs a = gen0
  generalize hgen1 : encIs b = gen1
  generalize hgen2 : DV.int .i64 ((a.getD []).length : Int) = gen2
  generalize hgen3 : DV.int .i64 (i : Int) = gen3
  generalize hgen4 : DV.bool r = gen4
  cbv
  subst hgen0
  subst hgen1
  subst hgen2
  subst hgen3
  subst hgen4
  subst hC
  refine ⟨?_⟩
  simp (maxSteps := 3000000) only [hI, hF, std]
  have w3 := zE0 (n := i) (by omega)
  by_cases hlt : i < (a.getD []).length
  · have hlt2 : i < (b.getD []).length := by omega
    have g1 := zE9 _ _ hlt
    have g2 := zE9 _ _ hlt2
    simp only [smp, lookOk, lookRes, sfOf, sgOf, hOk, hRes, hOut, ↓reduceIte, Nat.reduceEqDiff, reduceCtorEq, zC2, zA2, zB6, zA5, zB4, zB5, zA4, zB3, zA3, zB2, zC1, zA1, zB1, zA0, zB0, zA9, zC6, zA6, zC5, zC0, zC4, zB8, zA7, zB7, zA8, zC9, zD1, zC8, zD0, zB9, zC3, zC7, g1, g2]
    simp [hlt, hlt2, w3, - List.getD_eq_getElem?_getD]
    refine ⟨fun hne => ?_, fun he => ⟨i + 1, by omega, ⟨by omega, fun j hj => ?_⟩, by simp⟩⟩
    · rw [← hr]; exact decide_eq_false fun he => hne (by rw [he])
    · by_cases hji : j = i
      · subst hji; exact he
      · exact hi2 j (by omega)
  · simp only [smp, lookOk, lookRes, sfOf, sgOf, hOk, hRes, hOut, ↓reduceIte, Nat.reduceEqDiff, reduceCtorEq, zC2, zA2, zB6, zA5, zB4, zB5, zA4, zB3, zA3, zB2, zC1, zA1, zB1, zA0, zB0, zA9, zC6, zA6, zC5, zC0, zC4, zB8, zA7, zB7, zA8, zC9, zD1, zC8, zD0, zB9, zC3, zC7]
    simp [hlt, - List.getD_eq_getElem?_getD]
    rw [← hr]
    have hh : a.getD [] = b.getD [] := by
      apply List.ext_getElem (by omega)
      intro j h1 h2
      have := hi2 j (by omega)
      simpa [List.getD, h1, h2] using this
    first | exact decide_eq_true hh | exact (decide_eq_true hh).symm
open Classical in
noncomputable def e70 : Ent := ⟨77, fun | [d_a, d_b] => decide (isIs d_a ∧ isIs d_b) | _ => false, fun | [d_a, d_b] => .bool (decide ((toIs d_a).getD [] = (toIs d_b).getD [])) | _ => .inil⟩
open Classical in
theorem ok70 : EntOk Tryz.prog [0] e70 := fun ds h => by
  unfold e70 at h ⊢
  simp only at h ⊢
  split at h
  · rw [decide_eq_true_iff] at h
    obtain ⟨⟨v0, rfl, k0⟩, ⟨v1, rfl, k1⟩⟩ := h
    simp only [zB2, zA1, zA0, zB9, zC9, zC8]
    exact pc70 _ _ k0 k1
  · cases h
/-- The roots of the parts so far, when a node with operands comes. -/
def stepR (roots args : List Int) (i : Int) : Option (List Int) :=
  if args.length ≤ roots.length ∧ args = roots.drop (roots.length - args.length) then some (roots.take (roots.length - args.length) ++ [i]) else none
def rootsF : List Nd → Nat → List Int → Option (List Int)
  | [], _, r => some r
  | x :: l, i, r => match stepR r x.args i with
    | some r' => rootsF l (i + 1) r'
    | none => none
def isTermS (l : List Nd) : Bool := decide (1 ≤ l.length ∧ l.length ≤ 200) && (match rootsF l 0 [] with | some r => decide (r.length = 1) | none => false)
theorem rootsF_step {l : List Nd} {i : Nat} (r : List Int) (h : i < l.length) : rootsF (l.drop i) i r = match stepR r (l.getD i default).args i with | some r' => rootsF (l.drop (i + 1)) (i + 1) r' | none => none := by
  rw [List.drop_eq_getElem_cons h, rootsF]
  simp [List.getD, h]
def lv50 : Nat → List Nat × List Nat
  | 5 => ([3, 14, 15, 16], [10003])
  | _ => ([], [])
def accL (l : List Int) : List AV := (l.map (DV.int .i64)).map .d
def okRoots (l : List Nd) (r : Bool) (i : Nat) (rs : List Int) : Prop := rs.length ≤ i ∧ r = (match rootsF (l.drop i) i rs with | some q => decide (q.length = 1) | none => false)
theorem dec_true {p : Prop} {inst : Decidable p} (h : p) : @decide p inst = true := by
  cases inst with
  | isTrue _ => rfl
  | isFalse h' => exact absurd h h'
set_option maxHeartbeats 2000000 in
theorem pc50 (o : Option (List Nd)) (ho : okT o) : PureCall Tryz.prog [0] 44 [encT o] (dRet (.bool (isTermS (o.getD [])))) := by
  have hl := ho.1
  generalize hr : isTermS (o.getD []) = r
  refine zD2 mixed fn50 (Nat.le_of_ble_eq_true rfl) (Nat.lt_of_succ_le (Nat.le_of_ble_eq_true rfl)) (sfOk (.cons ok70 .nil)) TbROk (lv := lv50) fun I F hI hF => ?_
  refine zD7 fun C hC => ?_
  generalize hgen0 : encT o = gen0
  generalize hgen1 : DV.bool r = gen1
  cbv
  subst hgen0
  subst hgen1
  subst hC
  refine ⟨?_⟩
  simp (maxSteps := 3000000) only [hI, hF, std]
  unfold isTermS at hr
  simp only [smp, lookOk, lookRes, sfOf, sgOf, hOk, hRes, hOut, ↓reduceIte, Nat.reduceEqDiff, reduceCtorEq, zC2, zA2, zB6, zA5, zB4, zB5, zA4, zB3, zA3, zB2, zC1, zA1, zB1, zA0, zB0, zA9, zC6, zA6, zC5, zC0, zC4, zB8, zA7, zB7, zA8, zC9, zD1, zC8, zD0, zB9, zC3, zC7]
  simp
  refine ⟨fun h => ?_, fun h1 h2 => ?_⟩
  · rw [← hr, decide_eq_false (by omega)]; rfl
  rw [decide_eq_true (by omega), Bool.true_and] at hr
  refine zD8 (kend := fun I => kEndF I TbR [.tmp 2]) hI hF (sfOk (.cons ok70 .nil)) TbROk (by exact fun Bk e s h => endF TbROk Bk e s h) (lv := lv50) 0 (fun i : {i : Bool × Nat × List Int // i.2.1 ≤ (o.getD []).length ∧ (i.1 = false → i.2.2 = []) ∧ okRoots (o.getD []) r i.2.1 i.2.2} => [accA 1 i.1.1 i.1.2.2.length, .d (encT o), .d (.int .i64 ((o.getD []).length : Int)), .d (.int .i64 (i.1.2.1 : Int))]) (fun i : {i : Bool × Nat × List Int // i.2.1 ≤ (o.getD []).length ∧ (i.1 = false → i.2.2 = []) ∧ okRoots (o.getD []) r i.2.1 i.2.2} => [(0, accB 1 3 (accL i.1.2.2) i.1.1)]) (fun i : {i : Bool × Nat × List Int // i.2.1 ≤ (o.getD []).length ∧ (i.1 = false → i.2.2 = []) ∧ okRoots (o.getD []) r i.2.1 i.2.2} => (o.getD []).length - i.1.2.1) [10003] (⟨(false, 0, []), by simp, by simp, by simp, by simpa using hr.symm⟩ : {i : Bool × Nat × List Int // i.2.1 ≤ (o.getD []).length ∧ (i.1 = false → i.2.2 = []) ∧ okRoots (o.getD []) r i.2.1 i.2.2}) (by rfl) (by rfl) ?_ ?_ fun i => ?_
  · simp; rfl
  · rfl
  obtain ⟨⟨b, i, rs⟩, hi1, hi2, hi3⟩ := i
  have hi1 : i ≤ (o.getD []).length := hi1
  have hi2 : b = false → rs = [] := hi2
  have hi3 : okRoots (o.getD []) r i rs := hi3
  have w3 := zE0 (n := i) (by omega)
  cases b with
  | false =>
    cases hi2 rfl
    rw [show accA 1 false ([] : List Int).length = .d .snil from rfl, show accB 1 3 (accL []) false = none from rfl]
    refine zD7 fun C hC => ?_
    generalize hgen0 : encT o = gen0
    generalize hgen1 : DV.int .i64 ((o.getD []).length : Int) = gen1
    generalize hgen2 : DV.int .i64 (i : Int) = gen2
    generalize hgen3 : DV.bool r = gen3
    cbv
    subst hgen0
    subst hgen1
    subst hgen2
    subst hgen3
    subst hC
    refine ⟨?_⟩
    simp (maxSteps := 3000000) only [hI, hF, std]
    by_cases hlt : i < (o.getD []).length
    · have g1 := zF7 _ _ hlt
      have k1 := zH5 ho hlt
      have e : ((o.getD []).getD i default).ar.getD [] = ((o.getD []).getD i default).args := rfl
      have hi3 : okRoots (o.getD []) r i [] := hi3
      have hst := rootsF_step (i := i) [] hlt
      by_cases ha : ((o.getD []).getD i default).args = []
      · have wz : IntKind.i64.wrap (0 - 0) = 0 := rfl
        have ar0 : okIs none := by show 0 ≤ _; omega
        simp only [smp, lookOk, lookRes, sfOf, sgOf, hOk, hRes, hOut, ↓reduceIte, Nat.reduceEqDiff, reduceCtorEq, zC2, zA2, zB6, zA5, zB4, zB5, zA4, zB3, zA3, zB2, zC1, zA1, zB1, zA0, zB0, zA9, zC6, zA6, zC5, zC0, zC4, zB8, zA7, zB7, zA8, zC9, zD1, zC8, zD0, zB9, zC3, zC7, e70, g1, zH4, scalarD_bool, e, ha, List.map_nil, List.length_nil]
        have wz0 : IntKind.i64.wrap 0 = 0 := rfl
        have s1 : slD .snil (some (.int .i64 0)) none = .snil := rfl
        have s2 : slD .snil none (some (.int .i64 0)) = .snil := rfl
        have t0 : toIs .snil = none := zB9 none
        have t1 : isIs .snil = okIs none := zC3 none
        simp [hlt, w3, - List.getD_eq_getElem?_getD, zA9, zC6, zA6, zC5, zC0, zC4, zB8, zA7, zB7, zA8, zC9, zD1, zC8, zD0, zB9, zC3, zC7, wz0, s1, s2, t0, t1, ar0, k1.2.2, intO, isIntD, loN, hiN, Am.asInt, isSnil]
        refine .inr ⟨i + 1, by omega, [(i : Int)], ⟨rfl, by simp⟩, ⟨by omega, by simp, ?_⟩, rfl⟩
        have := hi3.2
        rw [hst] at this
        rw [this, ha]
        simp [stepR]
      · have hp : 0 < ((o.getD []).getD i default).args.length := List.length_pos_iff.2 ha
        simp only [smp, lookOk, lookRes, sfOf, sgOf, hOk, hRes, hOut, ↓reduceIte, Nat.reduceEqDiff, reduceCtorEq, zC2, zA2, zB6, zA5, zB4, zB5, zA4, zB3, zA3, zB2, zC1, zA1, zB1, zA0, zB0, zA9, zC6, zA6, zC5, zC0, zC4, zB8, zA7, zB7, zA8, zC9, zD1, zC8, zD0, zB9, zC3, zC7, e70, g1, zH4, scalarD_bool, e, List.length_map]
        simp [hlt, w3, - List.getD_eq_getElem?_getD, zA9, zC6, zA6, zC5, zC0, zC4, zB8, zA7, zB7, zA8, zC9, zD1, zC8, zD0, zB9, zC3, zC7, ha]
        intro _
        have := hi3.2
        rw [hst] at this
        have hs : stepR [] ((o.getD []).getD i default).args i = none := by
          unfold stepR; rw [if_neg (fun h => ha (by have := h.1; simpa using this))]
        rw [hs] at this
        exact this
    · simp only [smp, lookOk, lookRes, sfOf, sgOf, hOk, hRes, hOut, ↓reduceIte, Nat.reduceEqDiff, reduceCtorEq, zC2, zA2, zB6, zA5, zB4, zB5, zA4, zB3, zA3, zB2, zC1, zA1, zB1, zA0, zB0, zA9, zC6, zA6, zC5, zC0, zC4, zB8, zA7, zB7, zA8, zC9, zD1, zC8, zD0, zB9, zC3, zC7, e70, zH4]
      simp [hlt]
      have hi3 : okRoots (o.getD []) r i [] := hi3
      have hd : (o.getD []).drop i = [] := List.drop_eq_nil_of_le (by omega)
      have := hi3.2
      rw [hd, rootsF] at this
      simpa using this
  | true =>
    obtain ⟨n, hn⟩ : ∃ n, n = rs.length := ⟨_, rfl⟩
    rw [show accA 1 true rs.length = .slc 0 1 0 n from by rw [hn]; rfl, show accB 1 3 (accL rs) true = some ⟨accL rs, 1, 3, true, true⟩ from rfl]
    have hlen : (accL rs).length = rs.length := by simp [accL]
    refine zD7 fun C hC => ?_
    generalize hgen0 : encT o = gen0
    generalize hgen1 : DV.int .i64 ((o.getD []).length : Int) = gen1
    generalize hgen2 : DV.int .i64 (i : Int) = gen2
    generalize hgen3 : DV.bool r = gen3
    generalize hgen4 : accL rs = gen4
    cbv
    subst hgen0
    subst hgen1
    subst hgen2
    subst hgen3
    subst hgen4
    subst hC
    refine ⟨?_⟩
    simp (maxSteps := 3000000) only [hI, hF, std]
    by_cases hlt : i < (o.getD []).length
    · have g1 := zF7 _ _ hlt
      have k1 := zH5 ho hlt
      have e : ((o.getD []).getD i default).ar.getD [] = ((o.getD []).getD i default).args := rfl
      have hi3 : okRoots (o.getD []) r i rs := hi3
      have hst := rootsF_step (i := i) rs hlt
      have hr3 := hi3.2
      rw [hst] at hr3
      by_cases ha : ((o.getD []).getD i default).args.length ≤ n
      · obtain ⟨m, hm⟩ : ∃ m, m = n - ((o.getD []).getD i default).args.length := ⟨_, rfl⟩
        have hnl : n ≤ i := by have := hi3.1; omega
        have wm : IntKind.i64.wrap ((n : Int) - (((o.getD []).getD i default).args.length : Int)) = (m : Int) := by
          rw [show ((n : Int) - (((o.getD []).getD i default).args.length : Int)) = (m : Int) from by omega]
          exact wrap_of rfl (by omega)
        simp only [smp, lookOk, lookRes, sfOf, sgOf, hOk, hRes, hOut, ↓reduceIte, Nat.reduceEqDiff, reduceCtorEq, zC2, zA2, zB6, zA5, zB4, zB5, zA4, zB3, zA3, zB2, zC1, zA1, zB1, zA0, zB0, zA9, zC6, zA6, zC5, zC0, zC4, zB8, zA7, zB7, zA8, zC9, zD1, zC8, zD0, zB9, zC3, zC7, e70, g1, zH4, scalarD_bool, e, accL, List.length_map]
        simp [hlt, w3, - List.getD_eq_getElem?_getD, zA9, zC6, zA6, zC5, zC0, zC4, zB8, zA7, zB7, zA8, zC9, zD1, zC8, zD0, zB9, zC3, zC7, ha, wm, k1.2.2, intO, isIntD, loN, hiN, Am.asInt]
        have hdl : (rs.drop m).length = ((o.getD []).getD i default).args.length := by rw [List.length_drop]; omega
        have hst2 : stepR rs ((o.getD []).getD i default).args i = if ((o.getD []).getD i default).args = rs.drop m then some (rs.take m ++ [(i : Int)]) else none := by
          unfold stepR
          rw [← hn, ← hm]
          by_cases he : ((o.getD []).getD i default).args = rs.drop m
          · rw [if_pos ⟨ha, he⟩, if_pos he]
          · rw [if_neg (fun h => he h.2), if_neg he]
        rw [hst2] at hr3
        have hkey : List.take (n - m) (List.drop m (List.map (DV.int IntKind.i64) rs)) = (rs.drop m).map (DV.int IntKind.i64) := by
          rw [← List.map_drop, ← List.map_take, List.take_of_length_le (by rw [List.length_drop]; omega)]
        have hno : ((o.getD []).getD i default).args ≠ rs.drop m → r = false := fun h => by rw [hr3, if_neg h]
        have htail : ((o.getD []).getD i default).args = rs.drop m → okRoots (o.getD []) r (i + 1) (rs.take m ++ [(i : Int)]) := fun h => by
          rw [if_pos h] at hr3
          refine ⟨?_, hr3⟩
          rw [List.length_append, List.length_take, List.length_singleton]; omega
        have htl : (rs.take m ++ [(i : Int)]).length = m + 1 := by rw [List.length_append, List.length_take, List.length_singleton]; omega
        have hbel : ∀ (x : AV), x ∈ List.take m (List.map (AV.d ∘ DV.int IntKind.i64) rs) → bel 0 8 x = true := fun x hx => by
          obtain ⟨y, _, rfl⟩ := List.mem_map.1 (List.mem_of_mem_take hx)
          rfl
        have hL : (rs.map (AV.d ∘ DV.int IntKind.i64)).length = n := by rw [List.length_map, hn]
        have hsim : ∀ l : List Int, l.length ≤ 1048576 → isIs (.sim (l.map (.int .i64))) := fun l h => ⟨some l, rfl, h⟩
        have hto : ∀ l : List Int, toIs (.sim (l.map (.int .i64))) = some l := fun l => zB9 (some l)
        have ht0 : toIs (.sim []) = some [] := hto []
        refine ⟨fun h => absurd h (by omega), by omega, fun hm0 hnm => ⟨⟨some [], rfl, by show 0 ≤ _; omega⟩, fun h => hno (fun h' => h ?_), fun h => ⟨by omega, ⟨?_, by omega⟩, ⟨hbel, rfl⟩, .inr ⟨i + 1, by omega, rs.take m ++ [(i : Int)], ⟨?_, by simp⟩, ⟨by omega, htail ?_⟩, ?_⟩⟩⟩, fun hmn => ⟨⟨by omega, by unfold big; omega⟩, ?_, fun h => hno (fun h' => h ?_), fun h => ⟨by omega, ⟨?_, by omega⟩, ⟨hbel, rfl⟩, .inr ⟨i + 1, by omega, rs.take m ++ [(i : Int)], ⟨?_, by simp⟩, ⟨by omega, htail ?_⟩, ?_⟩⟩⟩⟩
        · rw [ht0, h']; simp; omega
        · revert hL; generalize rs.map _ = L; intro hL; cases L <;> simp at hL ⊢ <;> omega
        · show AV.slc 0 1 0 (m + 1) = AV.slc 0 1 0 _; rw [htl]
        · rw [ht0] at h; rw [h]; simp; omega
        · show some (LB.mk _ 1 3 true true) = some (LB.mk _ 1 3 true true)
          simp
        · refine dec_true ?_
          refine ⟨(zC3 _).symm ▸ k1.2.2, ?_⟩
          rw [show (IntKind.i64.wrap ((n : Int) - (((o.getD []).getD i default).args.length : Int))) = (m : Int) from wm, Int.toNat_natCast, hkey]
          exact hsim _ (by rw [hdl]; exact k1.2.2)
        · rw [hkey, hto, h']; rfl
        · revert hL; generalize rs.map _ = L; intro hL; cases L <;> simp at hL ⊢ <;> omega
        · show AV.slc 0 1 0 (m + 1) = AV.slc 0 1 0 _; rw [htl]
        · rw [hkey, hto] at h; exact h
        · show some (LB.mk _ 1 3 true true) = some (LB.mk _ 1 3 true true)
          simp
      · simp only [smp, lookOk, lookRes, sfOf, sgOf, hOk, hRes, hOut, ↓reduceIte, Nat.reduceEqDiff, reduceCtorEq, zC2, zA2, zB6, zA5, zB4, zB5, zA4, zB3, zA3, zB2, zC1, zA1, zB1, zA0, zB0, zA9, zC6, zA6, zC5, zC0, zC4, zB8, zA7, zB7, zA8, zC9, zD1, zC8, zD0, zB9, zC3, zC7, e70, g1, zH4, scalarD_bool, e, accL, List.length_map]
        simp [hlt, w3, - List.getD_eq_getElem?_getD, zA9, zC6, zA6, zC5, zC0, zC4, zB8, zA7, zB7, zA8, zC9, zD1, zC8, zD0, zB9, zC3, zC7, ha]
        intro _
        have := hst
        rw [show stepR rs ((o.getD []).getD i default).args i = none from by unfold stepR; rw [if_neg (fun h => ha (hn ▸ h.1))]] at hr3
        exact hr3
    · simp only [smp, lookOk, lookRes, sfOf, sgOf, hOk, hRes, hOut, ↓reduceIte, Nat.reduceEqDiff, reduceCtorEq, zC2, zA2, zB6, zA5, zB4, zB5, zA4, zB3, zA3, zB2, zC1, zA1, zB1, zA0, zB0, zA9, zC6, zA6, zC5, zC0, zC4, zB8, zA7, zB7, zA8, zC9, zD1, zC8, zD0, zB9, zC3, zC7, e70, zH4]
      simp [hlt]
      have hi3 : okRoots (o.getD []) r i rs := hi3
      have hd : (o.getD []).drop i = [] := List.drop_eq_nil_of_le (by omega)
      have := hi3.2
      rw [hd, rootsF] at this
      rw [this, hn]
      exact decide_eq_decide.2 (by omega)
open Classical in
noncomputable def e50 : Ent := ⟨44, fun | [d_o] => decide (isT d_o) | _ => false, fun | [d_o] => .bool (isTermS ((toT d_o).getD [])) | _ => .inil⟩
open Classical in
theorem ok50 : EntOk Tryz.prog [0] e50 := fun ds h => by
  unfold e50 at h ⊢
  simp only at h ⊢
  split at h
  · rw [decide_eq_true_iff] at h
    obtain ⟨v0, rfl, k0⟩ := h
    simp only [zB2, zA1, zA0, zB9, zC9, zC8]
    exact pc50 _ k0
  · cases h
end Go.Proofs.Sx

set_option linter.unusedVariables false
set_option linter.unusedSimpArgs false
set_option maxRecDepth 100000
namespace Go.Proofs.Sx
open Go Go.Proofs Go.Proofs.Am 
variable {gs : List Nat}

/-- Words with blanks between them. -/
def joinW : List (List UInt8) → List UInt8
  | [] => [32]
  | w :: ws => 32 :: (w ++ joinW ws)
theorem joinW_head (ws : List (List UInt8)) : ∃ r, joinW ws = 32 :: r := by cases ws <;> exact ⟨_, rfl⟩
theorem contains_cons (b : UInt8) (l sub : List UInt8) : Lib.contains (b :: l) sub = true ↔ (sub.isPrefixOf (b :: l) = true ∨ Lib.contains l sub = true) := by
  simp only [Lib.contains, decide_eq_true_eq]
  exact idx_cons b l sub
theorem skip_word {w l x : List UInt8} (hw : (32 : UInt8) ∉ w) : Lib.contains (w ++ l) (32 :: x) = true ↔ Lib.contains l (32 :: x) = true := by
  induction w with
  | nil => rfl
  | cons b w ih =>
    rw [List.cons_append, contains_cons]
    have hb : b ≠ 32 := fun h => hw (by simp [h])
    have hp : ¬ ((32 : UInt8) :: x).isPrefixOf (b :: (w ++ l)) = true := by simp [List.isPrefixOf, Ne.symm hb]
    have := ih (fun h => hw (by simp [h]))
    constructor
    · rintro (h | h)
      · exact absurd h hp
      · exact this.1 h
    · intro h; exact .inr (this.2 h)
theorem prefix_word : ∀ {w x l r : List UInt8}, (32 : UInt8) ∉ w → (32 : UInt8) ∉ x → l = 32 :: r → ((x ++ [32]).isPrefixOf (w ++ l) = true ↔ x = w)
  | [], [], l, r, hw, hx, hl => by subst hl; simp [List.isPrefixOf]
  | [], a :: x, l, r, hw, hx, hl => by
    subst hl
    have : a ≠ 32 := fun h => hx (by simp [h])
    simp [List.isPrefixOf, this]
  | b :: w, [], l, r, hw, hx, hl => by
    have : b ≠ 32 := fun h => hw (by simp [h])
    simp [List.isPrefixOf, Ne.symm this]
  | b :: w, a :: x, l, r, hw, hx, hl => by
    have ih := prefix_word (w := w) (x := x) (l := l) (r := r) (fun h => hw (by simp [h])) (fun h => hx (by simp [h])) hl
    simp only [List.cons_append, List.isPrefixOf, Bool.and_eq_true, beq_iff_eq, List.cons.injEq]
    rw [ih]
theorem contains_words : ∀ {ws : List (List UInt8)} {x : List UInt8}, (∀ w ∈ ws, (32 : UInt8) ∉ w) → (32 : UInt8) ∉ x → x ≠ [] → (Lib.contains (joinW ws) (32 :: (x ++ [32])) = true ↔ x ∈ ws)
  | [], x, h, hx, h0 => by
    cases x with
    | nil => exact absurd rfl h0
    | cons a x =>
      simp only [joinW]
      rw [contains_cons]
      simp [Lib.contains, Lib.index, List.isPrefixOf]
  | w :: ws, x, h, hx, h0 => by
    have ih := contains_words (ws := ws) (x := x) (fun v hv => h v (by simp [hv])) hx h0
    have hw := h w (by simp)
    obtain ⟨r, hr⟩ := joinW_head ws
    have hp := prefix_word hw hx hr
    simp only [joinW]
    rw [contains_cons, skip_word hw, ih]
    have : ((32 : UInt8) :: (x ++ [32])).isPrefixOf (32 :: (w ++ joinW ws)) = (x ++ [32]).isPrefixOf (w ++ joinW ws) := by simp [List.isPrefixOf]
    rw [this, hp]
    simp
end Go.Proofs.Sx

set_option linter.unusedVariables false
set_option linter.unusedSimpArgs false
set_option maxRecDepth 100000
namespace Go.Proofs.Sx
open Go Go.Proofs Go.Proofs.Am 
variable {gs : List Nat}

def TbNT : BT := (.node 1000000 ⟨none, .other, [], none⟩ .nil .nil)
def TbN : Nat → Option TRow := orT TbNT.get Tb
theorem TbNOk : TabOk Tryz.prog TbN := tabOk_or (tabOk_tree (by kernel_rfl)) TbOk
def wIsp : ByteArray := ⟨#[105, 115, 112, 114, 101, 115, 101, 110, 116]⟩
def wIsc : ByteArray := ⟨#[105, 115, 99, 104, 111, 115, 101, 110]⟩
/-- The operators of one operand, of two. -/
def opsU : List ByteArray := [⟨#[110, 111, 116]⟩, ⟨#[110, 111, 116, 52, 98]⟩, ⟨#[108, 101, 110, 103, 116, 104, 111, 102]⟩, ⟨#[115, 105, 122, 101, 111, 102]⟩, ⟨#[105, 115, 112, 114, 101, 115, 101, 110, 116]⟩, ⟨#[105, 115, 99, 104, 111, 115, 101, 110]⟩, ⟨#[105, 110, 116, 50, 99, 104, 97, 114]⟩, ⟨#[99, 104, 97, 114, 50, 105, 110, 116]⟩, ⟨#[105, 110, 116, 50, 115, 116, 114]⟩, ⟨#[115, 116, 114, 50, 105, 110, 116]⟩, ⟨#[98, 105, 116, 50, 105, 110, 116]⟩, ⟨#[111, 99, 116, 50, 105, 110, 116]⟩, ⟨#[98, 105, 116, 50, 111, 99, 116]⟩, ⟨#[111, 99, 116, 50, 98, 105, 116]⟩, ⟨#[111, 99, 116, 50, 99, 104, 97, 114]⟩, ⟨#[99, 104, 97, 114, 50, 111, 99, 116]⟩]
def opsB : List ByteArray := [⟨#[43]⟩, ⟨#[42]⟩, ⟨#[47]⟩, ⟨#[114, 101, 109]⟩, ⟨#[109, 111, 100]⟩, ⟨#[60]⟩, ⟨#[62]⟩, ⟨#[60, 61]⟩, ⟨#[62, 61]⟩, ⟨#[61, 61]⟩, ⟨#[33, 61]⟩, ⟨#[97, 110, 100]⟩, ⟨#[111, 114]⟩, ⟨#[120, 111, 114]⟩, ⟨#[97, 110, 100, 52, 98]⟩, ⟨#[111, 114, 52, 98]⟩, ⟨#[120, 111, 114, 52, 98]⟩, ⟨#[38]⟩, ⟨#[60, 60]⟩, ⟨#[62, 62]⟩, ⟨#[60, 64]⟩, ⟨#[64, 62]⟩, ⟨#[105, 110, 116, 50, 98, 105, 116]⟩, ⟨#[105, 110, 116, 50, 111, 99, 116]⟩]
def opsP1 : List ByteArray := [⟨#[45]⟩, ⟨#[110, 111, 116]⟩, ⟨#[110, 111, 116, 52, 98]⟩, ⟨#[108, 101, 110, 103, 116, 104, 111, 102]⟩, ⟨#[115, 105, 122, 101, 111, 102]⟩, ⟨#[105, 115, 112, 114, 101, 115, 101, 110, 116]⟩, ⟨#[105, 115, 99, 104, 111, 115, 101, 110]⟩, ⟨#[105, 110, 116, 50, 99, 104, 97, 114]⟩, ⟨#[99, 104, 97, 114, 50, 105, 110, 116]⟩, ⟨#[105, 110, 116, 50, 115, 116, 114]⟩, ⟨#[115, 116, 114, 50, 105, 110, 116]⟩, ⟨#[98, 105, 116, 50, 105, 110, 116]⟩, ⟨#[111, 99, 116, 50, 105, 110, 116]⟩, ⟨#[98, 105, 116, 50, 111, 99, 116]⟩, ⟨#[111, 99, 116, 50, 98, 105, 116]⟩, ⟨#[111, 99, 116, 50, 99, 104, 97, 114]⟩, ⟨#[99, 104, 97, 114, 50, 111, 99, 116]⟩]
def opsP2 : List ByteArray := [⟨#[43]⟩, ⟨#[45]⟩, ⟨#[42]⟩, ⟨#[47]⟩, ⟨#[114, 101, 109]⟩, ⟨#[109, 111, 100]⟩, ⟨#[60]⟩, ⟨#[62]⟩, ⟨#[60, 61]⟩, ⟨#[62, 61]⟩, ⟨#[61, 61]⟩, ⟨#[33, 61]⟩, ⟨#[97, 110, 100]⟩, ⟨#[111, 114]⟩, ⟨#[120, 111, 114]⟩, ⟨#[97, 110, 100, 52, 98]⟩, ⟨#[111, 114, 52, 98]⟩, ⟨#[120, 111, 114, 52, 98]⟩, ⟨#[38]⟩, ⟨#[60, 60]⟩, ⟨#[62, 62]⟩, ⟨#[60, 64]⟩, ⟨#[64, 62]⟩, ⟨#[105, 110, 116, 50, 98, 105, 116]⟩, ⟨#[105, 110, 116, 50, 111, 99, 116]⟩]
def opsW3 : ByteArray := ⟨#[115, 117, 98, 115, 116, 114]⟩
def opsW4 : ByteArray := ⟨#[114, 101, 112, 108, 97, 99, 101]⟩
def opStr (k : Int) : ByteArray := if k = 1 then ⟨#[32, 45, 32, 110, 111, 116, 32, 110, 111, 116, 52, 98, 32, 108, 101, 110, 103, 116, 104, 111, 102, 32, 115, 105, 122, 101, 111, 102, 32, 105, 115, 112, 114, 101, 115, 101, 110, 116, 32, 105, 115, 99, 104, 111, 115, 101, 110, 32, 105, 110, 116, 50, 99, 104, 97, 114, 32, 99, 104, 97, 114, 50, 105, 110, 116, 32, 105, 110, 116, 50, 115, 116, 114, 32, 115, 116, 114, 50, 105, 110, 116, 32, 98, 105, 116, 50, 105, 110, 116, 32, 111, 99, 116, 50, 105, 110, 116, 32, 98, 105, 116, 50, 111, 99, 116, 32, 111, 99, 116, 50, 98, 105, 116, 32, 111, 99, 116, 50, 99, 104, 97, 114, 32, 99, 104, 97, 114, 50, 111, 99, 116, 32]⟩ else if k = 2 then ⟨#[32, 43, 32, 45, 32, 42, 32, 47, 32, 114, 101, 109, 32, 109, 111, 100, 32, 60, 32, 62, 32, 60, 61, 32, 62, 61, 32, 61, 61, 32, 33, 61, 32, 97, 110, 100, 32, 111, 114, 32, 120, 111, 114, 32, 97, 110, 100, 52, 98, 32, 111, 114, 52, 98, 32, 120, 111, 114, 52, 98, 32, 38, 32, 60, 60, 32, 62, 62, 32, 60, 64, 32, 64, 62, 32, 105, 110, 116, 50, 98, 105, 116, 32, 105, 110, 116, 50, 111, 99, 116, 32]⟩ else if k = 3 then ⟨#[32, 115, 117, 98, 115, 116, 114, 32]⟩ else if k = 4 then ⟨#[32, 114, 101, 112, 108, 97, 99, 101, 32]⟩ else ⟨#[]⟩
open Classical in
/-- With how many operands an operator stands. -/
noncomputable def opsOf (s : ByteArray) : List Int := if s ∈ opsU then [1] else if s = ⟨#[45]⟩ then [1, 2] else if s ∈ opsB then [2] else if s = opsW3 then [3] else if s = opsW4 then [4] else []
theorem pc95 (k : Int) : PureCall Tryz.prog [0] 111 [.int .i64 k] (dRet (.str (opStr k))) := by
  refine zD2 mixed fn95 (Nat.le_of_ble_eq_true rfl) (Nat.lt_of_succ_le (Nat.le_of_ble_eq_true rfl)) (sfOk .nil) TbNOk (lv := lv0) fun I F hI hF => ?_
  refine zD7 fun C hC => ?_
  generalize hgen0 : DV.int .i64 k = gen0
  cbv
  subst hgen0
  subst hC
  refine ⟨?_⟩
  simp (maxSteps := 3000000) only [hI, hF, std]
  simp only [smp, lookOk, lookRes, sfOf, sgOf, hOk, hRes, hOut, ↓reduceIte, Nat.reduceEqDiff, reduceCtorEq, zC2, zA2, zB6, zA5, zB4, zB5, zA4, zB3, zA3, zB2, zC1, zA1, zB1, zA0, zB0]
  unfold opStr
  by_cases h1 : k = 1
  · subst h1; simp
  by_cases h2 : k = 2
  · subst h2; simp
  by_cases h3 : k = 3
  · subst h3; simp
  by_cases h4 : k = 4
  · subst h4; simp
  simp [h1, h2, h3, h4]
noncomputable def e95 : Ent := ⟨111, fun | [.int .i64 _] => true | _ => false, fun | [.int .i64 k] => .str (opStr k) | _ => .inil⟩
open Classical in
theorem ok95 : EntOk Tryz.prog [0] e95 := fun ds h => by
  unfold e95 at h ⊢
  simp only at h ⊢
  split at h
  · exact pc95 _
  · cases h
def spc : ByteArray := ⟨#[32]⟩
/-- A word stands in a list of words. -/
def hasS (l w : ByteArray) : Bool := !decide (w = ⟨#[]⟩) && (!Lib.contains w.data.toList [32] && Lib.contains l.data.toList (32 :: (w.data.toList ++ [32])))
theorem binV_sadd (a b : ByteArray) (h : a.size + b.size ≤ 4294967296) : binV .add (.str a) (.str b) = some (.str (a ++ b)) := by simp [binV, strOp, big, h]
theorem pc94 (l w : ByteArray) (h : l.size ≤ 1048576 ∧ w.size ≤ 1048576) : PureCall Tryz.prog [0] 110 [.str l, .str w] (dRet (.bool (hasS l w))) := by
  refine zD2 mixed fn94 (Nat.le_of_ble_eq_true rfl) (Nat.lt_of_succ_le (Nat.le_of_ble_eq_true rfl)) (sfOk (.cons ok39 .nil)) TbNOk (lv := lv0) fun I F hI hF => ?_
  refine zD7 fun C hC => ?_
  generalize hgen0 : DV.str l = gen0
  generalize hgen1 : DV.str w = gen1
  cbv
  subst hgen0
  subst hgen1
  subst hC
  refine ⟨?_⟩
  simp (maxSteps := 3000000) only [hI, hF, std]
  have h1 : w.size < 4294967281 := by omega
  have h2 : l.size < 4294967281 := by omega
  have a1 : (spc ++ w).size = 1 + w.size := ByteArray.size_append
  have a2 : (spc ++ w ++ spc).size = 1 + w.size + 1 := by rw [ByteArray.size_append, a1]; rfl
  have b1 : binV .add (.str ⟨⟨[32]⟩⟩) (.str w) = some (.str (spc ++ w)) := binV_sadd _ _ (by show 1 + w.size ≤ _; omega)
  have b2 : binV .add (.str (spc ++ w)) (.str ⟨⟨[32]⟩⟩) = some (.str (spc ++ w ++ spc)) := binV_sadd _ _ (by show (spc ++ w).size + 1 ≤ _; omega)
  have dl : (spc ++ w ++ spc).data.toList = 32 :: (w.data.toList ++ [32]) := by simp [spc, ByteArray.data_append]
  have h3 : (spc ++ w ++ spc).size < 4294967281 := by omega
  simp only [smp, lookOk, lookRes, sfOf, sgOf, hOk, hRes, hOut, ↓reduceIte, Nat.reduceEqDiff, reduceCtorEq, zC2, zA2, zB6, zA5, zB4, zB5, zA4, zB3, zA3, zB2, zC1, zA1, zB1, zA0, zB0, e39, b1, b2, dl, h1, h2, h3]
  simp [hasS]
  rw [Bool.and_assoc]
open Classical in
noncomputable def e94 : Ent := ⟨110, fun | [.str l, .str w] => decide (l.size ≤ 1048576 ∧ w.size ≤ 1048576) | _ => false, fun | [.str l, .str w] => .bool (hasS l w) | _ => .inil⟩
open Classical in
theorem ok94 : EntOk Tryz.prog [0] e94 := fun ds h => by
  unfold e94 at h ⊢
  simp only at h ⊢
  split at h
  · exact pc94 _ _ (of_decide_eq_true h)
  · cases h
theorem contains_mem (b : UInt8) : ∀ (l : List UInt8), Lib.contains l [b] = true ↔ b ∈ l
  | [] => by simp [Lib.contains, Lib.index, List.isPrefixOf]
  | a :: l => by
    rw [contains_cons, contains_mem b l]
    simp [List.isPrefixOf]
theorem ba_eq {a b : ByteArray} (h : a.data.toList = b.data.toList) : a = b := by
  obtain ⟨⟨a⟩⟩ := a; obtain ⟨⟨b⟩⟩ := b
  simp only at h; rw [h]
theorem hasS_words {l w : ByteArray} {ws : List ByteArray} (hl : l.data.toList = joinW (ws.map fun x => x.data.toList)) (hs : ws.all (fun x => !x.data.toList.contains 32 && !x.data.toList.isEmpty) = true) : hasS l w = true ↔ w ∈ ws := by
  have hs' : ∀ x ∈ ws, (32 : UInt8) ∉ x.data.toList ∧ x.data.toList ≠ [] := fun x hx => by
    have := List.all_eq_true.1 hs x hx
    simpa using this
  have key : (32 : UInt8) ∉ w.data.toList → w.data.toList ≠ [] → (Lib.contains l.data.toList (32 :: (w.data.toList ++ [32])) = true ↔ w ∈ ws) := fun h1 h2 => by
    rw [hl, contains_words (fun x hx => by obtain ⟨y, hy, rfl⟩ := List.mem_map.1 hx; exact (hs' y hy).1) h1 h2]
    constructor
    · intro h; obtain ⟨y, hy, he⟩ := List.mem_map.1 h; rw [← ba_eq he]; exact hy
    · intro h; exact List.mem_map.2 ⟨w, h, rfl⟩
  simp only [hasS, Bool.and_eq_true, Bool.not_eq_true', decide_eq_false_iff_not]
  constructor
  · rintro ⟨h1, h2, h3⟩
    have h2 : ¬ Lib.contains w.data.toList [32] = true := by rw [h2]; simp
    rw [contains_mem] at h2
    exact (key h2 fun h => h1 (ba_eq h)).1 h3
  · intro h
    have q := hs' w h
    refine ⟨fun hc => q.2 (by rw [hc]), ?_, (key q.1 q.2).2 h⟩
    have : ¬ Lib.contains w.data.toList [32] = true := by rw [contains_mem]; exact q.1
    simpa using this
theorem mem_opsP1 (w : ByteArray) : w ∈ opsP1 ↔ w = ⟨#[45]⟩ ∨ w ∈ opsU := by
  have : opsP1 = ⟨#[45]⟩ :: opsU := rfl
  rw [this, List.mem_cons]
theorem mem_opsP2 (w : ByteArray) : w ∈ opsP2 ↔ w = ⟨#[45]⟩ ∨ w ∈ opsB := by
  have h1 : opsP2 = ⟨#[43]⟩ :: ⟨#[45]⟩ :: opsB.tail := rfl
  have h2 : opsB = ⟨#[43]⟩ :: opsB.tail := rfl
  rw [h1]; conv => rhs; rw [h2]
  simp only [List.mem_cons]
  constructor
  · rintro (h | h | h) <;> simp [h]
  · rintro (h | h | h) <;> simp [h]
theorem apart_ops {l r : List ByteArray} (h : (l.all fun x => r.all fun y => !decide (x = y)) = true) {w : ByteArray} (h1 : w ∈ l) : w ∉ r := fun h2 => by
  have := List.all_eq_true.1 (List.all_eq_true.1 h w h1) w h2
  simp at this
theorem apUB : (opsU.all fun x => opsB.all fun y => !decide (x = y)) = true := by kernel_rfl
theorem apMU : (([⟨#[45]⟩] : List ByteArray).all fun x => (opsU ++ opsB).all fun y => !decide (x = y)) = true := by kernel_rfl
theorem apS : (([opsW3, opsW4] : List ByteArray).all fun x => (⟨#[45]⟩ :: (opsU ++ opsB)).all fun y => !decide (x = y)) = true := by kernel_rfl
theorem has_opsOf (k : Int) (w : ByteArray) : hasS (opStr k) w = true ↔ k ∈ opsOf w := by
  have a1 : ∀ x, x ∈ opsU → x ∉ opsB := fun x h => apart_ops apUB h
  have a2 : (⟨#[45]⟩ : ByteArray) ∉ opsU ++ opsB := apart_ops apMU (by simp)
  have a3 : opsW3 ∉ (⟨#[45]⟩ :: (opsU ++ opsB) : List ByteArray) := apart_ops apS (by simp)
  have a4 : opsW4 ∉ (⟨#[45]⟩ :: (opsU ++ opsB) : List ByteArray) := apart_ops apS (by simp)
  have a5 : opsW3 ≠ opsW4 := by decide
  simp only [List.mem_append, List.mem_cons, not_or] at a2 a3 a4
  have e : k ∈ opsOf w ↔ (k = 1 ∧ (w = ⟨#[45]⟩ ∨ w ∈ opsU)) ∨ (k = 2 ∧ (w = ⟨#[45]⟩ ∨ w ∈ opsB)) ∨ (k = 3 ∧ w = opsW3) ∨ (k = 4 ∧ w = opsW4) := by
    unfold opsOf
    by_cases c1 : w ∈ opsU
    · have c2 := a1 w c1
      have c3 : w ≠ ⟨#[45]⟩ := fun h => a2.1 (h ▸ c1)
      have c4 : w ≠ opsW3 := fun h => a3.2.1 (h ▸ c1)
      have c5 : w ≠ opsW4 := fun h => a4.2.1 (h ▸ c1)
      simp [c1, c2, c3, c4, c5]
    by_cases c2 : w = ⟨#[45]⟩
    · subst c2
      have c4 : (⟨#[45]⟩ : ByteArray) ≠ opsW3 := fun h => a3.1 h.symm
      have c5 : (⟨#[45]⟩ : ByteArray) ≠ opsW4 := fun h => a4.1 h.symm
      simp [a2, c4, c5]
    by_cases c3 : w ∈ opsB
    · have c4 : w ≠ opsW3 := fun h => a3.2.2 (h ▸ c3)
      have c5 : w ≠ opsW4 := fun h => a4.2.2 (h ▸ c3)
      simp [c1, c2, c3, c4, c5]
    by_cases c4 : w = opsW3
    · subst c4; simp [c1, c2, c3, a5]
    by_cases c5 : w = opsW4
    · subst c5; simp [c1, c2, c3, c4]
    simp [c1, c2, c3, c4, c5]
  rw [e, ← mem_opsP1, ← mem_opsP2]
  by_cases h1 : k = 1
  · subst h1
    rw [hasS_words (ws := opsP1) (by kernel_rfl) (by kernel_rfl)]; simp
  by_cases h2 : k = 2
  · subst h2
    rw [hasS_words (ws := opsP2) (by kernel_rfl) (by kernel_rfl)]; simp
  by_cases h3 : k = 3
  · subst h3
    rw [hasS_words (ws := [opsW3]) (by kernel_rfl) (by kernel_rfl)]; simp
  by_cases h4 : k = 4
  · subst h4
    rw [hasS_words (ws := [opsW4]) (by kernel_rfl) (by kernel_rfl)]; simp
  have : opStr k = ⟨#[]⟩ := by simp [opStr, h1, h2, h3, h4]
  have hf : hasS ⟨#[]⟩ w = false := by simp [hasS, Lib.contains, Lib.index]
  rw [this, hf]
  simp [h1, h2, h3, h4]
/-- Does a node ask whether a field is there? -/
def asksS (x : Nd) : Bool := decide (x.k = 8) && (decide (x.tx = wIsp) || decide (x.tx = wIsc))
theorem pc97 (x : Nd) (hx : okN x) : PureCall Tryz.prog [0] 27 [encN x] (dRet (.bool (asksS x))) := by
  refine zD2 mixed fn97 (Nat.le_of_ble_eq_true rfl) (Nat.lt_of_succ_le (Nat.le_of_ble_eq_true rfl)) (sfOk .nil) TbNOk (lv := lv0) fun I F hI hF => ?_
  refine zD7 fun C hC => ?_
  generalize hgen0 : encN x = gen0
  cbv
  subst hgen0
  subst hC
  refine ⟨?_⟩
  simp (maxSteps := 3000000) only [hI, hF, std]
  simp only [smp, lookOk, lookRes, sfOf, sgOf, hOk, hRes, hOut, ↓reduceIte, Nat.reduceEqDiff, reduceCtorEq, zC2, zA2, zB6, zA5, zB4, zB5, zA4, zB3, zA3, zB2, zC1, zA1, zB1, zA0, zB0, zA9, zC6, zA6, zC5, zC0, zC4, zB8, zA7, zB7, zA8, zC9, zD1, zC8, zD0, zB9, zC3, zC7]
  simp [asksS, wIsp, wIsc]
  rfl
open Classical in
noncomputable def e97 : Ent := ⟨27, fun | [d_x] => decide (isN d_x) | _ => false, fun | [d_x] => .bool (asksS (toN d_x)) | _ => .inil⟩
open Classical in
theorem ok97 : EntOk Tryz.prog [0] e97 := fun ds h => by
  unfold e97 at h ⊢
  simp only at h ⊢
  split at h
  · rw [decide_eq_true_iff] at h
    obtain ⟨v0, rfl, k0⟩ := h
    simp only [zB2, zA1, zA0, zB9, zC9, zC8]
    exact pc97 _ k0
  · cases h
def zeroV : V := .mk 0 0 0 ⟨#[]⟩ none none
/-- The value that a node without operands is. -/
def litV (x : Nd) : V :=
  if x.k = 0 then .mk 2 x.n 0 ⟨#[]⟩ none none else if x.k = 1 then .mk 1 x.n 0 ⟨#[]⟩ none none else if x.k = 6 then .mk 14 x.n 0 ⟨#[]⟩ none none
  else if x.k = 2 then .mk 6 0 0 x.tx none none else if x.k = 3 then .mk 4 0 0 x.tx none none else if x.k = 4 then .mk 5 0 0 x.tx none none else if x.k = 5 then .mk 3 0 0 x.tx none none else zeroV
theorem pc74 (x : Nd) (hx : okN x) : PureCall Tryz.prog [0] 23 [encN x] (dRet (.tup [(litV x).enc, .bool (decide (0 ≤ x.k ∧ x.k ≤ 6))])) := by
  generalize hr : litV x = r
  generalize hr2 : decide (0 ≤ x.k ∧ x.k ≤ 6) = r2
  refine zD2 mixed fn74 (Nat.le_of_ble_eq_true rfl) (Nat.lt_of_succ_le (Nat.le_of_ble_eq_true rfl)) (sfOk .nil) TbNOk (lv := lv0) fun I F hI hF => ?_
  refine zD7 fun C hC => ?_
  generalize hgen0 : encN x = gen0
  generalize hgen1 : r.enc = gen1
  generalize hgen2 : DV.bool r2 = gen2
  cbv
  subst hgen0
  subst hgen1
  subst hgen2
  subst hC
  refine ⟨?_⟩
  simp (maxSteps := 3000000) only [hI, hF, std]
  simp only [smp, lookOk, lookRes, sfOf, sgOf, hOk, hRes, hOut, ↓reduceIte, Nat.reduceEqDiff, reduceCtorEq, zC2, zA2, zB6, zA5, zB4, zB5, zA4, zB3, zA3, zB2, zC1, zA1, zB1, zA0, zB0, zA9, zC6, zA6, zC5, zC0, zC4, zB8, zA7, zB7, zA8, zC9, zD1, zC8, zD0, zB9, zC3, zC7]
  simp
  subst hr hr2
  unfold litV zeroV
  by_cases h0 : x.k = 0
  · simp [h0, V.enc, encS, encO]
  by_cases h1 : x.k = 1
  · simp [h1, V.enc, encS, encO]
  by_cases h2 : x.k = 6
  · simp [h2, V.enc, encS, encO]
  by_cases h3 : x.k = 2
  · simp [h3, V.enc, encS, encO]
  by_cases h4 : x.k = 3
  · simp [h4, V.enc, encS, encO]
  by_cases h5 : x.k = 4
  · simp [h5, V.enc, encS, encO]
  by_cases h6 : x.k = 5
  · simp [h6, V.enc, encS, encO]
  simp [h0, h1, h2, h3, h4, h5, h6, V.enc, encS, encO]
  try omega
open Classical in
noncomputable def e74 : Ent := ⟨23, fun | [d_x] => decide (isN d_x) | _ => false, fun | [d_x] => .tup [(litV (toN d_x)).enc, .bool (decide (0 ≤ (toN d_x).k ∧ (toN d_x).k ≤ 6))] | _ => .inil⟩
open Classical in
theorem ok74 : EntOk Tryz.prog [0] e74 := fun ds h => by
  unfold e74 at h ⊢
  simp only at h ⊢
  split at h
  · rw [decide_eq_true_iff] at h
    obtain ⟨v0, rfl, k0⟩ := h
    simp only [zB2, zA1, zA0, zB9, zC9, zC8]
    exact pc74 _ k0
  · cases h
theorem pc91 (s : ByteArray) (hs : s.size ≤ 1048576) : PureCall Tryz.prog [0] 107 [.str s] (dRet (.bool (!nameOk s))) := by
  refine zD2 mixed fn91 (Nat.le_of_ble_eq_true rfl) (Nat.lt_of_succ_le (Nat.le_of_ble_eq_true rfl)) (sfOk (.cons ok21 .nil)) TbNOk (lv := lv0) fun I F hI hF => ?_
  refine zD7 fun C hC => ?_
  generalize hgen0 : DV.str s = gen0
  cbv
  subst hgen0
  subst hC
  refine ⟨?_⟩
  simp (maxSteps := 3000000) only [hI, hF, std]
  simp only [smp, lookOk, lookRes, sfOf, sgOf, hOk, hRes, hOut, ↓reduceIte, Nat.reduceEqDiff, reduceCtorEq, zC2, zA2, zB6, zA5, zB4, zB5, zA4, zB3, zA3, zB2, zC1, zA1, zB1, zA0, zB0, e21]
  simp [hs]
open Classical in
noncomputable def e91 : Ent := ⟨107, fun | [.str s] => decide (s.size ≤ 1048576) | _ => false, fun | [.str s] => .bool (!nameOk s) | _ => .inil⟩
open Classical in
theorem ok91 : EntOk Tryz.prog [0] e91 := fun ds h => by
  unfold e91 at h ⊢
  simp only at h ⊢
  split at h
  · exact pc91 _ (of_decide_eq_true h)
  · cases h
theorem pc83b (o : Option (List ByteArray)) (ho : okS0 o) : PureCall Tryz.prog [0] 129 [encS o, .fn 107 []] (dRet (.int .i64 (idxN (o.getD [])))) := by
  have hl := ho.1
  refine zD2 mixed fn83 (Nat.le_of_ble_eq_true rfl) (Nat.lt_of_succ_le (Nat.le_of_ble_eq_true rfl)) (sfOk (.cons ok91 .nil)) TbNOk (lv := lv83) fun I F hI hF => ?_
  refine zD7 fun C hC => ?_
  generalize hgen0 : encS o = gen0
  cbv
  subst hgen0
  subst hC
  refine ⟨?_⟩
  simp (maxSteps := 3000000) only [hI, hF, std]
  simp only [smp, lookOk, lookRes, sfOf, sgOf, hOk, hRes, hOut, ↓reduceIte, Nat.reduceEqDiff, reduceCtorEq, zC2, zA2, zB6, zA5, zB4, zB5, zA4, zB3, zA3, zB2, zC1, zA1, zB1, zA0, zB0]
  refine zD8 (kend := fun I => kEndF I TbN [.tmp 4]) hI hF (sfOk (.cons ok91 .nil)) TbNOk (by exact fun Bk e s h => endF TbNOk Bk e s h) (lv := lv83) 0 (fun i : {i : Nat // i ≤ (o.getD []).length ∧ ∀ j, j < i → nameOk ((o.getD []).getD j ⟨#[]⟩) = true} => [.d (encS o), .d (.fn 107 []), .d (.int .i64 ((o.getD []).length : Int)), .d (.int .i64 (i.1 : Int))]) (fun i : {i : Nat // i ≤ (o.getD []).length ∧ ∀ j, j < i → nameOk ((o.getD []).getD j ⟨#[]⟩) = true} => []) (fun i : {i : Nat // i ≤ (o.getD []).length ∧ ∀ j, j < i → nameOk ((o.getD []).getD j ⟨#[]⟩) = true} => (o.getD []).length - i.1) [] (⟨0, by omega, fun j h => by omega⟩ : {i : Nat // i ≤ (o.getD []).length ∧ ∀ j, j < i → nameOk ((o.getD []).getD j ⟨#[]⟩) = true}) (by rfl) (by rfl) ?_ ?_ fun i => ?_
  · simp
  · rfl
  obtain ⟨i, hi1, hi2⟩ := i
  refine zD7 fun C hC => ?_
  generalize hgen0 : encS o = gen0
  generalize hgen1 : DV.int .i64 ((o.getD []).length : Int) = gen1
  generalize hgen2 : DV.int .i64 (i : Int) = gen2
  cbv
  subst hgen0
  subst hgen1
  subst hgen2
  subst hC
  refine ⟨?_⟩
  simp (maxSteps := 3000000) only [hI, hF, std]
  have w3 := zE0 (n := i) (by omega)
  by_cases hlt : i < (o.getD []).length
  · have g1 := zH6 _ _ hlt
    have k1 := okS0_get ho hlt
    simp only [smp, lookOk, lookRes, sfOf, sgOf, hOk, hRes, hOut, ↓reduceIte, Nat.reduceEqDiff, reduceCtorEq, zC2, zA2, zB6, zA5, zB4, zB5, zA4, zB3, zA3, zB2, zC1, zA1, zB1, zA0, zB0, e91, g1]
    simp [hlt, w3, - List.getD_eq_getElem?_getD, k1]
    refine ⟨fun h => (idxN_some hlt h hi2).symm, fun h => ⟨i + 1, by omega, ⟨by omega, fun j hj => ?_⟩, by simp⟩⟩
    by_cases hji : j = i
    · subst hji; exact h
    · exact hi2 j (by omega)
  · simp only [smp, lookOk, lookRes, sfOf, sgOf, hOk, hRes, hOut, ↓reduceIte, Nat.reduceEqDiff, reduceCtorEq, zC2, zA2, zB6, zA5, zB4, zB5, zA4, zB3, zA3, zB2, zC1, zA1, zB1, zA0, zB0, e91]
    simp [hlt, - List.getD_eq_getElem?_getD]
    exact (idxN_none fun j hj => hi2 j (by omega)).symm
open Classical in
noncomputable def e83b : Ent := ⟨129, fun | [d_o, .fn 107 []] => decide (isSs d_o) | _ => false, fun | [d_o, .fn 107 []] => .int .i64 (idxN ((toSs d_o).getD [])) | _ => .inil⟩
open Classical in
theorem ok83b : EntOk Tryz.prog [0] e83b := fun ds h => by
  unfold e83b at h ⊢
  simp only at h ⊢
  split at h
  · rw [decide_eq_true_iff] at h
    obtain ⟨v0, rfl, k0⟩ := h
    simp only [zB2, zA1, zA0]
    exact pc83b _ k0
  · cases h
theorem pc64b (o : Option (List ByteArray)) (ho : okS0 o) : PureCall Tryz.prog [0] 106 [encS o, .fn 107 []] (dRet (.bool (decide (0 ≤ idxN (o.getD []))))) := by
  refine zD2 mixed fn64 (Nat.le_of_ble_eq_true rfl) (Nat.lt_of_succ_le (Nat.le_of_ble_eq_true rfl)) (sfOk (.cons ok83b .nil)) TbNOk (lv := lv0) fun I F hI hF => ?_
  refine zD7 fun C hC => ?_
  generalize hgen0 : encS o = gen0
  cbv
  subst hgen0
  subst hC
  refine ⟨?_⟩
  simp (maxSteps := 3000000) only [hI, hF, std]
  simp only [smp, lookOk, lookRes, sfOf, sgOf, hOk, hRes, hOut, ↓reduceIte, Nat.reduceEqDiff, reduceCtorEq, zC2, zA2, zB6, zA5, zB4, zB5, zA4, zB3, zA3, zB2, zC1, zA1, zB1, zA0, zB0, e83b]
  simp [ho, zC2, zA2, zB6, zA5, zB4, zB5, zA4, zB3, zA3, zB2, zC1, zA1, zB1, zA0, zB0]
open Classical in
noncomputable def e64b : Ent := ⟨106, fun | [d_o, .fn 107 []] => decide (isSs d_o) | _ => false, fun | [d_o, .fn 107 []] => .bool (decide (0 ≤ idxN ((toSs d_o).getD []))) | _ => .inil⟩
open Classical in
theorem ok64b : EntOk Tryz.prog [0] e64b := fun ds h => by
  unfold e64b at h ⊢
  simp only at h ⊢
  split at h
  · rw [decide_eq_true_iff] at h
    obtain ⟨v0, rfl, k0⟩ := h
    simp only [zB2, zA1, zA0]
    exact pc64b _ k0
  · cases h
theorem opStr_size (k : Int) : (opStr k).size ≤ 1048576 := by unfold opStr; repeat (first | split | decide)
theorem pc93 (k : Int) (x : Nd) (hx : okN x) : PureCall Tryz.prog [0] 109 [.int .i64 k, .pim [encN x] 0 0] (dRet (.bool (hasS (opStr k) x.tx))) := by
  refine zD2 mixed fn93 (Nat.le_of_ble_eq_true rfl) (Nat.lt_of_succ_le (Nat.le_of_ble_eq_true rfl)) (sfOk (.cons ok94 (.cons ok95 .nil))) TbNOk (lv := lv0) fun I F hI hF => ?_
  refine zD7 fun C hC => ?_
  generalize hgen0 : DV.int .i64 k = gen0
  generalize hgen1 : encN x = gen1
  cbv
  subst hgen0
  subst hgen1
  subst hC
  refine ⟨?_⟩
  simp (maxSteps := 3000000) only [hI, hF, std]
  have h1 := opStr_size k
  simp only [smp, lookOk, lookRes, sfOf, sgOf, hOk, hRes, hOut, ↓reduceIte, Nat.reduceEqDiff, reduceCtorEq, zC2, zA2, zB6, zA5, zB4, zB5, zA4, zB3, zA3, zB2, zC1, zA1, zB1, zA0, zB0, zA9, zC6, zA6, zC5, zC0, zC4, zB8, zA7, zB7, zA8, zC9, zD1, zC8, zD0, zB9, zC3, zC7, e94, e95]
  simp [h1, hx.1]
open Classical in
noncomputable def e93 : Ent := ⟨109, fun | [.int .i64 k, .pim [d_x] 0 0] => decide (isN d_x) | _ => false, fun | [.int .i64 k, .pim [d_x] 0 0] => .bool (hasS (opStr k) (toN d_x).tx) | _ => .inil⟩
open Classical in
theorem ok93 : EntOk Tryz.prog [0] e93 := fun ds h => by
  unfold e93 at h ⊢
  simp only at h ⊢
  split at h
  · rw [decide_eq_true_iff] at h
    obtain ⟨v0, rfl, k0⟩ := h
    simp only [zB2, zA1, zA0, zB9, zC9, zC8]
    exact pc93 _ _ k0
  · cases h
/-- The first place of a number with a property. -/
def idxP (p : Int → Bool) : List Int → Int
  | [] => -1
  | x :: l => if p x = true then 0 else if idxP p l < 0 then -1 else idxP p l + 1
theorem idxP_none {p : Int → Bool} : ∀ {l : List Int}, (∀ i, i < l.length → p (l.getD i 0) = false) → idxP p l = -1
  | [], _ => rfl
  | x :: l, h => by
    have h0 := h 0 (by simp)
    have ih := idxP_none (l := l) fun i hi => h (i + 1) (by simpa using hi)
    simp only [idxP]
    rw [if_neg (by simpa using h0), ih, if_pos (by omega)]
theorem idxP_some {p : Int → Bool} : ∀ {l : List Int} {i : Nat}, i < l.length → p (l.getD i 0) = true → (∀ j, j < i → p (l.getD j 0) = false) → idxP p l = i
  | x :: l, 0, h, h1, h2 => by simp only [idxP]; rw [if_pos (by simpa using h1)]; rfl
  | x :: l, i + 1, h, h1, h2 => by
    have h0 := h2 0 (by omega)
    have ih := idxP_some (l := l) (i := i) (by simpa using h) (by simpa using h1) fun j hj => h2 (j + 1) (by omega)
    simp only [idxP]
    rw [if_neg (by simpa using h0), ih, if_neg (by omega)]; simp
theorem idxP_iff (p : Int → Bool) : ∀ (l : List Int), 0 ≤ idxP p l ↔ ∃ x ∈ l, p x = true
  | [] => by simp [idxP]
  | x :: l => by
    have ih := idxP_iff p l
    have hge : -1 ≤ idxP p l := by
      clear ih
      induction l with
      | nil => simp [idxP]
      | cons y l ih => simp only [idxP]; split <;> (try split) <;> omega
    simp only [idxP, List.mem_cons, exists_eq_or_imp]
    by_cases hx : p x = true
    · simp [hx]
    · rw [if_neg hx]
      by_cases h : idxP p l < 0
      · rw [if_pos h, ← ih]; simp [hx]; omega
      · rw [if_neg h, ← ih]; simp [hx]; omega
def lv111 : Nat → List Nat × List Nat
  | 2 => ([0, 1, 7, 8], [])
  | _ => ([], [])
theorem pc111 (o : Option (List Int)) (x : Nd) (ho : okIs o) (hx : okN x) : PureCall Tryz.prog [0] 130 [encIs o, .fn 109 [.pim [encN x] 0 0]] (dRet (.int .i64 (idxP (fun k => hasS (opStr k) x.tx) (o.getD [])))) := by
  have hl : (o.getD []).length ≤ 1048576 := ho
  refine zD2 mixed fn111 (Nat.le_of_ble_eq_true rfl) (Nat.lt_of_succ_le (Nat.le_of_ble_eq_true rfl)) (sfOk (.cons ok93 .nil)) TbNOk (lv := lv111) fun I F hI hF => ?_
  refine zD7 fun C hC => ?_
  generalize hgen0 : encIs o = gen0
  generalize hgen1 : encN x = gen1
  cbv
  subst hgen0
  subst hgen1
  subst hC
  refine ⟨?_⟩
  simp (maxSteps := 3000000) only [hI, hF, std]
  simp only [smp, lookOk, lookRes, sfOf, sgOf, hOk, hRes, hOut, ↓reduceIte, Nat.reduceEqDiff, reduceCtorEq, zC2, zA2, zB6, zA5, zB4, zB5, zA4, zB3, zA3, zB2, zC1, zA1, zB1, zA0, zB0, zA9, zC6, zA6, zC5, zC0, zC4, zB8, zA7, zB7, zA8, zC9, zD1, zC8, zD0, zB9, zC3, zC7]
  refine zD8 (kend := fun I => kEndF I TbN [.tmp 4]) hI hF (sfOk (.cons ok93 .nil)) TbNOk (by exact fun Bk e s h => endF TbNOk Bk e s h) (lv := lv111) 0 (fun i : {i : Nat // i ≤ (o.getD []).length ∧ ∀ j, j < i → hasS (opStr ((o.getD []).getD j 0)) x.tx = false} => [.d (encIs o), .d (.fn 109 [.pim [encN x] 0 0]), .d (.int .i64 ((o.getD []).length : Int)), .d (.int .i64 (i.1 : Int))]) (fun i : {i : Nat // i ≤ (o.getD []).length ∧ ∀ j, j < i → hasS (opStr ((o.getD []).getD j 0)) x.tx = false} => []) (fun i : {i : Nat // i ≤ (o.getD []).length ∧ ∀ j, j < i → hasS (opStr ((o.getD []).getD j 0)) x.tx = false} => (o.getD []).length - i.1) [] (⟨0, by omega, fun j h => by omega⟩ : {i : Nat // i ≤ (o.getD []).length ∧ ∀ j, j < i → hasS (opStr ((o.getD []).getD j 0)) x.tx = false}) (by rfl) (by rfl) ?_ ?_ fun i => ?_
  · simp
  · rfl
  obtain ⟨i, hi1, hi2⟩ := i
  refine zD7 fun C hC => ?_
  generalize hgen0 : encIs o = gen0
  generalize hgen1 : encN x = gen1
  generalize hgen2 : DV.int .i64 ((o.getD []).length : Int) = gen2
  generalize hgen3 : DV.int .i64 (i : Int) = gen3
  cbv
  subst hgen0
  subst hgen1
  subst hgen2
  subst hgen3
  subst hC
  refine ⟨?_⟩
  simp (maxSteps := 3000000) only [hI, hF, std]
  have w3 := zE0 (n := i) (by omega)
  by_cases hlt : i < (o.getD []).length
  · have g1 := zE9 _ _ hlt
    simp only [smp, lookOk, lookRes, sfOf, sgOf, hOk, hRes, hOut, ↓reduceIte, Nat.reduceEqDiff, reduceCtorEq, zC2, zA2, zB6, zA5, zB4, zB5, zA4, zB3, zA3, zB2, zC1, zA1, zB1, zA0, zB0, zA9, zC6, zA6, zC5, zC0, zC4, zB8, zA7, zB7, zA8, zC9, zD1, zC8, zD0, zB9, zC3, zC7, e93, g1]
    simp [hlt, w3, - List.getD_eq_getElem?_getD, hx, zA9, zC6, zA6, zC5, zC0, zC4, zB8, zA7, zB7, zA8, zC9, zD1, zC8, zD0, zB9, zC3, zC7]
    refine ⟨fun h => (idxP_some hlt h hi2).symm, fun h => ⟨i + 1, by omega, ⟨by omega, fun j hj => ?_⟩, by simp⟩⟩
    by_cases hji : j = i
    · subst hji; exact h
    · exact hi2 j (by omega)
  · simp only [smp, lookOk, lookRes, sfOf, sgOf, hOk, hRes, hOut, ↓reduceIte, Nat.reduceEqDiff, reduceCtorEq, zC2, zA2, zB6, zA5, zB4, zB5, zA4, zB3, zA3, zB2, zC1, zA1, zB1, zA0, zB0, zA9, zC6, zA6, zC5, zC0, zC4, zB8, zA7, zB7, zA8, zC9, zD1, zC8, zD0, zB9, zC3, zC7, e93]
    simp [hlt, - List.getD_eq_getElem?_getD]
    exact (idxP_none fun j hj => hi2 j (by omega)).symm
open Classical in
noncomputable def e111 : Ent := ⟨130, fun | [d_o, .fn 109 [.pim [d_x] 0 0]] => decide (isIs d_o ∧ isN d_x) | _ => false, fun | [d_o, .fn 109 [.pim [d_x] 0 0]] => .int .i64 (idxP (fun k => hasS (opStr k) (toN d_x).tx) ((toIs d_o).getD [])) | _ => .inil⟩
open Classical in
theorem ok111 : EntOk Tryz.prog [0] e111 := fun ds h => by
  unfold e111 at h ⊢
  simp only at h ⊢
  split at h
  · rw [decide_eq_true_iff] at h
    obtain ⟨⟨v0, rfl, k0⟩, ⟨v1, rfl, k1⟩⟩ := h
    simp only [zB2, zA1, zA0, zB9, zC9, zC8]
    exact pc111 _ _ k0 k1
  · cases h
theorem pc92 (o : Option (List Int)) (x : Nd) (ho : okIs o) (hx : okN x) : PureCall Tryz.prog [0] 108 [encIs o, .fn 109 [.pim [encN x] 0 0]] (dRet (.bool (decide (0 ≤ idxP (fun k => hasS (opStr k) x.tx) (o.getD []))))) := by
  refine zD2 mixed fn92 (Nat.le_of_ble_eq_true rfl) (Nat.lt_of_succ_le (Nat.le_of_ble_eq_true rfl)) (sfOk (.cons ok111 .nil)) TbNOk (lv := lv0) fun I F hI hF => ?_
  refine zD7 fun C hC => ?_
  generalize hgen0 : encIs o = gen0
  generalize hgen1 : encN x = gen1
  cbv
  subst hgen0
  subst hgen1
  subst hC
  refine ⟨?_⟩
  simp (maxSteps := 3000000) only [hI, hF, std]
  simp only [smp, lookOk, lookRes, sfOf, sgOf, hOk, hRes, hOut, ↓reduceIte, Nat.reduceEqDiff, reduceCtorEq, zC2, zA2, zB6, zA5, zB4, zB5, zA4, zB3, zA3, zB2, zC1, zA1, zB1, zA0, zB0, zA9, zC6, zA6, zC5, zC0, zC4, zB8, zA7, zB7, zA8, zC9, zD1, zC8, zD0, zB9, zC3, zC7, e111]
  simp [ho, hx, zA9, zC6, zA6, zC5, zC0, zC4, zB8, zA7, zB7, zA8, zC9, zD1, zC8, zD0, zB9, zC3, zC7]
open Classical in
noncomputable def e92 : Ent := ⟨108, fun | [d_o, .fn 109 [.pim [d_x] 0 0]] => decide (isIs d_o ∧ isN d_x) | _ => false, fun | [d_o, .fn 109 [.pim [d_x] 0 0]] => .bool (decide (0 ≤ idxP (fun k => hasS (opStr k) (toN d_x).tx) ((toIs d_o).getD []))) | _ => .inil⟩
open Classical in
theorem ok92 : EntOk Tryz.prog [0] e92 := fun ds h => by
  unfold e92 at h ⊢
  simp only at h ⊢
  split at h
  · rw [decide_eq_true_iff] at h
    obtain ⟨⟨v0, rfl, k0⟩, ⟨v1, rfl, k1⟩⟩ := h
    simp only [zB2, zA1, zA0, zB9, zC9, zC8]
    exact pc92 _ _ k0 k1
  · cases h
theorem sim4 : DV.sim [.int .i64 1, .int .i64 2, .int .i64 3, .int .i64 4] = encIs (some [1, 2, 3, 4]) := rfl
open Classical in
/-- The error of the names of a node. -/
noncomputable def nmE (x : Nd) : Int :=
  if ¬ NamesP x.names then 7 else if (x.k = 7 ∨ x.k = 12) ∧ nameOk x.tx = false then 7 else if x.k = 8 ∧ opsOf x.tx = [] then 7 else 0
theorem opsOf_nil (w : ByteArray) : opsOf w = [] ↔ ¬ (0 ≤ idxP (fun k => hasS (opStr k) w) [1, 2, 3, 4]) := by
  rw [idxP_iff]
  have : ∀ k, k ∈ opsOf w → k = 1 ∨ k = 2 ∨ k = 3 ∨ k = 4 := fun k h => by
    unfold opsOf at h
    split at h
    · simp at h; simp [h]
    · split at h
      · simp at h; rcases h with h | h <;> simp [h]
      · split at h
        · simp at h; simp [h]
        · split at h
          · simp at h; simp [h]
          · split at h
            · simp at h; simp [h]
            · cases h
  constructor
  · rintro h ⟨k, _, hk⟩
    rw [has_opsOf, h] at hk; cases hk
  · intro h
    apply List.eq_nil_iff_forall_not_mem.2
    intro k hk
    refine h ⟨k, ?_, (has_opsOf k w).2 hk⟩
    rcases this k hk with h | h | h | h <;> simp [h]
theorem pc71 (x : Nd) (hx : okN x) : PureCall Tryz.prog [0] 78 [encN x] (dRet (.int .i64 (nmE x))) := by
  generalize hr : nmE x = r
  refine zD2 mixed fn71 (Nat.le_of_ble_eq_true rfl) (Nat.lt_of_succ_le (Nat.le_of_ble_eq_true rfl)) (sfOk (.cons ok64b (.cons ok21 (.cons ok92 .nil)))) TbNOk (lv := lv0) fun I F hI hF => ?_
  refine zD7 fun C hC => ?_
  generalize hgen0 : encN x = gen0
  generalize hgen1 : DV.int .i64 r = gen1
  cbv
  subst hgen0
  subst hgen1
  subst hC
  refine ⟨?_⟩
  simp (maxSteps := 3000000) only [hI, hF, std]
  have i4 : okIs (some [1, 2, 3, 4]) := by show 4 ≤ _; omega
  simp only [smp, lookOk, lookRes, sfOf, sgOf, hOk, hRes, hOut, ↓reduceIte, Nat.reduceEqDiff, reduceCtorEq, zC2, zA2, zB6, zA5, zB4, zB5, zA4, zB3, zA3, zB2, zC1, zA1, zB1, zA0, zB0, zA9, zC6, zA6, zC5, zC0, zC4, zB8, zA7, zB7, zA8, zC9, zD1, zC8, zD0, zB9, zC3, zC7, e64b, e21, e92, sim4]
  simp [hx, hx.1, hx.2.1, zA9, zC6, zA6, zC5, zC0, zC4, zB8, zA7, zB7, zA8, zC9, zD1, zC8, zD0, zB9, zC3, zC7, zC2, zA2, zB6, zA5, zB4, zB5, zA4, zB3, zA3, zB2, zC1, zA1, zB1, zA0, zB0, i4]
  have e : x.nm.getD [] = x.names := rfl
  have q : idxP (fun k => hasS (opStr k) x.tx) [1, 2, 3, 4] < 0 ↔ opsOf x.tx = [] := by rw [opsOf_nil]; omega
  have q2 : 0 ≤ idxP (fun k => hasS (opStr k) x.tx) [1, 2, 3, 4] ↔ ¬ opsOf x.tx = [] := by rw [← q]; omega
  simp only [e, zG3, idxN_lt, q, q2]
  subst hr
  unfold nmE
  clear hI hF q q2 i4 e hx
  grind
open Classical in
noncomputable def e71 : Ent := ⟨78, fun | [d_x] => decide (isN d_x) | _ => false, fun | [d_x] => .int .i64 (nmE (toN d_x)) | _ => .inil⟩
open Classical in
theorem ok71 : EntOk Tryz.prog [0] e71 := fun ds h => by
  unfold e71 at h ⊢
  simp only at h ⊢
  split at h
  · rw [decide_eq_true_iff] at h
    obtain ⟨v0, rfl, k0⟩ := h
    simp only [zB2, zA1, zA0, zB9, zC9, zC8]
    exact pc71 _ k0
  · cases h
/-- Has a node as many operands as it must have? -/
noncomputable def arOk (x : Nd) : Bool := by
  classical
  exact decide (if x.k = 8 then (x.args.length : Int) ∈ opsOf x.tx else if x.k = 9 then x.args.length = x.names.length else if x.k = 10 then True else if x.k = 11 then x.args.length = 1 ∧ x.names.length = 1 else if x.k = 12 then x.args.length = 1 else if x.k = 13 then x.args.length = 2 else x.args.length = 0)
theorem pc72 (x : Nd) (hx : okN x) : PureCall Tryz.prog [0] 79 [encN x] (dRet (.int .i64 (if arOk x then 0 else 26))) := by
  generalize hr : (if arOk x then (0 : Int) else 26) = r
  refine zD2 mixed fn72 (Nat.le_of_ble_eq_true rfl) (Nat.lt_of_succ_le (Nat.le_of_ble_eq_true rfl)) (sfOk (.cons ok94 (.cons ok95 .nil))) TbNOk (lv := lv0) fun I F hI hF => ?_
  refine zD7 fun C hC => ?_
  generalize hgen0 : encN x = gen0
  generalize hgen1 : DV.int .i64 r = gen1
  cbv
  subst hgen0
  subst hgen1
  subst hC
  refine ⟨?_⟩
  simp (maxSteps := 3000000) only [hI, hF, std]
  have e : x.nm.getD [] = x.names := rfl
  have e2 : x.ar.getD [] = x.args := rfl
  have h1 := opStr_size x.args.length
  simp only [smp, lookOk, lookRes, sfOf, sgOf, hOk, hRes, hOut, ↓reduceIte, Nat.reduceEqDiff, reduceCtorEq, zC2, zA2, zB6, zA5, zB4, zB5, zA4, zB3, zA3, zB2, zC1, zA1, zB1, zA0, zB0, zA9, zC6, zA6, zC5, zC0, zC4, zB8, zA7, zB7, zA8, zC9, zD1, zC8, zD0, zB9, zC3, zC7, e94, e95, e, e2, List.length_map]
  simp [hx.1, h1]
  have q1 : hasS (opStr x.args.length) x.tx = true ↔ (x.args.length : Int) ∈ opsOf x.tx := has_opsOf _ _
  have q0 : hasS (opStr x.args.length) x.tx = false ↔ ¬ (x.args.length : Int) ∈ opsOf x.tx := by rw [← q1]; simp
  simp only [q0, q1]
  subst hr
  unfold arOk
  simp only [decide_eq_true_eq]
  clear hI hF q0 q1 e e2 h1 hx
  grind
open Classical in
noncomputable def e72 : Ent := ⟨79, fun | [d_x] => decide (isN d_x) | _ => false, fun | [d_x] => .int .i64 (if arOk (toN d_x) then 0 else 26) | _ => .inil⟩
open Classical in
theorem ok72 : EntOk Tryz.prog [0] e72 := fun ds h => by
  unfold e72 at h ⊢
  simp only at h ⊢
  split at h
  · rw [decide_eq_true_iff] at h
    obtain ⟨v0, rfl, k0⟩ := h
    simp only [zB2, zA1, zA0, zB9, zC9, zC8]
    exact pc72 _ k0
  · cases h
theorem pc96 (a : Int) (o : Option (List Nd)) (ho : okT o) (ha : 0 ≤ a ∧ a < (o.getD []).length) : PureCall Tryz.prog [0] 113 [.int .i64 a, .pim [encT o] 0 0] (dRet (.bool (decide (((o.getD []).getD a.toNat default).k = 14)))) := by
  refine zD2 mixed fn96 (Nat.le_of_ble_eq_true rfl) (Nat.lt_of_succ_le (Nat.le_of_ble_eq_true rfl)) (sfOk .nil) TbNOk (lv := lv0) fun I F hI hF => ?_
  refine zD7 fun C hC => ?_
  generalize hgen0 : DV.int .i64 a = gen0
  generalize hgen1 : encT o = gen1
  cbv
  subst hgen0
  subst hgen1
  subst hC
  refine ⟨?_⟩
  simp (maxSteps := 3000000) only [hI, hF, std]
  have hlt : a.toNat < (o.getD []).length := (Int.toNat_lt ha.1).2 ha.2
  have g1 := zF7 _ _ hlt
  simp only [smp, lookOk, lookRes, sfOf, sgOf, hOk, hRes, hOut, ↓reduceIte, Nat.reduceEqDiff, reduceCtorEq, zC2, zA2, zB6, zA5, zB4, zB5, zA4, zB3, zA3, zB2, zC1, zA1, zB1, zA0, zB0, zA9, zC6, zA6, zC5, zC0, zC4, zB8, zA7, zB7, zA8, zC9, zD1, zC8, zD0, zB9, zC3, zC7, g1]
  simp [- List.getD_eq_getElem?_getD, ha, hlt, zA9, zC6, zA6, zC5, zC0, zC4, zB8, zA7, zB7, zA8, zC9, zD1, zC8, zD0, zB9, zC3, zC7, g1]
open Classical in
noncomputable def e96 : Ent := ⟨113, fun | [.int .i64 a, .pim [d_o] 0 0] => decide (isT d_o ∧ 0 ≤ a ∧ a < ((toT d_o).getD []).length) | _ => false, fun | [.int .i64 a, .pim [d_o] 0 0] => .bool (decide ((((toT d_o).getD []).getD a.toNat default).k = 14)) | _ => .inil⟩
open Classical in
theorem ok96 : EntOk Tryz.prog [0] e96 := fun ds h => by
  unfold e96 at h ⊢
  simp only at h ⊢
  split at h
  · rw [decide_eq_true_iff] at h
    obtain ⟨⟨v0, rfl, k0⟩, kx⟩ := h
    simp only [zB2, zA1, zA0, zB9, zC9, zC8] at kx ⊢
    exact pc96 _ _ k0 kx
  · cases h
/-- Operands lead to nodes of the term. -/
def InT (n : Nat) (l : List Int) : Prop := ∀ a ∈ l, 0 ≤ a ∧ a < n
theorem InT.get {n : Nat} {l : List Int} (h : InT n l) {i : Nat} (hi : i < l.length) : 0 ≤ l.getD i 0 ∧ l.getD i 0 < n := by
  refine h _ ?_
  simp [List.getD, hi]
def kAt (l : List Nd) (a : Int) : Int := (l.getD a.toNat default).k
theorem pc111b (o : Option (List Int)) (t : Option (List Nd)) (ho : okIs o) (ht : okT t) (hin : InT (t.getD []).length (o.getD [])) : PureCall Tryz.prog [0] 130 [encIs o, .fn 113 [.pim [encT t] 0 0]] (dRet (.int .i64 (idxP (fun k => decide (kAt (t.getD []) k = 14)) (o.getD [])))) := by
  have hl : (o.getD []).length ≤ 1048576 := ho
  refine zD2 mixed fn111 (Nat.le_of_ble_eq_true rfl) (Nat.lt_of_succ_le (Nat.le_of_ble_eq_true rfl)) (sfOk (.cons ok96 .nil)) TbNOk (lv := lv111) fun I F hI hF => ?_
  refine zD7 fun C hC => ?_
  generalize hgen0 : encIs o = gen0
  generalize hgen1 : encT t = gen1
  cbv
  subst hgen0
  subst hgen1
  subst hC
  refine ⟨?_⟩
  simp (maxSteps := 3000000) only [hI, hF, std]
  simp only [smp, lookOk, lookRes, sfOf, sgOf, hOk, hRes, hOut, ↓reduceIte, Nat.reduceEqDiff, reduceCtorEq, zC2, zA2, zB6, zA5, zB4, zB5, zA4, zB3, zA3, zB2, zC1, zA1, zB1, zA0, zB0, zA9, zC6, zA6, zC5, zC0, zC4, zB8, zA7, zB7, zA8, zC9, zD1, zC8, zD0, zB9, zC3, zC7]
  refine zD8 (kend := fun I => kEndF I TbN [.tmp 4]) hI hF (sfOk (.cons ok96 .nil)) TbNOk (by exact fun Bk e s h => endF TbNOk Bk e s h) (lv := lv111) 0 (fun i : {i : Nat // i ≤ (o.getD []).length ∧ ∀ j, j < i → decide (kAt (t.getD []) ((o.getD []).getD j 0) = 14) = false} => [.d (encIs o), .d (.fn 113 [.pim [encT t] 0 0]), .d (.int .i64 ((o.getD []).length : Int)), .d (.int .i64 (i.1 : Int))]) (fun i : {i : Nat // i ≤ (o.getD []).length ∧ ∀ j, j < i → decide (kAt (t.getD []) ((o.getD []).getD j 0) = 14) = false} => []) (fun i : {i : Nat // i ≤ (o.getD []).length ∧ ∀ j, j < i → decide (kAt (t.getD []) ((o.getD []).getD j 0) = 14) = false} => (o.getD []).length - i.1) [] (⟨0, by omega, fun j h => by omega⟩ : {i : Nat // i ≤ (o.getD []).length ∧ ∀ j, j < i → decide (kAt (t.getD []) ((o.getD []).getD j 0) = 14) = false}) (by rfl) (by rfl) ?_ ?_ fun i => ?_
  · simp
  · rfl
  obtain ⟨i, hi1, hi2⟩ := i
  refine zD7 fun C hC => ?_
  generalize hgen0 : encIs o = gen0
  generalize hgen1 : encT t = gen1
  generalize hgen2 : DV.int .i64 ((o.getD []).length : Int) = gen2
  generalize hgen3 : DV.int .i64 (i : Int) = gen3
  cbv
  subst hgen0
  subst hgen1
  subst hgen2
  subst hgen3
  subst hC
  refine ⟨?_⟩
  simp (maxSteps := 3000000) only [hI, hF, std]
  have w3 := zE0 (n := i) (by omega)
  by_cases hlt : i < (o.getD []).length
  · have g1 := zE9 _ _ hlt
    have k1 := hin.get hlt
    simp only [smp, lookOk, lookRes, sfOf, sgOf, hOk, hRes, hOut, ↓reduceIte, Nat.reduceEqDiff, reduceCtorEq, zC2, zA2, zB6, zA5, zB4, zB5, zA4, zB3, zA3, zB2, zC1, zA1, zB1, zA0, zB0, zA9, zC6, zA6, zC5, zC0, zC4, zB8, zA7, zB7, zA8, zC9, zD1, zC8, zD0, zB9, zC3, zC7, e96, g1]
    simp [hlt, w3, - List.getD_eq_getElem?_getD, ht, zA9, zC6, zA6, zC5, zC0, zC4, zB8, zA7, zB7, zA8, zC9, zD1, zC8, zD0, zB9, zC3, zC7, k1]
    refine ⟨fun h => (idxP_some hlt (by simpa [kAt] using h) hi2).symm, fun h => ⟨i + 1, by omega, ⟨by omega, fun j hj => ?_⟩, by simp⟩⟩
    by_cases hji : j = i
    · subst hji; simpa [kAt] using h
    · have := hi2 j (by omega); simpa using this
  · simp only [smp, lookOk, lookRes, sfOf, sgOf, hOk, hRes, hOut, ↓reduceIte, Nat.reduceEqDiff, reduceCtorEq, zC2, zA2, zB6, zA5, zB4, zB5, zA4, zB3, zA3, zB2, zC1, zA1, zB1, zA0, zB0, zA9, zC6, zA6, zC5, zC0, zC4, zB8, zA7, zB7, zA8, zC9, zD1, zC8, zD0, zB9, zC3, zC7, e96]
    simp [hlt, - List.getD_eq_getElem?_getD]
    exact (idxP_none fun j hj => hi2 j (by omega)).symm
open Classical in
noncomputable def e111b : Ent := ⟨130, fun | [d_o, .fn 113 [.pim [d_t] 0 0]] => decide (isIs d_o ∧ isT d_t ∧ InT ((toT d_t).getD []).length ((toIs d_o).getD [])) | _ => false, fun | [d_o, .fn 113 [.pim [d_t] 0 0]] => .int .i64 (idxP (fun k => decide (kAt ((toT d_t).getD []) k = 14)) ((toIs d_o).getD [])) | _ => .inil⟩
open Classical in
theorem ok111b : EntOk Tryz.prog [0] e111b := fun ds h => by
  unfold e111b at h ⊢
  simp only at h ⊢
  split at h
  · rw [decide_eq_true_iff] at h
    obtain ⟨⟨v0, rfl, k0⟩, ⟨v1, rfl, k1⟩, kx⟩ := h
    simp only [zB2, zA1, zA0, zB9, zC9, zC8] at kx ⊢
    exact pc111b _ _ k0 k1 kx
  · cases h
theorem pc92b (o : Option (List Int)) (t : Option (List Nd)) (ho : okIs o) (ht : okT t) (hin : InT (t.getD []).length (o.getD [])) : PureCall Tryz.prog [0] 108 [encIs o, .fn 113 [.pim [encT t] 0 0]] (dRet (.bool (decide (0 ≤ idxP (fun k => decide (kAt (t.getD []) k = 14)) (o.getD []))))) := by
  refine zD2 mixed fn92 (Nat.le_of_ble_eq_true rfl) (Nat.lt_of_succ_le (Nat.le_of_ble_eq_true rfl)) (sfOk (.cons ok111b .nil)) TbNOk (lv := lv0) fun I F hI hF => ?_
  refine zD7 fun C hC => ?_
  generalize hgen0 : encIs o = gen0
  generalize hgen1 : encT t = gen1
  cbv
  subst hgen0
  subst hgen1
  subst hC
  refine ⟨?_⟩
  simp (maxSteps := 3000000) only [hI, hF, std]
  simp only [smp, lookOk, lookRes, sfOf, sgOf, hOk, hRes, hOut, ↓reduceIte, Nat.reduceEqDiff, reduceCtorEq, zC2, zA2, zB6, zA5, zB4, zB5, zA4, zB3, zA3, zB2, zC1, zA1, zB1, zA0, zB0, zA9, zC6, zA6, zC5, zC0, zC4, zB8, zA7, zB7, zA8, zC9, zD1, zC8, zD0, zB9, zC3, zC7, e111b]
  simp [ho, ht, zA9, zC6, zA6, zC5, zC0, zC4, zB8, zA7, zB7, zA8, zC9, zD1, zC8, zD0, zB9, zC3, zC7, hin]
open Classical in
noncomputable def e92b : Ent := ⟨108, fun | [d_o, .fn 113 [.pim [d_t] 0 0]] => decide (isIs d_o ∧ isT d_t ∧ InT ((toT d_t).getD []).length ((toIs d_o).getD [])) | _ => false, fun | [d_o, .fn 113 [.pim [d_t] 0 0]] => .bool (decide (0 ≤ idxP (fun k => decide (kAt ((toT d_t).getD []) k = 14)) ((toIs d_o).getD []))) | _ => .inil⟩
open Classical in
theorem ok92b : EntOk Tryz.prog [0] e92b := fun ds h => by
  unfold e92b at h ⊢
  simp only at h ⊢
  split at h
  · rw [decide_eq_true_iff] at h
    obtain ⟨⟨v0, rfl, k0⟩, ⟨v1, rfl, k1⟩, kx⟩ := h
    simp only [zB2, zA1, zA0, zB9, zC9, zC8] at kx ⊢
    exact pc92b _ _ k0 k1 kx
  · cases h
/-- The error of what a node has that is not its kind's. -/
noncomputable def frmE (l : List Nd) (i : Nat) : Int := by
  classical
  exact
  if (¬ ((l.getD i default).k = 0 ∨ (l.getD i default).k = 1 ∨ (l.getD i default).k = 6) ∧ (l.getD i default).n ≠ 0) ∨
    (¬ ((l.getD i default).k = 2 ∨ (l.getD i default).k = 3 ∨ (l.getD i default).k = 4 ∨ (l.getD i default).k = 5 ∨ (l.getD i default).k = 7 ∨ (l.getD i default).k = 12 ∨ (l.getD i default).k = 8) ∧ (l.getD i default).tx ≠ ⟨#[]⟩) ∨
    (¬ ((l.getD i default).k = 9 ∨ (l.getD i default).k = 11) ∧ (l.getD i default).names ≠ []) then 5
  else if (l.getD i default).k ≠ 9 ∧ (∃ a ∈ (l.getD i default).args, kAt l a = 14) then 5
  else if i + 1 = l.length ∧ (l.getD i default).k = 14 then 5
  else if asksS (l.getD i default) = true ∧ kAt l ((l.getD i default).args.getD 0 0) ≠ 12 then 5 else 0
theorem pc73 (o : Option (List Nd)) (i : Nat) (ho : okT o) (hi : i < (o.getD []).length) (hin : InT (o.getD []).length ((o.getD []).getD i default).args) (hask : asksS ((o.getD []).getD i default) = true → ((o.getD []).getD i default).args ≠ []) :
    PureCall Tryz.prog [0] 81 [encT o, .int .i64 (i : Int)] (dRet (.int .i64 (frmE (o.getD []) i))) := by
  generalize hr : frmE (o.getD []) i = r
  have hl := ho.1
  have hx := zH5 ho hi
  have hg := zF7 _ _ hi
  refine zD2 mixed fn73 (Nat.le_of_ble_eq_true rfl) (Nat.lt_of_succ_le (Nat.le_of_ble_eq_true rfl)) (sfOk (.cons ok92b (.cons ok96 (.cons ok97 .nil)))) TbNOk (lv := lv0) fun I F hI hF => ?_
  refine zD7 fun C hC => ?_
  generalize hgen0 : encT o = gen0
  generalize hgen1 : DV.int .i64 (i : Int) = gen1
  generalize hgen2 : DV.int .i64 r = gen2
  cbv
  subst hgen0
  subst hgen1
  subst hgen2
  subst hC
  refine ⟨?_⟩
  simp (maxSteps := 3000000) only [hI, hF, std]
  have w1 : IntKind.i64.wrap (((o.getD []).length : Int) - 1) = ((o.getD []).length : Int) - 1 := wrap64 (by omega) (by omega)
  have e : ((o.getD []).getD i default).ar.getD [] = ((o.getD []).getD i default).args := rfl
  have e2 : ((o.getD []).getD i default).nm.getD [] = ((o.getD []).getD i default).names := rfl
  have q1 : 0 ≤ idxP (fun k => decide (kAt (o.getD []) k = 14)) ((o.getD []).getD i default).args ↔ ∃ a ∈ ((o.getD []).getD i default).args, kAt (o.getD []) a = 14 := by rw [idxP_iff]; simp
  have q0 : idxP (fun k => decide (kAt (o.getD []) k = 14)) ((o.getD []).getD i default).args < 0 ↔ ¬ ∃ a ∈ ((o.getD []).getD i default).args, kAt (o.getD []) a = 14 := by rw [← q1]; omega
  have ln : 0 < ((o.getD []).getD i default).names.length ↔ ¬ ((o.getD []).getD i default).names = [] := List.length_pos_iff
  have hik : ((i : Int) = ((o.getD []).length : Int) - 1) ↔ i + 1 = (o.getD []).length := by omega
  have ek : ∀ a : Int, ((o.getD []).getD a.toNat default).k = kAt (o.getD []) a := fun a => rfl
  have eb : (⟨⟨[]⟩⟩ : ByteArray) = ⟨#[]⟩ := rfl
  rcases Bool.eq_false_or_eq_true (asksS ((o.getD []).getD i default)) with hA | hA
  · have hp : 0 < ((o.getD []).getD i default).args.length := List.length_pos_iff.2 (hask hA)
    have g0 := zE9 _ _ hp
    have k0 := hin.get hp
    have hlt0 : (((o.getD []).getD i default).args.getD 0 0).toNat < (o.getD []).length := (Int.toNat_lt k0.1).2 k0.2
    have g1 := zF7 _ _ hlt0
    simp only [smp, lookOk, lookRes, sfOf, sgOf, hOk, hRes, hOut, ↓reduceIte, Nat.reduceEqDiff, reduceCtorEq, zC2, zA2, zB6, zA5, zB4, zB5, zA4, zB3, zA3, zB2, zC1, zA1, zB1, zA0, zB0, zA9, zC6, zA6, zC5, zC0, zC4, zB8, zA7, zB7, zA8, zC9, zD1, zC8, zD0, zB9, zC3, zC7, hg, e92b, e96, e97, e, e2, g0, g1, w1]
    simp [- List.getD_eq_getElem?_getD, hi, hx, ho, hx.2.2, zA9, zC6, zA6, zC5, zC0, zC4, zB8, zA7, zB7, zA8, zC9, zD1, zC8, zD0, zB9, zC3, zC7, hin, hA, hp, k0, hlt0, g0, g1, e, e2, w1]
    simp only [q0, q1, ln, hik, ek, eb]
    subst hr
    unfold frmE
    simp only [hA]
    clear q0 q1 g0 g1 hlt0 k0 hg hx hin hl ho hI hF w1 e e2 ek eb hask hik ln
    generalize ((o.getD []).getD i default).k = gk
    generalize ((o.getD []).getD i default).n = gn
    generalize ((o.getD []).getD i default).tx = gt
    generalize ((o.getD []).getD i default).names = gm
    generalize kAt (o.getD []) (((o.getD []).getD i default).args.getD 0 0) = ga
    clear hi
    rcases Classical.em (∃ a, a ∈ ((o.getD []).getD i default).args ∧ kAt (o.getD []) a = 14) with hP | hP <;> rcases Classical.em (i + 1 = (o.getD []).length) with hQ | hQ <;> simp only [hP, hQ, not_true_eq_false, not_false_eq_true, true_and, false_and, and_true, and_false, true_implies, false_implies, if_false, implies_true] <;> clear hP hQ
    all_goals by_cases c1 : ¬gk = 0 ∧ ¬gk = 1 ∧ ¬gk = 6 ∧ ¬gn = 0
    all_goals try (simp [c1]; done)
    all_goals by_cases c2 : ¬gk = 2 ∧ ¬gk = 3 ∧ ¬gk = 4 ∧ ¬gk = 5 ∧ ¬gk = 7 ∧ ¬gk = 12 ∧ ¬gk = 8 ∧ ¬gt = ⟨#[]⟩
    all_goals try (grind; done)
  · simp only [smp, lookOk, lookRes, sfOf, sgOf, hOk, hRes, hOut, ↓reduceIte, Nat.reduceEqDiff, reduceCtorEq, zC2, zA2, zB6, zA5, zB4, zB5, zA4, zB3, zA3, zB2, zC1, zA1, zB1, zA0, zB0, zA9, zC6, zA6, zC5, zC0, zC4, zB8, zA7, zB7, zA8, zC9, zD1, zC8, zD0, zB9, zC3, zC7, hg, e92b, e96, e97, e, e2, w1]
    simp [- List.getD_eq_getElem?_getD, hi, hx, ho, hx.2.2, zA9, zC6, zA6, zC5, zC0, zC4, zB8, zA7, zB7, zA8, zC9, zD1, zC8, zD0, zB9, zC3, zC7, hin, hA, e, e2, w1]
    simp only [q0, q1, ln, hik, ek, eb]
    subst hr
    unfold frmE
    simp only [hA]
    clear q0 q1 hg hx hin hl ho hI hF w1 e e2 ek eb hask hik ln
    generalize ((o.getD []).getD i default).k = gk
    generalize ((o.getD []).getD i default).n = gn
    generalize ((o.getD []).getD i default).tx = gt
    generalize ((o.getD []).getD i default).names = gm
    generalize kAt (o.getD []) (((o.getD []).getD i default).args.getD 0 0) = ga
    clear hi
    rcases Classical.em (∃ a, a ∈ ((o.getD []).getD i default).args ∧ kAt (o.getD []) a = 14) with hP | hP <;> rcases Classical.em (i + 1 = (o.getD []).length) with hQ | hQ <;> simp only [hP, hQ, not_true_eq_false, not_false_eq_true, true_and, false_and, and_true, and_false, true_implies, false_implies, if_false, implies_true] <;> clear hP hQ
    all_goals by_cases c1 : ¬gk = 0 ∧ ¬gk = 1 ∧ ¬gk = 6 ∧ ¬gn = 0
    all_goals try (simp [c1]; done)
    all_goals by_cases c2 : ¬gk = 2 ∧ ¬gk = 3 ∧ ¬gk = 4 ∧ ¬gk = 5 ∧ ¬gk = 7 ∧ ¬gk = 12 ∧ ¬gk = 8 ∧ ¬gt = ⟨#[]⟩
    all_goals try (grind; done)
end Go.Proofs.Sx

set_option linter.unusedVariables false
set_option linter.unusedSimpArgs false
set_option maxRecDepth 100000
namespace Go.Proofs.Sx
open Go Go.Proofs Go.Proofs.Am 
variable {gs : List Nat}

/-- What is known of a node before its form is asked. -/
def FrmP (l : List Nd) (i : Int) : Prop := (0 ≤ i ∧ i < l.length) ∧ InT l.length (l.getD i.toNat default).args ∧ (asksS (l.getD i.toNat default) = true → (l.getD i.toNat default).args ≠ [])
theorem pc73' (o : Option (List Nd)) (i : Int) (ho : okT o) (h : FrmP (o.getD []) i) : PureCall Tryz.prog [0] 81 [encT o, .int .i64 i] (dRet (.int .i64 (frmE (o.getD []) i.toNat))) := by
  obtain ⟨⟨h1, h2⟩, h3, h4⟩ := h
  obtain ⟨n, rfl⟩ := Int.eq_ofNat_of_zero_le h1
  have := pc73 o n ho (by omega) h3 h4
  simpa using this
open Classical in
noncomputable def e73' : Ent := ⟨81, fun | [d_o, .int .i64 i] => decide (isT d_o ∧ FrmP ((toT d_o).getD []) i) | _ => false, fun | [d_o, .int .i64 i] => .int .i64 (frmE ((toT d_o).getD []) i.toNat) | _ => .inil⟩
open Classical in
theorem ok73' : EntOk Tryz.prog [0] e73' := fun ds h => by
  unfold e73' at h ⊢
  simp only at h ⊢
  split at h
  · rw [decide_eq_true_iff] at h
    obtain ⟨⟨v0, rfl, k0⟩, kx⟩ := h
    simp only [zB2, zA1, zA0, zB9, zC9, zC8] at kx ⊢
    exact pc73' _ _ k0 kx
  · cases h
theorem opsOf_isp : opsOf wIsp = [1] := by
  have : wIsp ∈ opsU := by simp [opsU, wIsp]
  unfold opsOf; rw [if_pos this]
theorem opsOf_isc : opsOf wIsc = [1] := by
  have : wIsc ∈ opsU := by simp [opsU, wIsc]
  unfold opsOf; rw [if_pos this]
theorem asks_args {x : Nd} (h : asksS x = true) (ha : arOk x = true) : x.args.length = 1 := by
  simp only [asksS, Bool.and_eq_true, Bool.or_eq_true, decide_eq_true_eq] at h
  unfold arOk at ha
  simp only [decide_eq_true_eq] at ha
  rw [if_pos h.1] at ha
  rcases h.2 with h2 | h2
  · rw [h2, opsOf_isp] at ha; simp at ha; omega
  · rw [h2, opsOf_isc] at ha; simp at ha; omega
theorem litV_ok {x : Nd} (h : okN x) : (litV x).ok := by
  have h1 := h.1
  have z : (0 : Nat) ≤ 1048576 := by omega
  unfold litV zeroV
  repeat (first | (rw [V.ok, okO]; exact ⟨by first | exact h1 | exact z, z, by simp, trivial⟩) | split)
open Classical in
/-- The error of a node whose names and operands are as many as they must be. -/
noncomputable def nodeE2 (l : List Nd) (i : Nat) : Int :=
  if DoubleP (l.getD i default).names then 13
  else if frmE l i ≠ 0 then frmE l i
  else if (l.getD i default).k ≤ 6 then valE (litV (l.getD i default))
  else if ((l.getD i default).k = 9 ∧ 16 < (l.getD i default).names.length) ∨ ((l.getD i default).k = 10 ∧ 40 < (l.getD i default).args.length) then 2 else 0
/-- The error of a node. -/
noncomputable def nodeE (l : List Nd) (i : Nat) : Int :=
  if ¬ (0 ≤ (l.getD i default).k ∧ (l.getD i default).k ≤ 14) then 4
  else if nmE (l.getD i default) ≠ 0 then nmE (l.getD i default)
  else if arOk (l.getD i default) = false then 26
  else nodeE2 l i
def lv51 : Nat → List Nat × List Nat
  | 11 => ([0, 1, 5, 36, 37, 38], [0])
  | _ => ([], [])
set_option maxHeartbeats 2000000 in
theorem pc51 (o : Option (List Nd)) (p : Nat) (ho : okT o) (hi : p < (o.getD []).length) (hin : InT (o.getD []).length ((o.getD []).getD p default).args) :
    PureCall Tryz.prog [0] 45 [encT o, .int .i64 (p : Int)] (dRet (.int .i64 (nodeE (o.getD []) p))) := by
  generalize hr : nodeE (o.getD []) p = r
  have hl := ho.1
  have hx := zH5 ho hi
  have hg := zF7 _ _ hi
  have e : ((o.getD []).getD p default).ar.getD [] = ((o.getD []).getD p default).args := rfl
  have e2 : ((o.getD []).getD p default).nm.getD [] = ((o.getD []).getD p default).names := rfl
  refine zD2 mixed fn51 (Nat.le_of_ble_eq_true rfl) (Nat.lt_of_succ_le (Nat.le_of_ble_eq_true rfl)) (sfOk (.cons ok71 (.cons ok72 (.cons ok66 (.cons ok73' (.cons ok74 (.cons ok10 .nil))))))) TbOk (lv := lv51) fun I F hI hF => ?_
  refine zD7 fun C hC => ?_
  generalize hgen0 : encT o = gen0
  generalize hgen1 : DV.int .i64 (p : Int) = gen1
  generalize hgen2 : DV.int .i64 r = gen2
  cbv
  subst hgen0
  subst hgen1
  subst hgen2
  subst hC
  refine ⟨?_⟩
  simp (maxSteps := 3000000) only [hI, hF, std]
  simp only [smp, lookOk, lookRes, sfOf, sgOf, hOk, hRes, hOut, ↓reduceIte, Nat.reduceEqDiff, reduceCtorEq, zC2, zA2, zB6, zA5, zB4, zB5, zA4, zB3, zA3, zB2, zC1, zA1, zB1, zA0, zB0, zA9, zC6, zA6, zC5, zC0, zC4, zB8, zA7, zB7, zA8, zC9, zD1, zC8, zD0, zB9, zC3, zC7, hg, e71, e72]
  simp [- List.getD_eq_getElem?_getD, hi, hx, zA9, zC6, zA6, zC5, zC0, zC4, zB8, zA7, zB7, zA8, zC9, zD1, zC8, zD0, zB9, zC3, zC7, e, e2]
  unfold nodeE at hr
  refine ⟨fun h => ?_, fun k1 k2 => ⟨fun h => ?_, fun h1 => ⟨fun h2 => ?_, fun h2 => ?_⟩⟩⟩
  · rw [← hr, if_pos (by omega)]
  · rw [← hr, if_neg (by omega), if_pos h]
  · rw [h2]
    show (26 : Int) = r
    rw [← hr, if_neg (fun h => h ⟨k1, k2⟩), if_neg (fun h => h h1), if_pos h2]
  rw [if_neg (by omega), if_neg (fun h => h h1), if_neg (by rw [h2]; exact fun h => nomatch h)] at hr
  have hN : ((o.getD []).getD p default).names.length ≤ 1048576 := hx.2.1.1
  have hA : ((o.getD []).getD p default).args.length ≤ 1048576 := hx.2.2
  have hfrm : FrmP (o.getD []) (p : Int) := ⟨⟨by omega, by omega⟩, by rw [Int.toNat_natCast]; exact hin, by
    rw [Int.toNat_natCast]
    intro ha hn
    have := asks_args ha h2
    rw [hn] at this; simp at this⟩
  refine zD8 (kend := fun I => kEndF I Tb [.tmp 4]) hI hF (sfOk (.cons ok71 (.cons ok72 (.cons ok66 (.cons ok73' (.cons ok74 (.cons ok10 .nil))))))) TbOk (by exact fun Bk e s h => endF TbOk Bk e s h) (lv := lv51) 0 (fun i : {i : Nat // i ≤ ((o.getD []).getD p default).names.length ∧ ∀ a b, a < i → b < a → ((o.getD []).getD p default).names.getD b ⟨#[]⟩ ≠ ((o.getD []).getD p default).names.getD a ⟨#[]⟩} => [.d (encT o), .d (.int .i64 (p : Int)), .loc 0 5 0 0, .d (encS ((o.getD []).getD p default).nm), .d (.int .i64 (((o.getD []).getD p default).names.length : Int)), .d (.int .i64 (i.1 : Int))]) (fun i : {i : Nat // i ≤ ((o.getD []).getD p default).names.length ∧ ∀ a b, a < i → b < a → ((o.getD []).getD p default).names.getD b ⟨#[]⟩ ≠ ((o.getD []).getD p default).names.getD a ⟨#[]⟩} => [(0, some ⟨[.d (encN ((o.getD []).getD p default))], 5, 67, true, true⟩)]) (fun i : {i : Nat // i ≤ ((o.getD []).getD p default).names.length ∧ ∀ a b, a < i → b < a → ((o.getD []).getD p default).names.getD b ⟨#[]⟩ ≠ ((o.getD []).getD p default).names.getD a ⟨#[]⟩} => ((o.getD []).getD p default).names.length - i.1) [0] (⟨0, by omega, fun a b h => by omega⟩ : {i : Nat // i ≤ ((o.getD []).getD p default).names.length ∧ ∀ a b, a < i → b < a → ((o.getD []).getD p default).names.getD b ⟨#[]⟩ ≠ ((o.getD []).getD p default).names.getD a ⟨#[]⟩}) (by rfl) (by rfl) ?_ ?_ fun i => ?_
  · simp
  · rfl
  obtain ⟨i, hj1, hj2⟩ := i
  refine zD7 fun C hC => ?_
  generalize hgen0 : encT o = gen0
  generalize hgen1 : DV.int .i64 (p : Int) = gen1
  generalize hgen2 : encS ((o.getD []).getD p default).nm = gen2
  generalize hgen3 : encN ((o.getD []).getD p default) = gen3
  generalize hgen4 : DV.int .i64 (((o.getD []).getD p default).names.length : Int) = gen4
  generalize hgen5 : DV.int .i64 (i : Int) = gen5
  generalize hgen6 : DV.int .i64 r = gen6
  cbv
  subst hgen0
  subst hgen1
  subst hgen2
  subst hgen3
  subst hgen4
  subst hgen5
  subst hgen6
  subst hC
  refine ⟨?_⟩
  simp (maxSteps := 3000000) only [hI, hF, std]
  have w3 := zE0 (n := i) (by omega)
  have hok : okS0 ((o.getD []).getD p default).nm := hx.2.1
  by_cases hlt : i < ((o.getD []).getD p default).names.length
  · have g1 := zH6 _ _ hlt
    simp only [smp, lookOk, lookRes, sfOf, sgOf, hOk, hRes, hOut, ↓reduceIte, Nat.reduceEqDiff, reduceCtorEq, zC2, zA2, zB6, zA5, zB4, zB5, zA4, zB3, zA3, zB2, zC1, zA1, zB1, zA0, zB0, zA9, zC6, zA6, zC5, zC0, zC4, zB8, zA7, zB7, zA8, zC9, zD1, zC8, zD0, zB9, zC3, zC7, e71, e72, e66, e73', e74, e10, slD_encS, e2, g1, cells_one, intO_none, intO_int, loN_none, hiN_int]
    have hh := idxS_take (s := ((o.getD []).getD p default).names.getD i ⟨#[]⟩) (i := i) (Nat.le_of_lt hlt)
    simp [hlt, w3, - List.getD_eq_getElem?_getD, hok, zC2, zA2, zB6, zA5, zB4, zB5, zA4, zB3, zA3, zB2, zC1, zA1, zB1, zA0, zB0, okS0_take hok, getD_take, e2]
    refine ⟨⟨fun x _ => rfl, by omega⟩, fun h => ?_, fun h => ⟨i + 1, by omega, ⟨by omega, fun a b ha hb => ?_⟩, by simp⟩⟩
    · obtain ⟨j, a, b⟩ := hh.1 h
      rw [← hr]; unfold nodeE2
      rw [if_pos ⟨i, j, a, hlt, b⟩]
    · by_cases hai : a = i
      · subst hai
        intro he
        have := hh.2 ⟨b, hb, he⟩
        clear w3; omega
      · exact hj2 a b (by clear w3; omega) hb
  · simp only [smp, lookOk, lookRes, sfOf, sgOf, hOk, hRes, hOut, ↓reduceIte, Nat.reduceEqDiff, reduceCtorEq, zC2, zA2, zB6, zA5, zB4, zB5, zA4, zB3, zA3, zB2, zC1, zA1, zB1, zA0, zB0, zA9, zC6, zA6, zC5, zC0, zC4, zB8, zA7, zB7, zA8, zC9, zD1, zC8, zD0, zB9, zC3, zC7, e71, e72, e66, e73', e74, e10]
    simp [hlt, - List.getD_eq_getElem?_getD, zC2, zA2, zB6, zA5, zB4, zB5, zA4, zB3, zA3, zB2, zC1, zA1, zB1, zA0, zB0, zA9, zC6, zA6, zC5, zC0, zC4, zB8, zA7, zB7, zA8, zC9, zD1, zC8, zD0, zB9, zC3, zC7, ho, hfrm, litV_ok hx, e, e2, hx, zF5, zG0, zG9, zF1, zG8, zA3, zA2, k1, k2, List.getD_cons_zero, List.getD_cons_succ]
    have hdbl : ¬ DoubleP ((o.getD []).getD p default).names := fun ⟨a, b, h1, h2, h3⟩ => hj2 a b (by omega) h1 h3
    unfold nodeE2 at hr
    rw [if_neg hdbl] at hr
    refine ⟨fun h => ?_, fun h => ⟨⟨rfl, rfl, rfl, rfl⟩, rfl, fun h3 => ?_, fun h3 => ⟨fun h4 => ?_, fun h4 h5 => ?_⟩⟩⟩
    · rw [← hr, if_pos h]
    · rw [← hr, if_neg (fun hh => hh h), if_pos h3]
    · rw [← hr, if_neg (fun hh => hh h), if_neg (by omega), if_pos (by omega)]
    · rw [← hr, if_neg (fun hh => hh h), if_neg (by omega), if_neg (by omega)]
theorem pc51' (o : Option (List Nd)) (i : Int) (ho : okT o) (h : (0 ≤ i ∧ i < (o.getD []).length) ∧ InT (o.getD []).length ((o.getD []).getD i.toNat default).args) : PureCall Tryz.prog [0] 45 [encT o, .int .i64 i] (dRet (.int .i64 (nodeE (o.getD []) i.toNat))) := by
  obtain ⟨⟨h1, h2⟩, h3⟩ := h
  obtain ⟨n, rfl⟩ := Int.eq_ofNat_of_zero_le h1
  have := pc51 o n ho (by omega) h3
  simpa using this
open Classical in
noncomputable def e51' : Ent := ⟨45, fun | [d_o, .int .i64 i] => decide (isT d_o ∧ (0 ≤ i ∧ i < ((toT d_o).getD []).length) ∧ InT ((toT d_o).getD []).length (((toT d_o).getD []).getD i.toNat default).args) | _ => false, fun | [d_o, .int .i64 i] => .int .i64 (nodeE ((toT d_o).getD []) i.toNat) | _ => .inil⟩
open Classical in
theorem ok51' : EntOk Tryz.prog [0] e51' := fun ds h => by
  unfold e51' at h ⊢
  simp only at h ⊢
  split at h
  · rw [decide_eq_true_iff] at h
    obtain ⟨⟨v0, rfl, k0⟩, kx⟩ := h
    simp only [zB2, zA1, zA0, zB9, zC9, zC8] at kx ⊢
    exact pc51' _ _ k0 kx
  · cases h
def lv33 : Nat → List Nat × List Nat
  | 4 => ([0, 10, 11], [])
  | _ => ([], [])
open Classical in
/-- The first node with an error, and the error. -/
noncomputable def chkF (l : List Nd) : Nat → Nat → Int × Int
  | 0, _ => (0, 0)
  | m + 1, i => if nodeE l i ≠ 0 then ((i : Int), nodeE l i) else chkF l m (i + 1)
noncomputable def checkE (l : List Nd) : Int × Int := if isTermS l = true then chkF l l.length 0 else (0, 6)
/-- The operands of the nodes of a term come before them. -/
def Low (rs : List Int) (i : Nat) : Prop := ∀ x ∈ rs, 0 ≤ x ∧ x < i
theorem rootsF_low : ∀ (l : List Nd) (i : Nat) (r q : List Int), Low r i → rootsF l i r = some q → ∀ j, j < l.length → Low (l.getD j default).args (i + j)
  | [], i, r, q, h, hq, j, hj => by simp at hj
  | x :: l, i, r, q, h, hq, j, hj => by
    simp only [rootsF] at hq
    split at hq
    · rename_i r' hr'
      unfold stepR at hr'
      split at hr'
      · rename_i hc
        cases hr'
        have hlow : Low (r.take (r.length - x.args.length) ++ [(i : Int)]) (i + 1) := by
          intro y hy
          rcases List.mem_append.1 hy with hy | hy
          · have := h y (List.mem_of_mem_take hy); omega
          · rw [List.mem_singleton] at hy; omega
        cases j with
        | zero =>
          intro y hy
          have hy : y ∈ x.args := by simpa using hy
          rw [hc.2] at hy
          have := h y (List.mem_of_mem_drop hy)
          omega
        | succ j =>
          have := rootsF_low l (i + 1) _ q hlow hq j (by simpa using hj)
          intro y hy
          have := this y (by simpa using hy)
          omega
      · cases hr'
    · cases hq
theorem isTerm_low {l : List Nd} (h : isTermS l = true) : ∀ j, j < l.length → InT l.length (l.getD j default).args := by
  intro j hj
  unfold isTermS at h
  rw [Bool.and_eq_true] at h
  have h2 := h.2
  split at h2
  · rename_i q hq
    have := rootsF_low l 0 [] q (fun x hx => by cases hx) hq j hj
    intro x hx
    have := this x hx
    omega
  · cases h2
set_option maxHeartbeats 2000000 in
theorem pc33 (o : Option (List Nd)) (ho : okT o) : PureCall Tryz.prog [0] 22 [encT o] (dRet (.tup [.int .i64 (checkE (o.getD [])).1, .int .i64 (checkE (o.getD [])).2])) := by
  have hl := ho.1
  generalize hr : checkE (o.getD []) = r
  refine zD2 mixed fn33 (Nat.le_of_ble_eq_true rfl) (Nat.lt_of_succ_le (Nat.le_of_ble_eq_true rfl)) (sfOk (.cons ok50 (.cons ok51' .nil))) TbOk (lv := lv33) fun I F hI hF => ?_
  refine zD7 fun C hC => ?_
  generalize hgen0 : encT o = gen0
  generalize hgen1 : DV.int .i64 r.1 = gen1
  generalize hgen2 : DV.int .i64 r.2 = gen2
  cbv
  subst hgen0
  subst hgen1
  subst hgen2
  subst hC
  refine ⟨?_⟩
  simp (maxSteps := 3000000) only [hI, hF, std]
  unfold checkE at hr
  simp only [smp, lookOk, lookRes, sfOf, sgOf, hOk, hRes, hOut, ↓reduceIte, Nat.reduceEqDiff, reduceCtorEq, zC2, zA2, zB6, zA5, zB4, zB5, zA4, zB3, zA3, zB2, zC1, zA1, zB1, zA0, zB0, zA9, zC6, zA6, zC5, zC0, zC4, zB8, zA7, zB7, zA8, zC9, zD1, zC8, zD0, zB9, zC3, zC7, e50]
  simp [ho, zA9, zC6, zA6, zC5, zC0, zC4, zB8, zA7, zB7, zA8, zC9, zD1, zC8, zD0, zB9, zC3, zC7]
  refine ⟨fun h => ?_, fun h => ?_⟩
  · rw [← hr, if_neg (by rw [h]; simp)]; exact ⟨rfl, rfl⟩
  rw [if_pos h] at hr
  refine zD8 (kend := fun I => kEndF I Tb [.tmp 2, .tmp 3]) hI hF (sfOk (.cons ok50 (.cons ok51' .nil))) TbOk (by exact fun Bk e s h => endF TbOk Bk e s h) (lv := lv33) 0 (fun i : {i : Nat // i ≤ (o.getD []).length ∧ chkF (o.getD []) ((o.getD []).length - i) i = r} => [.d (encT o), .d (.int .i64 ((o.getD []).length : Int)), .d (.int .i64 (i.1 : Int))]) (fun i : {i : Nat // i ≤ (o.getD []).length ∧ chkF (o.getD []) ((o.getD []).length - i) i = r} => []) (fun i : {i : Nat // i ≤ (o.getD []).length ∧ chkF (o.getD []) ((o.getD []).length - i) i = r} => (o.getD []).length - i.1) [] (⟨0, by omega, hr⟩ : {i : Nat // i ≤ (o.getD []).length ∧ chkF (o.getD []) ((o.getD []).length - i) i = r}) (by rfl) (by rfl) ?_ ?_ fun i => ?_
  · simp
  · rfl
  obtain ⟨i, hi1, hi2⟩ := i
  refine zD7 fun C hC => ?_
  generalize hgen0 : encT o = gen0
  generalize hgen1 : DV.int .i64 ((o.getD []).length : Int) = gen1
  generalize hgen2 : DV.int .i64 (i : Int) = gen2
  generalize hgen3 : DV.int .i64 r.1 = gen3
  generalize hgen4 : DV.int .i64 r.2 = gen4
  cbv
  subst hgen0
  subst hgen1
  subst hgen2
  subst hgen3
  subst hgen4
  subst hC
  refine ⟨?_⟩
  simp (maxSteps := 3000000) only [hI, hF, std]
  have w3 := zE0 (n := i) (by omega)
  by_cases hlt : i < (o.getD []).length
  · have hlow := isTerm_low h i hlt
    simp only [smp, lookOk, lookRes, sfOf, sgOf, hOk, hRes, hOut, ↓reduceIte, Nat.reduceEqDiff, reduceCtorEq, zC2, zA2, zB6, zA5, zB4, zB5, zA4, zB3, zA3, zB2, zC1, zA1, zB1, zA0, zB0, zA9, zC6, zA6, zC5, zC0, zC4, zB8, zA7, zB7, zA8, zC9, zD1, zC8, zD0, zB9, zC3, zC7, e50, e51']
    simp [hlt, w3, - List.getD_eq_getElem?_getD, zA9, zC6, zA6, zC5, zC0, zC4, zB8, zA7, zB7, zA8, zC9, zD1, zC8, zD0, zB9, zC3, zC7, ho, hlow]
    rw [show (o.getD []).length - i = ((o.getD []).length - (i + 1)) + 1 from by omega, chkF] at hi2
    refine ⟨fun h => ?_, fun h => ⟨i + 1, by omega, ⟨by omega, ?_⟩, by omega⟩⟩
    · rw [if_pos h] at hi2; rw [← hi2]; exact ⟨rfl, rfl⟩
    · rw [if_neg (fun hh => hh h)] at hi2; exact hi2
  · simp only [smp, lookOk, lookRes, sfOf, sgOf, hOk, hRes, hOut, ↓reduceIte, Nat.reduceEqDiff, reduceCtorEq, zC2, zA2, zB6, zA5, zB4, zB5, zA4, zB3, zA3, zB2, zC1, zA1, zB1, zA0, zB0, zA9, zC6, zA6, zC5, zC0, zC4, zB8, zA7, zB7, zA8, zC9, zD1, zC8, zD0, zB9, zC3, zC7, e50, e51']
    simp [hlt, - List.getD_eq_getElem?_getD]
    rw [show (o.getD []).length - i = 0 from by omega, chkF] at hi2
    rw [← hi2]; exact ⟨rfl, rfl⟩
open Classical in
noncomputable def e33 : Ent := ⟨22, fun | [d_o] => decide (isT d_o) | _ => false, fun | [d_o] => .tup [.int .i64 (checkE ((toT d_o).getD [])).1, .int .i64 (checkE ((toT d_o).getD [])).2] | _ => .inil⟩
open Classical in
theorem ok33 : EntOk Tryz.prog [0] e33 := fun ds h => by
  unfold e33 at h ⊢
  simp only at h ⊢
  split at h
  · rw [decide_eq_true_iff] at h
    obtain ⟨v0, rfl, k0⟩ := h
    simp only [zB2, zA1, zA0, zB9, zC9, zC8]
    exact pc33 _ k0
  · cases h
end Go.Proofs.Sx

set_option linter.unusedVariables false
set_option linter.unusedSimpArgs false
set_option maxRecDepth 100000
namespace Go.Proofs.Sx
open Go Go.Proofs Go.Proofs.Am 
variable {gs : List Nat}

def numV (k n : Int) : V := .mk k n 0 ⟨#[]⟩ none none
def txtV (k : Int) (s : ByteArray) : V := .mk k 0 0 s none none
theorem pc13 (n : Int) : PureCall Tryz.prog [0] 11 [.int .i64 n] (dRet (numV 2 n).enc) := by
  refine zD2 mixed fn13 (Nat.le_of_ble_eq_true rfl) (Nat.lt_of_succ_le (Nat.le_of_ble_eq_true rfl)) (sfOk .nil) TbOk (lv := lv0) fun I F hI hF => ?_
  refine zD7 fun C hC => ?_
  generalize hgen0 : DV.int .i64 n = gen0
  cbv
  subst hgen0
  subst hC
  refine ⟨?_⟩
  simp (maxSteps := 3000000) only [hI, hF, std]
  simp only [smp, lookOk, lookRes, sfOf, sgOf, hOk, hRes, hOut, ↓reduceIte, Nat.reduceEqDiff, reduceCtorEq, zC2, zA2, zB6, zA5, zB4, zB5, zA4, zB3, zA3, zB2, zC1, zA1, zB1, zA0, zB0]
  simp [numV, V.enc, encS, encO]
noncomputable def e13 : Ent := ⟨11, fun | [.int .i64 _] => true | _ => false, fun | [.int .i64 n] => (numV 2 n).enc | _ => .inil⟩
open Classical in
theorem ok13 : EntOk Tryz.prog [0] e13 := fun ds h => by
  unfold e13 at h ⊢
  simp only at h ⊢
  split at h
  · exact pc13 _
  · cases h
theorem pc18 (s : ByteArray) : PureCall Tryz.prog [0] 16 [.str s] (dRet (txtV 4 s).enc) := by
  refine zD2 mixed fn18 (Nat.le_of_ble_eq_true rfl) (Nat.lt_of_succ_le (Nat.le_of_ble_eq_true rfl)) (sfOk .nil) TbOk (lv := lv0) fun I F hI hF => ?_
  refine zD7 fun C hC => ?_
  generalize hgen0 : DV.str s = gen0
  cbv
  subst hgen0
  subst hC
  refine ⟨?_⟩
  simp (maxSteps := 3000000) only [hI, hF, std]
  simp only [smp, lookOk, lookRes, sfOf, sgOf, hOk, hRes, hOut, ↓reduceIte, Nat.reduceEqDiff, reduceCtorEq, zC2, zA2, zB6, zA5, zB4, zB5, zA4, zB3, zA3, zB2, zC1, zA1, zB1, zA0, zB0]
  simp [txtV, V.enc, encS, encO]
noncomputable def e18 : Ent := ⟨16, fun | [.str _] => true | _ => false, fun | [.str s] => (txtV 4 s).enc | _ => .inil⟩
open Classical in
theorem ok18 : EntOk Tryz.prog [0] e18 := fun ds h => by
  unfold e18 at h ⊢
  simp only at h ⊢
  split at h
  · exact pc18 _
  · cases h
theorem pc1088 (s : ByteArray) : PureCall Tryz.prog [0] 88 [.str s] (dRet (txtV 6 s).enc) := by
  refine zD2 mixed fn1088 (Nat.le_of_ble_eq_true rfl) (Nat.lt_of_succ_le (Nat.le_of_ble_eq_true rfl)) (sfOk .nil) TbOk (lv := lv0) fun I F hI hF => ?_
  refine zD7 fun C hC => ?_
  generalize hgen0 : DV.str s = gen0
  cbv
  subst hgen0
  subst hC
  refine ⟨?_⟩
  simp (maxSteps := 3000000) only [hI, hF, std]
  simp only [smp, lookOk, lookRes, sfOf, sgOf, hOk, hRes, hOut, ↓reduceIte, Nat.reduceEqDiff, reduceCtorEq, zC2, zA2, zB6, zA5, zB4, zB5, zA4, zB3, zA3, zB2, zC1, zA1, zB1, zA0, zB0]
  simp [txtV, V.enc, encS, encO]
noncomputable def e1088 : Ent := ⟨88, fun | [.str _] => true | _ => false, fun | [.str s] => (txtV 6 s).enc | _ => .inil⟩
open Classical in
theorem ok1088 : EntOk Tryz.prog [0] e1088 := fun ds h => by
  unfold e1088 at h ⊢
  simp only at h ⊢
  split at h
  · exact pc1088 _
  · cases h
theorem pc1089 (s : ByteArray) : PureCall Tryz.prog [0] 89 [.str s] (dRet (txtV 5 s).enc) := by
  refine zD2 mixed fn1089 (Nat.le_of_ble_eq_true rfl) (Nat.lt_of_succ_le (Nat.le_of_ble_eq_true rfl)) (sfOk .nil) TbOk (lv := lv0) fun I F hI hF => ?_
  refine zD7 fun C hC => ?_
  generalize hgen0 : DV.str s = gen0
  cbv
  subst hgen0
  subst hC
  refine ⟨?_⟩
  simp (maxSteps := 3000000) only [hI, hF, std]
  simp only [smp, lookOk, lookRes, sfOf, sgOf, hOk, hRes, hOut, ↓reduceIte, Nat.reduceEqDiff, reduceCtorEq, zC2, zA2, zB6, zA5, zB4, zB5, zA4, zB3, zA3, zB2, zC1, zA1, zB1, zA0, zB0]
  simp [txtV, V.enc, encS, encO]
noncomputable def e1089 : Ent := ⟨89, fun | [.str _] => true | _ => false, fun | [.str s] => (txtV 5 s).enc | _ => .inil⟩
open Classical in
theorem ok1089 : EntOk Tryz.prog [0] e1089 := fun ds h => by
  unfold e1089 at h ⊢
  simp only at h ⊢
  split at h
  · exact pc1089 _
  · cases h
theorem pc1090 (s : ByteArray) : PureCall Tryz.prog [0] 90 [.str s] (dRet (txtV 3 s).enc) := by
  refine zD2 mixed fn1090 (Nat.le_of_ble_eq_true rfl) (Nat.lt_of_succ_le (Nat.le_of_ble_eq_true rfl)) (sfOk .nil) TbOk (lv := lv0) fun I F hI hF => ?_
  refine zD7 fun C hC => ?_
  generalize hgen0 : DV.str s = gen0
  cbv
  subst hgen0
  subst hC
  refine ⟨?_⟩
  simp (maxSteps := 3000000) only [hI, hF, std]
  simp only [smp, lookOk, lookRes, sfOf, sgOf, hOk, hRes, hOut, ↓reduceIte, Nat.reduceEqDiff, reduceCtorEq, zC2, zA2, zB6, zA5, zB4, zB5, zA4, zB3, zA3, zB2, zC1, zA1, zB1, zA0, zB0]
  simp [txtV, V.enc, encS, encO]
noncomputable def e1090 : Ent := ⟨90, fun | [.str _] => true | _ => false, fun | [.str s] => (txtV 3 s).enc | _ => .inil⟩
open Classical in
theorem ok1090 : EntOk Tryz.prog [0] e1090 := fun ds h => by
  unfold e1090 at h ⊢
  simp only at h ⊢
  split at h
  · exact pc1090 _
  · cases h
theorem pc1060 (x : Nd) (hx : okN x) (hk : 0 ≤ x.k ∧ x.k ≤ 6) : PureCall Tryz.prog [0] 60 [encN x] (dRet (litV x).enc) := by
  generalize hr : litV x = r
  refine zD2 mixed fn1060 (Nat.le_of_ble_eq_true rfl) (Nat.lt_of_succ_le (Nat.le_of_ble_eq_true rfl)) (sfOk (.cons ok13 (.cons ok18 (.cons ok1088 (.cons ok1089 (.cons ok1090 .nil)))))) TbOk (lv := lv0) fun I F hI hF => ?_
  refine zD7 fun C hC => ?_
  generalize hgen0 : encN x = gen0
  generalize hgen1 : r.enc = gen1
  cbv
  subst hgen0
  subst hgen1
  subst hC
  refine ⟨?_⟩
  simp (maxSteps := 3000000) only [hI, hF, std]
  simp only [smp, lookOk, lookRes, sfOf, sgOf, hOk, hRes, hOut, ↓reduceIte, Nat.reduceEqDiff, reduceCtorEq, zC2, zA2, zB6, zA5, zB4, zB5, zA4, zB3, zA3, zB2, zC1, zA1, zB1, zA0, zB0, zA9, zC6, zA6, zC5, zC0, zC4, zB8, zA7, zB7, zA8, zC9, zD1, zC8, zD0, zB9, zC3, zC7, e13, e18, e1088, e1089, e1090]
  simp
  subst hr
  obtain ⟨k1, k2⟩ := hk
  have h7 : x.k = 0 ∨ x.k = 1 ∨ x.k = 2 ∨ x.k = 3 ∨ x.k = 4 ∨ x.k = 5 ∨ x.k = 6 := by omega
  rcases h7 with h | h | h | h | h | h | h <;> simp [litV, h, numV, txtV, V.enc, encS, encO]
open Classical in
noncomputable def e1060 : Ent := ⟨60, fun | [d_x] => decide (isN d_x ∧ 0 ≤ (toN d_x).k ∧ (toN d_x).k ≤ 6) | _ => false, fun | [d_x] => (litV (toN d_x)).enc | _ => .inil⟩
open Classical in
theorem ok1060 : EntOk Tryz.prog [0] e1060 := fun ds h => by
  unfold e1060 at h ⊢
  simp only at h ⊢
  split at h
  · rw [decide_eq_true_iff] at h
    obtain ⟨⟨v0, rfl, k0⟩, kx⟩ := h
    simp only [zB2, zA1, zA0, zB9, zC9, zC8] at kx ⊢
    exact pc1060 _ k0 kx
  · cases h
def lv1061 : Nat → List Nat × List Nat
  | 2 => ([0, 1, 5], [])
  | _ => ([], [])
open Classical in
theorem pc1061 (o : Option (List Int)) (n : Int) (ho : okIs o) : PureCall Tryz.prog [0] 61 [encIs o, .int .i64 n] (dRet (.bool (decide (n ∈ o.getD [])))) := by
  have hl : (o.getD []).length ≤ 1048576 := ho
  generalize hr : decide (n ∈ o.getD []) = r
  refine zD2 mixed fn1061 (Nat.le_of_ble_eq_true rfl) (Nat.lt_of_succ_le (Nat.le_of_ble_eq_true rfl)) (sfOk .nil) TbOk (lv := lv1061) fun I F hI hF => ?_
  refine zD7 fun C hC => ?_
  generalize hgen0 : encIs o = gen0
  generalize hgen1 : DV.int .i64 n = gen1
  generalize hgen2 : DV.bool r = gen2
  cbv
  subst hgen0
  subst hgen1
  subst hgen2
  subst hC
  refine ⟨?_⟩
  simp (maxSteps := 3000000) only [hI, hF, std]
  simp only [smp, lookOk, lookRes, sfOf, sgOf, hOk, hRes, hOut, ↓reduceIte, Nat.reduceEqDiff, reduceCtorEq, zC2, zA2, zB6, zA5, zB4, zB5, zA4, zB3, zA3, zB2, zC1, zA1, zB1, zA0, zB0, zA9, zC6, zA6, zC5, zC0, zC4, zB8, zA7, zB7, zA8, zC9, zD1, zC8, zD0, zB9, zC3, zC7]
  refine zD8 (kend := fun I => kEndF I Tb [.tmp 4]) hI hF (sfOk .nil) TbOk (by exact fun Bk e s h => endF TbOk Bk e s h) (lv := lv1061) 0 (fun i : {i : Nat // i ≤ (o.getD []).length ∧ ∀ j, j < i → (o.getD []).getD j 0 ≠ n} => [.d (encIs o), .d (.int .i64 n), .d (.int .i64 (i.1 : Int))]) (fun i : {i : Nat // i ≤ (o.getD []).length ∧ ∀ j, j < i → (o.getD []).getD j 0 ≠ n} => []) (fun i : {i : Nat // i ≤ (o.getD []).length ∧ ∀ j, j < i → (o.getD []).getD j 0 ≠ n} => (o.getD []).length - i.1) [] (⟨0, by omega, fun j h => by omega⟩ : {i : Nat // i ≤ (o.getD []).length ∧ ∀ j, j < i → (o.getD []).getD j 0 ≠ n}) (by rfl) (by rfl) ?_ ?_ fun i => ?_
  · simp
  · rfl
  obtain ⟨i, hi1, hi2⟩ := i
  refine zD7 fun C hC => ?_
  generalize hgen0 : encIs o = gen0
  generalize hgen1 : DV.int .i64 n = gen1
  generalize hgen2 : DV.int .i64 (i : Int) = gen2
  generalize hgen3 : DV.bool r = gen3
  cbv
  subst hgen0
  subst hgen1
  subst hgen2
  subst hgen3
  subst hC
  refine ⟨?_⟩
  simp (maxSteps := 3000000) only [hI, hF, std]
  have w3 := zE0 (n := i) (by omega)
  by_cases hlt : i < (o.getD []).length
  · have g1 := zE9 _ _ hlt
    simp only [smp, lookOk, lookRes, sfOf, sgOf, hOk, hRes, hOut, ↓reduceIte, Nat.reduceEqDiff, reduceCtorEq, zC2, zA2, zB6, zA5, zB4, zB5, zA4, zB3, zA3, zB2, zC1, zA1, zB1, zA0, zB0, zA9, zC6, zA6, zC5, zC0, zC4, zB8, zA7, zB7, zA8, zC9, zD1, zC8, zD0, zB9, zC3, zC7, g1]
    simp [hlt, w3, - List.getD_eq_getElem?_getD]
    refine ⟨fun h => ?_, fun h => ⟨i + 1, by omega, ⟨by omega, fun j hj => ?_⟩, by simp⟩⟩
    · rw [← hr]
      have : n ∈ o.getD [] := by rw [← h]; simp [List.getD, hlt]
      simp [this]
    · by_cases hji : j = i
      · subst hji; exact h
      · exact hi2 j (by omega)
  · simp only [smp, lookOk, lookRes, sfOf, sgOf, hOk, hRes, hOut, ↓reduceIte, Nat.reduceEqDiff, reduceCtorEq, zC2, zA2, zB6, zA5, zB4, zB5, zA4, zB3, zA3, zB2, zC1, zA1, zB1, zA0, zB0, zA9, zC6, zA6, zC5, zC0, zC4, zB8, zA7, zB7, zA8, zC9, zD1, zC8, zD0, zB9, zC3, zC7]
    simp [hlt, - List.getD_eq_getElem?_getD]
    rw [← hr]
    have : ¬ n ∈ o.getD [] := fun h => by
      obtain ⟨j, hj, he⟩ := List.getElem_of_mem h
      refine hi2 j (by omega) ?_
      simp [List.getD, hj, he]
    simp [this]
open Classical in
noncomputable def e1061 : Ent := ⟨61, fun | [d_o, .int .i64 n] => decide (isIs d_o) | _ => false, fun | [d_o, .int .i64 n] => .bool (decide (n ∈ (toIs d_o).getD [])) | _ => .inil⟩
open Classical in
theorem ok1061 : EntOk Tryz.prog [0] e1061 := fun ds h => by
  unfold e1061 at h ⊢
  simp only at h ⊢
  split at h
  · rw [decide_eq_true_iff] at h
    obtain ⟨v0, rfl, k0⟩ := h
    simp only [zB2, zA1, zA0, zB9, zC9, zC8]
    exact pc1061 _ _ k0
  · cases h
open Classical in
/-- How many operands an operator has. -/
noncomputable def opsO (s : ByteArray) : Option (List Int) := if s ∈ opsU then some [1] else if s = ⟨#[45]⟩ then some [1, 2] else if s ∈ opsB then some [2] else if s = opsW3 then some [3] else if s = opsW4 then some [4] else none
theorem opsO_get (s : ByteArray) : (opsO s).getD [] = opsOf s := by
  unfold opsO opsOf
  repeat (first | rfl | split)
theorem opsO_ok (s : ByteArray) : okIs (opsO s) := by
  unfold opsO okIs
  repeat (first | decide | split)
theorem opsO_U {s : ByteArray} (h : s ∈ opsU) : encIs (opsO s) = .sim [.int .i64 1] := by
  unfold opsO; rw [if_pos h]; rfl
theorem opsO_M {s : ByteArray} (h : s = ⟨#[45]⟩) : encIs (opsO s) = .sim [.int .i64 1, .int .i64 2] := by
  have a2 : (⟨#[45]⟩ : ByteArray) ∉ opsU ++ opsB := apart_ops apMU (by simp)
  unfold opsO; rw [if_neg (fun h' => a2 (by rw [← h]; simp [h'])), if_pos h]; rfl
theorem opsO_B {s : ByteArray} (h : s ∈ opsB) : encIs (opsO s) = .sim [.int .i64 2] := by
  have a1 : ∀ x, x ∈ opsU → x ∉ opsB := fun x h => apart_ops apUB h
  have a2 : (⟨#[45]⟩ : ByteArray) ∉ opsU ++ opsB := apart_ops apMU (by simp)
  unfold opsO; rw [if_neg (fun h' => a1 s h' h), if_neg (fun h' => a2 (by rw [← h']; simp [h])), if_pos h]; rfl
theorem opsO_3 {s : ByteArray} (h : s = opsW3) : encIs (opsO s) = .sim [.int .i64 3] := by
  have a3 : opsW3 ∉ (⟨#[45]⟩ :: (opsU ++ opsB) : List ByteArray) := apart_ops apS (by simp)
  rw [← h] at a3
  simp only [List.mem_cons, List.mem_append, not_or] at a3
  unfold opsO; rw [if_neg a3.2.1, if_neg a3.1, if_neg a3.2.2, if_pos h]; rfl
theorem opsO_4 {s : ByteArray} (h : s = opsW4) : encIs (opsO s) = .sim [.int .i64 4] := by
  have a3 : opsW4 ∉ (⟨#[45]⟩ :: (opsU ++ opsB) : List ByteArray) := apart_ops apS (by simp)
  have a4 : opsW4 ≠ opsW3 := by decide
  rw [← h] at a3 a4
  simp only [List.mem_cons, List.mem_append, not_or] at a3
  unfold opsO; rw [if_neg a3.2.1, if_neg a3.1, if_neg a3.2.2, if_neg a4, if_pos h]; rfl
theorem opsO_N {s : ByteArray} (h1 : s ∉ opsU) (h2 : s ≠ ⟨#[45]⟩) (h3 : s ∉ opsB) (h4 : s ≠ opsW3) (h5 : s ≠ opsW4) : encIs (opsO s) = .snil := by
  unfold opsO; rw [if_neg h1, if_neg h2, if_neg h3, if_neg h4, if_neg h5]; rfl
set_option maxHeartbeats 2000000 in
theorem pc1086 (s : ByteArray) : PureCall Tryz.prog [0] 86 [.str s] (dRet (encIs (opsO s))) := by
  generalize hr : encIs (opsO s) = r
  refine zD2 mixed fn1086 (Nat.le_of_ble_eq_true rfl) (Nat.lt_of_succ_le (Nat.le_of_ble_eq_true rfl)) (sfOk .nil) TbOk (lv := lv0) fun I F hI hF => ?_
  refine zD7 fun C hC => ?_
  generalize hgen0 : DV.str s = gen0
  generalize hgen1 : r = gen1
  cbv
  subst hgen0
  subst hgen1
  subst hC
  refine ⟨?_⟩
  simp (maxSteps := 3000000) only [hI, hF, std]
  simp only [smp, lookOk, lookRes, sfOf, sgOf, hOk, hRes, hOut, ↓reduceIte, Nat.reduceEqDiff, reduceCtorEq, zC2, zA2, zB6, zA5, zB4, zB5, zA4, zB3, zA3, zB2, zC1, zA1, zB1, zA0, zB0, zA9, zC6, zA6, zC5, zC0, zC4, zB8, zA7, zB7, zA8, zC9, zD1, zC8, zD0, zB9, zC3, zC7]
  simp
  subst hr
  repeat' (refine And.intro (fun h => ?_) (fun h => ?_))
  all_goals first
    | exact (opsO_U (by rw [h]; simp [opsU])).symm
    | exact (opsO_M h).symm
    | exact (opsO_B (by rw [h]; simp [opsB])).symm
    | exact (opsO_3 h).symm
    | exact (opsO_4 h).symm
    | skip
  refine (opsO_N ?_ ?_ ?_ ?_ ?_).symm
  · simp only [opsU, List.mem_cons, List.not_mem_nil, or_false, not_or]
    repeat' (refine And.intro (by assumption) ?_)
    assumption
  · assumption
  · simp only [opsB, List.mem_cons, List.not_mem_nil, or_false, not_or]
    repeat' (refine And.intro (by assumption) ?_)
    assumption
  · assumption
  · assumption
noncomputable def e1086 : Ent := ⟨86, fun | [.str _] => true | _ => false, fun | [.str s] => encIs (opsO s) | _ => .inil⟩
open Classical in
theorem ok1086 : EntOk Tryz.prog [0] e1086 := fun ds h => by
  unfold e1086 at h ⊢
  simp only at h ⊢
  split at h
  · exact pc1086 _
  · cases h
theorem pc1055 (s : ByteArray) : PureCall Tryz.prog [0] 55 [.str s] (dRet (encIs (opsO s))) := by
  refine zD2 mixed fn1055 (Nat.le_of_ble_eq_true rfl) (Nat.lt_of_succ_le (Nat.le_of_ble_eq_true rfl)) (sfOk (.cons ok1086 .nil)) TbOk (lv := lv0) fun I F hI hF => ?_
  refine zD7 fun C hC => ?_
  generalize hgen0 : DV.str s = gen0
  generalize hgen1 : encIs (opsO s) = gen1
  cbv
  subst hgen0
  subst hgen1
  subst hC
  refine ⟨?_⟩
  simp (maxSteps := 3000000) only [hI, hF, std]
  simp only [smp, lookOk, lookRes, sfOf, sgOf, hOk, hRes, hOut, ↓reduceIte, Nat.reduceEqDiff, reduceCtorEq, zC2, zA2, zB6, zA5, zB4, zB5, zA4, zB3, zA3, zB2, zC1, zA1, zB1, zA0, zB0, zA9, zC6, zA6, zC5, zC0, zC4, zB8, zA7, zB7, zA8, zC9, zD1, zC8, zD0, zB9, zC3, zC7, e1086]
noncomputable def e1055 : Ent := ⟨55, fun | [.str _] => true | _ => false, fun | [.str s] => encIs (opsO s) | _ => .inil⟩
open Classical in
theorem ok1055 : EntOk Tryz.prog [0] e1055 := fun ds h => by
  unfold e1055 at h ⊢
  simp only at h ⊢
  split at h
  · exact pc1055 _
  · cases h
theorem pc1056 (x : Nd) (hx : okN x) (hk : 0 ≤ x.k ∧ x.k ≤ 14) : PureCall Tryz.prog [0] 56 [encN x] (dRet (.bool (arOk x))) := by
  generalize hr : arOk x = r
  refine zD2 mixed fn1056 (Nat.le_of_ble_eq_true rfl) (Nat.lt_of_succ_le (Nat.le_of_ble_eq_true rfl)) (sfOk (.cons ok1055 (.cons ok1061 .nil))) TbOk (lv := lv0) fun I F hI hF => ?_
  refine zD7 fun C hC => ?_
  generalize hgen0 : encN x = gen0
  generalize hgen1 : DV.bool r = gen1
  cbv
  subst hgen0
  subst hgen1
  subst hC
  refine ⟨?_⟩
  simp (maxSteps := 3000000) only [hI, hF, std]
  have e : x.nm.getD [] = x.names := rfl
  have e2 : x.ar.getD [] = x.args := rfl
  have ok := opsO_ok x.tx
  simp only [smp, lookOk, lookRes, sfOf, sgOf, hOk, hRes, hOut, ↓reduceIte, Nat.reduceEqDiff, reduceCtorEq, zC2, zA2, zB6, zA5, zB4, zB5, zA4, zB3, zA3, zB2, zC1, zA1, zB1, zA0, zB0, zA9, zC6, zA6, zC5, zC0, zC4, zB8, zA7, zB7, zA8, zC9, zD1, zC8, zD0, zB9, zC3, zC7, e1055, e1061, e, e2, List.length_map]
  simp [zA9, zC6, zA6, zC5, zC0, zC4, zB8, zA7, zB7, zA8, zC9, zD1, zC8, zD0, zB9, zC3, zC7, ok, opsO_get]
  subst hr
  unfold arOk
  have n1 : ((x.args.length : Int) = (x.names.length : Int)) ↔ x.args.length = x.names.length := by omega
  have n2 : ((x.args.length : Int) = 1) ↔ x.args.length = 1 := by omega
  have n3 : ((x.names.length : Int) = 1) ↔ x.names.length = 1 := by omega
  have n4 : ((x.args.length : Int) = 2) ↔ x.args.length = 2 := by omega
  have n5 : ((x.args.length : Int) = 0) ↔ x.args.length = 0 := by omega
  by_cases h8 : x.k = 8
  · simp [h8]
  by_cases h9 : x.k = 9
  · simp [h9, n1]
  by_cases h10 : x.k = 10
  · simp [h10]
  by_cases h11 : x.k = 11
  · simp [h11, n2, n3]
  by_cases h12 : x.k = 12
  · simp [h12, n2]
  by_cases h13 : x.k = 13
  · simp [h13, n4]
  simp [h8, h9, h10, h11, h12, h13]
open Classical in
noncomputable def e1056 : Ent := ⟨56, fun | [d_x] => decide (isN d_x ∧ 0 ≤ (toN d_x).k ∧ (toN d_x).k ≤ 14) | _ => false, fun | [d_x] => .bool (arOk (toN d_x)) | _ => .inil⟩
open Classical in
theorem ok1056 : EntOk Tryz.prog [0] e1056 := fun ds h => by
  unfold e1056 at h ⊢
  simp only at h ⊢
  split at h
  · rw [decide_eq_true_iff] at h
    obtain ⟨⟨v0, rfl, k0⟩, kx⟩ := h
    simp only [zB2, zA1, zA0, zB9, zC9, zC8] at kx ⊢
    exact pc1056 _ k0 kx
  · cases h
end Go.Proofs.Sx

set_option linter.unusedVariables false
set_option linter.unusedSimpArgs false
set_option maxRecDepth 100000
namespace Go.Proofs.Sx
open Go Go.Proofs Go.Proofs.Am 
variable {gs : List Nat}

def idxG {α : Type} (p : α → Bool) : List α → Int
  | [] => -1
  | x :: l => if p x = true then 0 else if idxG p l < 0 then -1 else idxG p l + 1
theorem idxG_none {α : Type} [Inhabited α] {p : α → Bool} : ∀ {l : List α}, (∀ i, i < l.length → p (l.getD i default) = false) → idxG p l = -1
  | [], _ => rfl
  | x :: l, h => by
    have h0 := h 0 (by simp)
    have ih := idxG_none (p := p) (l := l) fun i hi => h (i + 1) (by simpa using hi)
    simp only [idxG]
    rw [if_neg (by simpa using h0), ih, if_pos (by omega)]
theorem idxG_some {α : Type} [Inhabited α] {p : α → Bool} : ∀ {l : List α} {i : Nat}, i < l.length → p (l.getD i default) = true → (∀ j, j < i → p (l.getD j default) = false) → idxG p l = i
  | x :: l, 0, h, h1, h2 => by simp only [idxG]; rw [if_pos (by simpa using h1)]; rfl
  | x :: l, i + 1, h, h1, h2 => by
    have h0 := h2 0 (by omega)
    have ih := idxG_some (p := p) (l := l) (i := i) (by simpa using h) (by simpa using h1) fun j hj => h2 (j + 1) (by omega)
    simp only [idxG]
    rw [if_neg (by simpa using h0), ih, if_neg (by omega)]; simp
theorem idxG_iff {α : Type} (p : α → Bool) : ∀ (l : List α), 0 ≤ idxG p l ↔ ∃ x ∈ l, p x = true
  | [] => by simp [idxG]
  | x :: l => by
    have ih := idxG_iff p l
    simp only [idxG, List.mem_cons, exists_eq_or_imp]
    rw [← ih]
    split
    · rename_i h; simp [h]
    · rename_i h
      split <;> simp [h] <;> omega
theorem idxG_lt {α : Type} (p : α → Bool) : ∀ (l : List α), idxG p l < l.length
  | [] => by simp [idxG]
  | x :: l => by
    have ih := idxG_lt p l
    simp only [idxG, List.length_cons]
    split
    · omega
    · split <;> omega
theorem pc1021 (a b : Kn) (ha : okK a) (hb : okK b) : PureCall Tryz.prog [0] 21 [encK a, .pim [encK b] 0 0] (dRet (.bool (decide (a.nm = b.nm)))) := by
  refine zD2 mixed fn1021 (Nat.le_of_ble_eq_true rfl) (Nat.lt_of_succ_le (Nat.le_of_ble_eq_true rfl)) (sfOk .nil) TbOk (lv := lv0) fun I F hI hF => ?_
  refine zD7 fun C hC => ?_
  generalize hgen0 : encK a = gen0
  generalize hgen1 : encK b = gen1
  cbv
  subst hgen0
  subst hgen1
  subst hC
  refine ⟨?_⟩
  simp (maxSteps := 3000000) only [hI, hF, std]
  simp only [smp, lookOk, lookRes, sfOf, sgOf, hOk, hRes, hOut, ↓reduceIte, Nat.reduceEqDiff, reduceCtorEq, zC2, zA2, zB6, zA5, zB4, zB5, zA4, zB3, zA3, zB2, zC1, zA1, zB1, zA0, zB0, zE5, zD4, zE2, zD5, zE1, zD6, zE7, zE8, zD9, zE3, zE6, zD3]
  simp
open Classical in
noncomputable def e1021 : Ent := ⟨21, fun | [d_a, .pim [d_b] 0 0] => decide (isK d_a ∧ isK d_b) | _ => false, fun | [d_a, .pim [d_b] 0 0] => .bool (decide ((toK d_a).nm = (toK d_b).nm)) | _ => .inil⟩
open Classical in
theorem ok1021 : EntOk Tryz.prog [0] e1021 := fun ds h => by
  unfold e1021 at h ⊢
  simp only at h ⊢
  split at h
  · rw [decide_eq_true_iff] at h
    obtain ⟨⟨v0, rfl, k0⟩, ⟨v1, rfl, k1⟩⟩ := h
    simp only [zB2, zA1, zA0, zE7, zD9]
    exact pc1021 _ _ k0 k1
  · cases h
theorem pc1026 (a : Kn) (b : Nd) (ha : okK a) (hb : okN b) : PureCall Tryz.prog [0] 26 [encK a, .pim [encN b] 0 0] (dRet (.bool (decide (a.nm = b.tx)))) := by
  refine zD2 mixed fn1026 (Nat.le_of_ble_eq_true rfl) (Nat.lt_of_succ_le (Nat.le_of_ble_eq_true rfl)) (sfOk .nil) TbOk (lv := lv0) fun I F hI hF => ?_
  refine zD7 fun C hC => ?_
  generalize hgen0 : encK a = gen0
  generalize hgen1 : encN b = gen1
  cbv
  subst hgen0
  subst hgen1
  subst hC
  refine ⟨?_⟩
  simp (maxSteps := 3000000) only [hI, hF, std]
  simp only [smp, lookOk, lookRes, sfOf, sgOf, hOk, hRes, hOut, ↓reduceIte, Nat.reduceEqDiff, reduceCtorEq, zC2, zA2, zB6, zA5, zB4, zB5, zA4, zB3, zA3, zB2, zC1, zA1, zB1, zA0, zB0, zE5, zD4, zE2, zD5, zE1, zD6, zE7, zE8, zD9, zE3, zE6, zD3, zA9, zC6, zA6, zC5, zC0, zC4, zB8, zA7, zB7, zA8, zC9, zD1, zC8, zD0, zB9, zC3, zC7]
  simp
open Classical in
noncomputable def e1026 : Ent := ⟨26, fun | [d_a, .pim [d_b] 0 0] => decide (isK d_a ∧ isN d_b) | _ => false, fun | [d_a, .pim [d_b] 0 0] => .bool (decide ((toK d_a).nm = (toN d_b).tx)) | _ => .inil⟩
open Classical in
theorem ok1026 : EntOk Tryz.prog [0] e1026 := fun ds h => by
  unfold e1026 at h ⊢
  simp only at h ⊢
  split at h
  · rw [decide_eq_true_iff] at h
    obtain ⟨⟨v0, rfl, k0⟩, ⟨v1, rfl, k1⟩⟩ := h
    simp only [zB2, zA1, zA0, zB9, zC9, zC8, zE7, zD9]
    exact pc1026 _ _ k0 k1
  · cases h
def lv1025 : Nat → List Nat × List Nat
  | 2 => ([0, 1, 7, 8], [])
  | _ => ([], [])
theorem pc1025a (o : Option (List Kn)) (b : Kn) (ho : okKs o) (hb : okK b) : PureCall Tryz.prog [0] 25 [encKs o, .fn 21 [.pim [encK b] 0 0]] (dRet (.int .i64 (idxG (fun k => decide (k.nm = b.nm)) (o.getD [])))) := by
  have hl := ho.1
  refine zD2 mixed fn1025 (Nat.le_of_ble_eq_true rfl) (Nat.lt_of_succ_le (Nat.le_of_ble_eq_true rfl)) (sfOk (.cons ok1021 .nil)) TbOk (lv := lv1025) fun I F hI hF => ?_
  refine zD7 fun C hC => ?_
  generalize hgen0 : encKs o = gen0
  generalize hgen1 : encK b = gen1
  cbv
  subst hgen0
  subst hgen1
  subst hC
  refine ⟨?_⟩
  simp (maxSteps := 3000000) only [hI, hF, std]
  simp only [smp, lookOk, lookRes, sfOf, sgOf, hOk, hRes, hOut, ↓reduceIte, Nat.reduceEqDiff, reduceCtorEq, zC2, zA2, zB6, zA5, zB4, zB5, zA4, zB3, zA3, zB2, zC1, zA1, zB1, zA0, zB0, zE5, zD4, zE2, zD5, zE1, zD6, zE7, zE8, zD9, zE3, zE6, zD3]
  refine zD8 (kend := fun I => kEndF I Tb [.tmp 4]) hI hF (sfOk (.cons ok1021 .nil)) TbOk (by exact fun Bk e s h => endF TbOk Bk e s h) (lv := lv1025) 0 (fun i : {i : Nat // i ≤ (o.getD []).length ∧ ∀ j, j < i → decide (((o.getD []).getD j default).nm = b.nm) = false} => [.d (encKs o), .d (.fn 21 [.pim [encK b] 0 0]), .d (.int .i64 ((o.getD []).length : Int)), .d (.int .i64 (i.1 : Int))]) (fun i : {i : Nat // i ≤ (o.getD []).length ∧ ∀ j, j < i → decide (((o.getD []).getD j default).nm = b.nm) = false} => []) (fun i : {i : Nat // i ≤ (o.getD []).length ∧ ∀ j, j < i → decide (((o.getD []).getD j default).nm = b.nm) = false} => (o.getD []).length - i.1) [] (⟨0, by omega, fun j h => by omega⟩ : {i : Nat // i ≤ (o.getD []).length ∧ ∀ j, j < i → decide (((o.getD []).getD j default).nm = b.nm) = false}) (by rfl) (by rfl) ?_ ?_ fun i => ?_
  · simp
  · rfl
  obtain ⟨i, hi1, hi2⟩ := i
  refine zD7 fun C hC => ?_
  generalize hgen0 : encKs o = gen0
  generalize hgen1 : encK b = gen1
  generalize hgen2 : DV.int .i64 ((o.getD []).length : Int) = gen2
  generalize hgen3 : DV.int .i64 (i : Int) = gen3
  cbv
  subst hgen0
  subst hgen1
  subst hgen2
  subst hgen3
  subst hC
  refine ⟨?_⟩
  simp (maxSteps := 3000000) only [hI, hF, std]
  have w3 := zE0 (n := i) (by omega)
  by_cases hlt : i < (o.getD []).length
  · have g1 := get_encK _ _ hlt
    have k1 := okKs_get ho hlt
    simp only [smp, lookOk, lookRes, sfOf, sgOf, hOk, hRes, hOut, ↓reduceIte, Nat.reduceEqDiff, reduceCtorEq, zC2, zA2, zB6, zA5, zB4, zB5, zA4, zB3, zA3, zB2, zC1, zA1, zB1, zA0, zB0, zE5, zD4, zE2, zD5, zE1, zD6, zE7, zE8, zD9, zE3, zE6, zD3, zA9, zC6, zA6, zC5, zC0, zC4, zB8, zA7, zB7, zA8, zC9, zD1, zC8, zD0, zB9, zC3, zC7, e1021, g1]
    simp [hlt, w3, - List.getD_eq_getElem?_getD, k1, hb, zE5, zD4, zE2, zD5, zE1, zD6, zE7, zE8, zD9, zE3, zE6, zD3, zA9, zC6, zA6, zC5, zC0, zC4, zB8, zA7, zB7, zA8, zC9, zD1, zC8, zD0, zB9, zC3, zC7]
    refine ⟨fun h => (idxG_some hlt (decide_eq_true h) hi2).symm, fun h => ⟨i + 1, by omega, ⟨by omega, fun j hj => ?_⟩, by omega⟩⟩
    by_cases hji : j = i
    · subst hji; exact h
    · have := hi2 j (by omega); exact of_decide_eq_false this
  · simp only [smp, lookOk, lookRes, sfOf, sgOf, hOk, hRes, hOut, ↓reduceIte, Nat.reduceEqDiff, reduceCtorEq, zC2, zA2, zB6, zA5, zB4, zB5, zA4, zB3, zA3, zB2, zC1, zA1, zB1, zA0, zB0, zE5, zD4, zE2, zD5, zE1, zD6, zE7, zE8, zD9, zE3, zE6, zD3, zA9, zC6, zA6, zC5, zC0, zC4, zB8, zA7, zB7, zA8, zC9, zD1, zC8, zD0, zB9, zC3, zC7, e1021]
    simp [hlt, - List.getD_eq_getElem?_getD]
    exact (idxG_none fun j hj => hi2 j (by omega)).symm
open Classical in
noncomputable def e1025a : Ent := ⟨25, fun | [d_o, .fn 21 [.pim [d_b] 0 0]] => decide (isKs d_o ∧ isK d_b) | _ => false, fun | [d_o, .fn 21 [.pim [d_b] 0 0]] => .int .i64 (idxG (fun k => decide (k.nm = (toK d_b).nm)) ((toKs d_o).getD [])) | _ => .inil⟩
open Classical in
theorem ok1025a : EntOk Tryz.prog [0] e1025a := fun ds h => by
  unfold e1025a at h ⊢
  simp only at h ⊢
  split at h
  · rw [decide_eq_true_iff] at h
    obtain ⟨⟨v0, rfl, k0⟩, ⟨v1, rfl, k1⟩⟩ := h
    simp only [zB2, zA1, zA0, zE7, zD9]
    exact pc1025a _ _ k0 k1
  · cases h
theorem pc1025b (o : Option (List Kn)) (b : Nd) (ho : okKs o) (hb : okN b) : PureCall Tryz.prog [0] 25 [encKs o, .fn 26 [.pim [encN b] 0 0]] (dRet (.int .i64 (idxG (fun k => decide (k.nm = b.tx)) (o.getD [])))) := by
  have hl := ho.1
  refine zD2 mixed fn1025 (Nat.le_of_ble_eq_true rfl) (Nat.lt_of_succ_le (Nat.le_of_ble_eq_true rfl)) (sfOk (.cons ok1026 .nil)) TbOk (lv := lv1025) fun I F hI hF => ?_
  refine zD7 fun C hC => ?_
  generalize hgen0 : encKs o = gen0
  generalize hgen1 : encN b = gen1
  cbv
  subst hgen0
  subst hgen1
  subst hC
  refine ⟨?_⟩
  simp (maxSteps := 3000000) only [hI, hF, std]
  simp only [smp, lookOk, lookRes, sfOf, sgOf, hOk, hRes, hOut, ↓reduceIte, Nat.reduceEqDiff, reduceCtorEq, zC2, zA2, zB6, zA5, zB4, zB5, zA4, zB3, zA3, zB2, zC1, zA1, zB1, zA0, zB0, zE5, zD4, zE2, zD5, zE1, zD6, zE7, zE8, zD9, zE3, zE6, zD3]
  refine zD8 (kend := fun I => kEndF I Tb [.tmp 4]) hI hF (sfOk (.cons ok1026 .nil)) TbOk (by exact fun Bk e s h => endF TbOk Bk e s h) (lv := lv1025) 0 (fun i : {i : Nat // i ≤ (o.getD []).length ∧ ∀ j, j < i → decide (((o.getD []).getD j default).nm = b.tx) = false} => [.d (encKs o), .d (.fn 26 [.pim [encN b] 0 0]), .d (.int .i64 ((o.getD []).length : Int)), .d (.int .i64 (i.1 : Int))]) (fun i : {i : Nat // i ≤ (o.getD []).length ∧ ∀ j, j < i → decide (((o.getD []).getD j default).nm = b.tx) = false} => []) (fun i : {i : Nat // i ≤ (o.getD []).length ∧ ∀ j, j < i → decide (((o.getD []).getD j default).nm = b.tx) = false} => (o.getD []).length - i.1) [] (⟨0, by omega, fun j h => by omega⟩ : {i : Nat // i ≤ (o.getD []).length ∧ ∀ j, j < i → decide (((o.getD []).getD j default).nm = b.tx) = false}) (by rfl) (by rfl) ?_ ?_ fun i => ?_
  · simp
  · rfl
  obtain ⟨i, hi1, hi2⟩ := i
  refine zD7 fun C hC => ?_
  generalize hgen0 : encKs o = gen0
  generalize hgen1 : encN b = gen1
  generalize hgen2 : DV.int .i64 ((o.getD []).length : Int) = gen2
  generalize hgen3 : DV.int .i64 (i : Int) = gen3
  cbv
  subst hgen0
  subst hgen1
  subst hgen2
  subst hgen3
  subst hC
  refine ⟨?_⟩
  simp (maxSteps := 3000000) only [hI, hF, std]
  have w3 := zE0 (n := i) (by omega)
  by_cases hlt : i < (o.getD []).length
  · have g1 := get_encK _ _ hlt
    have k1 := okKs_get ho hlt
    simp only [smp, lookOk, lookRes, sfOf, sgOf, hOk, hRes, hOut, ↓reduceIte, Nat.reduceEqDiff, reduceCtorEq, zC2, zA2, zB6, zA5, zB4, zB5, zA4, zB3, zA3, zB2, zC1, zA1, zB1, zA0, zB0, zE5, zD4, zE2, zD5, zE1, zD6, zE7, zE8, zD9, zE3, zE6, zD3, zA9, zC6, zA6, zC5, zC0, zC4, zB8, zA7, zB7, zA8, zC9, zD1, zC8, zD0, zB9, zC3, zC7, e1026, g1]
    simp [hlt, w3, - List.getD_eq_getElem?_getD, k1, hb, zE5, zD4, zE2, zD5, zE1, zD6, zE7, zE8, zD9, zE3, zE6, zD3, zA9, zC6, zA6, zC5, zC0, zC4, zB8, zA7, zB7, zA8, zC9, zD1, zC8, zD0, zB9, zC3, zC7]
    refine ⟨fun h => (idxG_some hlt (decide_eq_true h) hi2).symm, fun h => ⟨i + 1, by omega, ⟨by omega, fun j hj => ?_⟩, by omega⟩⟩
    by_cases hji : j = i
    · subst hji; exact h
    · have := hi2 j (by omega); exact of_decide_eq_false this
  · simp only [smp, lookOk, lookRes, sfOf, sgOf, hOk, hRes, hOut, ↓reduceIte, Nat.reduceEqDiff, reduceCtorEq, zC2, zA2, zB6, zA5, zB4, zB5, zA4, zB3, zA3, zB2, zC1, zA1, zB1, zA0, zB0, zE5, zD4, zE2, zD5, zE1, zD6, zE7, zE8, zD9, zE3, zE6, zD3, zA9, zC6, zA6, zC5, zC0, zC4, zB8, zA7, zB7, zA8, zC9, zD1, zC8, zD0, zB9, zC3, zC7, e1026]
    simp [hlt, - List.getD_eq_getElem?_getD]
    exact (idxG_none fun j hj => hi2 j (by omega)).symm
open Classical in
noncomputable def e1025b : Ent := ⟨25, fun | [d_o, .fn 26 [.pim [d_b] 0 0]] => decide (isKs d_o ∧ isN d_b) | _ => false, fun | [d_o, .fn 26 [.pim [d_b] 0 0]] => .int .i64 (idxG (fun k => decide (k.nm = (toN d_b).tx)) ((toKs d_o).getD [])) | _ => .inil⟩
open Classical in
theorem ok1025b : EntOk Tryz.prog [0] e1025b := fun ds h => by
  unfold e1025b at h ⊢
  simp only at h ⊢
  split at h
  · rw [decide_eq_true_iff] at h
    obtain ⟨⟨v0, rfl, k0⟩, ⟨v1, rfl, k1⟩⟩ := h
    simp only [zB2, zA1, zA0, zB9, zC9, zC8, zE7, zD9]
    exact pc1025b _ _ k0 k1
  · cases h
theorem pc1020 (o : Option (List Kn)) (b : Kn) (ho : okKs o) (hb : okK b) : PureCall Tryz.prog [0] 20 [encKs o, .fn 21 [.pim [encK b] 0 0]] (dRet (.bool (decide (0 ≤ idxG (fun k => decide (k.nm = b.nm)) (o.getD []))))) := by
  refine zD2 mixed fn1020 (Nat.le_of_ble_eq_true rfl) (Nat.lt_of_succ_le (Nat.le_of_ble_eq_true rfl)) (sfOk (.cons ok1025a .nil)) TbOk (lv := lv0) fun I F hI hF => ?_
  refine zD7 fun C hC => ?_
  generalize hgen0 : encKs o = gen0
  generalize hgen1 : encK b = gen1
  cbv
  subst hgen0
  subst hgen1
  subst hC
  refine ⟨?_⟩
  simp (maxSteps := 3000000) only [hI, hF, std]
  simp only [smp, lookOk, lookRes, sfOf, sgOf, hOk, hRes, hOut, ↓reduceIte, Nat.reduceEqDiff, reduceCtorEq, zC2, zA2, zB6, zA5, zB4, zB5, zA4, zB3, zA3, zB2, zC1, zA1, zB1, zA0, zB0, zE5, zD4, zE2, zD5, zE1, zD6, zE7, zE8, zD9, zE3, zE6, zD3, e1025a]
  simp [ho, hb, zE5, zD4, zE2, zD5, zE1, zD6, zE7, zE8, zD9, zE3, zE6, zD3]
open Classical in
noncomputable def e1020 : Ent := ⟨20, fun | [d_o, .fn 21 [.pim [d_b] 0 0]] => decide (isKs d_o ∧ isK d_b) | _ => false, fun | [d_o, .fn 21 [.pim [d_b] 0 0]] => .bool (decide (0 ≤ idxG (fun k => decide (k.nm = (toK d_b).nm)) ((toKs d_o).getD []))) | _ => .inil⟩
open Classical in
theorem ok1020 : EntOk Tryz.prog [0] e1020 := fun ds h => by
  unfold e1020 at h ⊢
  simp only at h ⊢
  split at h
  · rw [decide_eq_true_iff] at h
    obtain ⟨⟨v0, rfl, k0⟩, ⟨v1, rfl, k1⟩⟩ := h
    simp only [zB2, zA1, zA0, zE7, zD9]
    exact pc1020 _ _ k0 k1
  · cases h
/-- Every node that asks has an operand. -/
def askArg (x : Nd) : Prop := asksS x = true → 0 < x.args.length
def askOf (a : Int) (x : Nd) : Bool := asksS x && decide (x.args.getD 0 0 = a)
theorem pc1047 (x : Nd) (a : Int) (hx : okN x) (h : askArg x) : PureCall Tryz.prog [0] 47 [encN x, .pim [.int .i64 a] 0 0] (dRet (.bool (askOf a x))) := by
  refine zD2 mixed fn1047 (Nat.le_of_ble_eq_true rfl) (Nat.lt_of_succ_le (Nat.le_of_ble_eq_true rfl)) (sfOk (.cons ok97 .nil)) TbOk (lv := lv0) fun I F hI hF => ?_
  refine zD7 fun C hC => ?_
  generalize hgen0 : encN x = gen0
  generalize hgen1 : DV.int .i64 a = gen1
  cbv
  subst hgen0
  subst hgen1
  subst hC
  refine ⟨?_⟩
  simp (maxSteps := 3000000) only [hI, hF, std]
  have e : x.ar.getD [] = x.args := rfl
  rcases Bool.eq_false_or_eq_true (asksS x) with hA | hA
  · have g0 := zE9 _ _ (h hA)
    have hp := h hA
    simp only [smp, lookOk, lookRes, sfOf, sgOf, hOk, hRes, hOut, ↓reduceIte, Nat.reduceEqDiff, reduceCtorEq, zC2, zA2, zB6, zA5, zB4, zB5, zA4, zB3, zA3, zB2, zC1, zA1, zB1, zA0, zB0, zA9, zC6, zA6, zC5, zC0, zC4, zB8, zA7, zB7, zA8, zC9, zD1, zC8, zD0, zB9, zC3, zC7, e97, e, g0]
    simp [hx, zA9, zC6, zA6, zC5, zC0, zC4, zB8, zA7, zB7, zA8, zC9, zD1, zC8, zD0, zB9, zC3, zC7, hA, hp, g0, - List.getD_eq_getElem?_getD, askOf]
  · simp only [smp, lookOk, lookRes, sfOf, sgOf, hOk, hRes, hOut, ↓reduceIte, Nat.reduceEqDiff, reduceCtorEq, zC2, zA2, zB6, zA5, zB4, zB5, zA4, zB3, zA3, zB2, zC1, zA1, zB1, zA0, zB0, zA9, zC6, zA6, zC5, zC0, zC4, zB8, zA7, zB7, zA8, zC9, zD1, zC8, zD0, zB9, zC3, zC7, e97, e]
    simp [hx, zA9, zC6, zA6, zC5, zC0, zC4, zB8, zA7, zB7, zA8, zC9, zD1, zC8, zD0, zB9, zC3, zC7, hA, - List.getD_eq_getElem?_getD, askOf]
open Classical in
noncomputable def e1047 : Ent := ⟨47, fun | [d_x, .pim [.int .i64 a] 0 0] => decide (isN d_x ∧ askArg (toN d_x)) | _ => false, fun | [d_x, .pim [.int .i64 a] 0 0] => .bool (askOf a (toN d_x)) | _ => .inil⟩
open Classical in
theorem ok1047 : EntOk Tryz.prog [0] e1047 := fun ds h => by
  unfold e1047 at h ⊢
  simp only at h ⊢
  split at h
  · rw [decide_eq_true_iff] at h
    obtain ⟨⟨v0, rfl, k0⟩, kx⟩ := h
    simp only [zB2, zA1, zA0, zB9, zC9, zC8] at kx ⊢
    exact pc1047 _ _ k0 kx
  · cases h
def lv1082 : Nat → List Nat × List Nat
  | 2 => ([0, 1, 7, 8], [])
  | _ => ([], [])
theorem pc1082 (o : Option (List Nd)) (a : Int) (ho : okT o) (h : ∀ x ∈ o.getD [], askArg x) : PureCall Tryz.prog [0] 82 [encT o, .fn 47 [.pim [.int .i64 a] 0 0]] (dRet (.int .i64 (idxG (askOf a) (o.getD [])))) := by
  have hl := ho.1
  refine zD2 mixed fn1082 (Nat.le_of_ble_eq_true rfl) (Nat.lt_of_succ_le (Nat.le_of_ble_eq_true rfl)) (sfOk (.cons ok1047 .nil)) TbOk (lv := lv1082) fun I F hI hF => ?_
  refine zD7 fun C hC => ?_
  generalize hgen0 : encT o = gen0
  generalize hgen1 : DV.int .i64 a = gen1
  cbv
  subst hgen0
  subst hgen1
  subst hC
  refine ⟨?_⟩
  simp (maxSteps := 3000000) only [hI, hF, std]
  simp only [smp, lookOk, lookRes, sfOf, sgOf, hOk, hRes, hOut, ↓reduceIte, Nat.reduceEqDiff, reduceCtorEq, zC2, zA2, zB6, zA5, zB4, zB5, zA4, zB3, zA3, zB2, zC1, zA1, zB1, zA0, zB0, zA9, zC6, zA6, zC5, zC0, zC4, zB8, zA7, zB7, zA8, zC9, zD1, zC8, zD0, zB9, zC3, zC7]
  refine zD8 (kend := fun I => kEndF I Tb [.tmp 4]) hI hF (sfOk (.cons ok1047 .nil)) TbOk (by exact fun Bk e s h => endF TbOk Bk e s h) (lv := lv1082) 0 (fun i : {i : Nat // i ≤ (o.getD []).length ∧ ∀ j, j < i → askOf a ((o.getD []).getD j default) = false} => [.d (encT o), .d (.fn 47 [.pim [.int .i64 a] 0 0]), .d (.int .i64 ((o.getD []).length : Int)), .d (.int .i64 (i.1 : Int))]) (fun i : {i : Nat // i ≤ (o.getD []).length ∧ ∀ j, j < i → askOf a ((o.getD []).getD j default) = false} => []) (fun i : {i : Nat // i ≤ (o.getD []).length ∧ ∀ j, j < i → askOf a ((o.getD []).getD j default) = false} => (o.getD []).length - i.1) [] (⟨0, by omega, fun j h => by omega⟩ : {i : Nat // i ≤ (o.getD []).length ∧ ∀ j, j < i → askOf a ((o.getD []).getD j default) = false}) (by rfl) (by rfl) ?_ ?_ fun i => ?_
  · simp
  · rfl
  obtain ⟨i, hi1, hi2⟩ := i
  refine zD7 fun C hC => ?_
  generalize hgen0 : encT o = gen0
  generalize hgen1 : DV.int .i64 a = gen1
  generalize hgen2 : DV.int .i64 ((o.getD []).length : Int) = gen2
  generalize hgen3 : DV.int .i64 (i : Int) = gen3
  cbv
  subst hgen0
  subst hgen1
  subst hgen2
  subst hgen3
  subst hC
  refine ⟨?_⟩
  simp (maxSteps := 3000000) only [hI, hF, std]
  have w3 := zE0 (n := i) (by omega)
  by_cases hlt : i < (o.getD []).length
  · have g1 := zF7 _ _ hlt
    have k1 := zH5 ho hlt
    have k2 : askArg ((o.getD []).getD i default) := h _ (by simp [List.getD, hlt])
    simp only [smp, lookOk, lookRes, sfOf, sgOf, hOk, hRes, hOut, ↓reduceIte, Nat.reduceEqDiff, reduceCtorEq, zC2, zA2, zB6, zA5, zB4, zB5, zA4, zB3, zA3, zB2, zC1, zA1, zB1, zA0, zB0, zA9, zC6, zA6, zC5, zC0, zC4, zB8, zA7, zB7, zA8, zC9, zD1, zC8, zD0, zB9, zC3, zC7, e1047, g1]
    simp [hlt, w3, - List.getD_eq_getElem?_getD, k1, k2, zA9, zC6, zA6, zC5, zC0, zC4, zB8, zA7, zB7, zA8, zC9, zD1, zC8, zD0, zB9, zC3, zC7]
    refine ⟨fun h => (idxG_some hlt h hi2).symm, fun h => ⟨i + 1, by omega, ⟨by omega, fun j hj => ?_⟩, by omega⟩⟩
    by_cases hji : j = i
    · subst hji; exact h
    · exact hi2 j (by omega)
  · simp only [smp, lookOk, lookRes, sfOf, sgOf, hOk, hRes, hOut, ↓reduceIte, Nat.reduceEqDiff, reduceCtorEq, zC2, zA2, zB6, zA5, zB4, zB5, zA4, zB3, zA3, zB2, zC1, zA1, zB1, zA0, zB0, zA9, zC6, zA6, zC5, zC0, zC4, zB8, zA7, zB7, zA8, zC9, zD1, zC8, zD0, zB9, zC3, zC7, e1047]
    simp [hlt, - List.getD_eq_getElem?_getD]
    exact (idxG_none fun j hj => hi2 j (by omega)).symm
open Classical in
noncomputable def e1082 : Ent := ⟨82, fun | [d_o, .fn 47 [.pim [.int .i64 a] 0 0]] => decide (isT d_o ∧ ∀ x ∈ (toT d_o).getD [], askArg x) | _ => false, fun | [d_o, .fn 47 [.pim [.int .i64 a] 0 0]] => .int .i64 (idxG (askOf a) ((toT d_o).getD [])) | _ => .inil⟩
open Classical in
theorem ok1082 : EntOk Tryz.prog [0] e1082 := fun ds h => by
  unfold e1082 at h ⊢
  simp only at h ⊢
  split at h
  · rw [decide_eq_true_iff] at h
    obtain ⟨⟨v0, rfl, k0⟩, kx⟩ := h
    simp only [zB2, zA1, zA0, zB9, zC9, zC8] at kx ⊢
    exact pc1082 _ _ k0 kx
  · cases h
theorem pc1046 (o : Option (List Nd)) (a : Int) (ho : okT o) (h : ∀ x ∈ o.getD [], askArg x) : PureCall Tryz.prog [0] 46 [encT o, .fn 47 [.pim [.int .i64 a] 0 0]] (dRet (.bool (decide (0 ≤ idxG (askOf a) (o.getD []))))) := by
  refine zD2 mixed fn1046 (Nat.le_of_ble_eq_true rfl) (Nat.lt_of_succ_le (Nat.le_of_ble_eq_true rfl)) (sfOk (.cons ok1082 .nil)) TbOk (lv := lv0) fun I F hI hF => ?_
  refine zD7 fun C hC => ?_
  generalize hgen0 : encT o = gen0
  generalize hgen1 : DV.int .i64 a = gen1
  cbv
  subst hgen0
  subst hgen1
  subst hC
  refine ⟨?_⟩
  simp (maxSteps := 3000000) only [hI, hF, std]
  simp only [smp, lookOk, lookRes, sfOf, sgOf, hOk, hRes, hOut, ↓reduceIte, Nat.reduceEqDiff, reduceCtorEq, zC2, zA2, zB6, zA5, zB4, zB5, zA4, zB3, zA3, zB2, zC1, zA1, zB1, zA0, zB0, zA9, zC6, zA6, zC5, zC0, zC4, zB8, zA7, zB7, zA8, zC9, zD1, zC8, zD0, zB9, zC3, zC7, e1082]
  simp [ho, zA9, zC6, zA6, zC5, zC0, zC4, zB8, zA7, zB7, zA8, zC9, zD1, zC8, zD0, zB9, zC3, zC7]
  exact h
open Classical in
noncomputable def e1046 : Ent := ⟨46, fun | [d_o, .fn 47 [.pim [.int .i64 a] 0 0]] => decide (isT d_o ∧ ∀ x ∈ (toT d_o).getD [], askArg x) | _ => false, fun | [d_o, .fn 47 [.pim [.int .i64 a] 0 0]] => .bool (decide (0 ≤ idxG (askOf a) ((toT d_o).getD []))) | _ => .inil⟩
open Classical in
theorem ok1046 : EntOk Tryz.prog [0] e1046 := fun ds h => by
  unfold e1046 at h ⊢
  simp only at h ⊢
  split at h
  · rw [decide_eq_true_iff] at h
    obtain ⟨⟨v0, rfl, k0⟩, kx⟩ := h
    simp only [zB2, zA1, zA0, zB9, zC9, zC8] at kx ⊢
    exact pc1046 _ _ k0 kx
  · cases h
theorem pc1024 (o : Option (List Nd)) (a : Int) (ho : okT o) (h : ∀ x ∈ o.getD [], askArg x) : PureCall Tryz.prog [0] 24 [encT o, .int .i64 a] (dRet (.bool (decide (0 ≤ idxG (askOf a) (o.getD []))))) := by
  refine zD2 mixed fn1024 (Nat.le_of_ble_eq_true rfl) (Nat.lt_of_succ_le (Nat.le_of_ble_eq_true rfl)) (sfOk (.cons ok1046 .nil)) TbOk (lv := lv0) fun I F hI hF => ?_
  refine zD7 fun C hC => ?_
  generalize hgen0 : encT o = gen0
  generalize hgen1 : DV.int .i64 a = gen1
  cbv
  subst hgen0
  subst hgen1
  subst hC
  refine ⟨?_⟩
  simp (maxSteps := 3000000) only [hI, hF, std]
  simp only [smp, lookOk, lookRes, sfOf, sgOf, hOk, hRes, hOut, ↓reduceIte, Nat.reduceEqDiff, reduceCtorEq, zC2, zA2, zB6, zA5, zB4, zB5, zA4, zB3, zA3, zB2, zC1, zA1, zB1, zA0, zB0, zA9, zC6, zA6, zC5, zC0, zC4, zB8, zA7, zB7, zA8, zC9, zD1, zC8, zD0, zB9, zC3, zC7, e1046]
  simp [ho, zA9, zC6, zA6, zC5, zC0, zC4, zB8, zA7, zB7, zA8, zC9, zD1, zC8, zD0, zB9, zC3, zC7]
  exact h
open Classical in
noncomputable def e1024 : Ent := ⟨24, fun | [d_o, .int .i64 a] => decide (isT d_o ∧ ∀ x ∈ (toT d_o).getD [], askArg x) | _ => false, fun | [d_o, .int .i64 a] => .bool (decide (0 ≤ idxG (askOf a) ((toT d_o).getD []))) | _ => .inil⟩
open Classical in
theorem ok1024 : EntOk Tryz.prog [0] e1024 := fun ds h => by
  unfold e1024 at h ⊢
  simp only at h ⊢
  split at h
  · rw [decide_eq_true_iff] at h
    obtain ⟨⟨v0, rfl, k0⟩, kx⟩ := h
    simp only [zB2, zA1, zA0, zB9, zC9, zC8] at kx ⊢
    exact pc1024 _ _ k0 kx
  · cases h
theorem pc1062 (x : Nd) (hx : okN x) : PureCall Tryz.prog [0] 62 [encN x] (dRet (.bool (asksS x))) := by
  refine zD2 mixed fn1062 (Nat.le_of_ble_eq_true rfl) (Nat.lt_of_succ_le (Nat.le_of_ble_eq_true rfl)) (sfOk .nil) TbOk (lv := lv0) fun I F hI hF => ?_
  refine zD7 fun C hC => ?_
  generalize hgen0 : encN x = gen0
  cbv
  subst hgen0
  subst hC
  refine ⟨?_⟩
  simp (maxSteps := 3000000) only [hI, hF, std]
  simp only [smp, lookOk, lookRes, sfOf, sgOf, hOk, hRes, hOut, ↓reduceIte, Nat.reduceEqDiff, reduceCtorEq, zC2, zA2, zB6, zA5, zB4, zB5, zA4, zB3, zA3, zB2, zC1, zA1, zB1, zA0, zB0, zA9, zC6, zA6, zC5, zC0, zC4, zB8, zA7, zB7, zA8, zC9, zD1, zC8, zD0, zB9, zC3, zC7]
  simp [asksS, wIsp, wIsc]
  rfl
open Classical in
noncomputable def e1062 : Ent := ⟨62, fun | [d_x] => decide (isN d_x) | _ => false, fun | [d_x] => .bool (asksS (toN d_x)) | _ => .inil⟩
open Classical in
theorem ok1062 : EntOk Tryz.prog [0] e1062 := fun ds h => by
  unfold e1062 at h ⊢
  simp only at h ⊢
  split at h
  · rw [decide_eq_true_iff] at h
    obtain ⟨v0, rfl, k0⟩ := h
    simp only [zB2, zA1, zA0, zB9, zC9, zC8]
    exact pc1062 _ k0
  · cases h
end Go.Proofs.Sx

set_option linter.unusedVariables false
set_option linter.unusedSimpArgs false
set_option maxRecDepth 100000
namespace Go.Proofs.Sx
open Go Go.Proofs Go.Proofs.Am 
variable {gs : List Nat}

noncomputable def prims : Prims := fun f => if f = 43 then some (fun l => match l with | [.str a, .str b] => if a.size < 4294967281 then some (dRet (.bool (Lib.contains a.data.toList b.data.toList))) else none | _ => none)
  else if f = 159 then some (fun l => match l with | [.str a, .str b] => some (dRet (.int .i64 (Lib.compareBytes a.data.toList b.data.toList))) | _ => none) else none
theorem primsOk : PrimsOk Tryz.prog [0] prims := by
  intro f g ds p hf hp
  unfold prims at hf
  split at hf
  · rename_i h; subst h
    cases hf
    simp only at hp
    split at hp
    · split at hp
      · rename_i hs; cases hp; exact pc39 _ _ hs
      · cases hp
    · cases hp
  · split at hf
    · rename_i h; subst h
      cases hf
      simp only at hp
      split at hp
      · cases hp; exact pc85 _ _
      · cases hp
    · cases hf
theorem run4 : (runs Tryz.prog prims 100 100).pure 4 [] = some (dRet (.bool true)) := by kernel_rfl
theorem pc4 : PureCall Tryz.prog [0] 4 [] (dRet (.bool true)) := pure_of_run mixed primsOk 100 100 run4
noncomputable def e4 : Ent := ⟨4, fun | [] => true | _ => false, fun | [] => .bool true | _ => .inil⟩
theorem ok4 : EntOk Tryz.prog [0] e4 := fun ds h => by
  unfold e4 at h ⊢
  simp only at h ⊢
  split at h
  · exact pc4
  · cases h
end Go.Proofs.Sx
