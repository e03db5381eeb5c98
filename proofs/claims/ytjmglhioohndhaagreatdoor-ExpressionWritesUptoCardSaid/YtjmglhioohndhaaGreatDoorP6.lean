/- The evaluator: the value of a node. -/
import Derived.Test.YtjmglhioohndhaaGreatDoorP5
import Derived.Test.YtjmglhioohndhaaGreatDoorP3
import Derived.Test.YtjmglhioohndhaaGreatDoorP4

set_option linter.unusedVariables false
set_option linter.unusedSimpArgs false
set_option maxRecDepth 100000
namespace Go.Proofs.Sx
open Go Go.Proofs Go.Proofs.Am 
variable {gs : List Nat}

noncomputable def keptE (v : V) (a : Int) : Ev := if keptB v = true then .ok v else .error (a, 2)
theorem keptE_O (v : V) (a : Int) : keptO v a = evO (keptE v a) := by unfold keptO keptE; split <;> rfl
def recE (ev : Int → Ev) (om : Int → Bool) : List Int → List ByteArray → Except (Int × Int) (List ByteArray × List V)
  | [], _ => .ok ([], [])
  | a :: r, ns => if om a = true then recE ev om r ns.tail else match ev a with
    | .error e => .error e
    | .ok v => match recE ev om r ns.tail with
      | .error e => .error e
      | .ok (q, l) => .ok (ns.headD ⟨#[]⟩ :: q, v :: l)
def omitB (t : List Nd) (a : Int) : Bool := decide ((t.getD a.toNat default).k = 14)
noncomputable def nodeV (ev : Int → Ev) (ap : Nd → Int → Ev) (t : List Nd) (en : List B) (a : Int) : Ev :=
  let n := t.getD a.toNat default
  if 0 ≤ n.k ∧ n.k ≤ 6 then .ok (litV n)
  else if n.k = 7 then (match findB en n.tx with
    | some v => .ok v
    | none => .error (a, 22))
  else if n.k = 9 then (match recE ev (omitB t) n.args n.names with
    | .error e => .error e
    | .ok (q, l) => keptE (.mk 9 0 0 ⟨#[]⟩ (mkS q) (mkO l)) a)
  else if n.k = 10 then (match allE ev n.args with
    | .error e => .error e
    | .ok l => keptE (.mk 10 0 0 ⟨#[]⟩ none (mkO l)) a)
  else if n.k = 11 then (match allE ev n.args with
    | .error e => .error e
    | .ok l => keptE (.mk 12 0 0 ⟨#[]⟩ n.nm (mkO l)) a)
  else if n.k = 12 then (match ev (n.args.getD 0 0) with
    | .error e => .error e
    | .ok v => if v.k = 9 ∨ v.k = 12 then (match fieldV v n.tx with
      | some y => .ok y
      | none => .error (a, 22)) else .error (a, 17))
  else if n.k = 13 then (match allE ev n.args with
    | .error e => .error e
    | .ok l => if (l.getD 1 default).k = 2 then itemE (l.getD 0 default) (l.getD 1 default).n a else .error (a, 17))
  else match ap n a with
    | .error e => .error e
    | .ok v => keptE v a
structure NdOk (t : List Nd) (n : Nd) (D : Int → Prop) : Prop where
  k : 0 ≤ n.k ∧ n.k ≤ 13
  ar : n.k ≠ 9 → ∀ b ∈ n.args, D b
  k9 : n.k = 9 → n.args.length ≤ n.names.length ∧ ∀ b ∈ n.args, (0 ≤ b ∧ b < t.length) ∧ (omitB t b = false → D b)
  k12 : n.k = 12 → 0 < n.args.length
  k13 : n.k = 13 → 1 < n.args.length
open Classical in
noncomputable def apEnt (C : Prop) (f : Nat) (d n : DV) (r : Ev) : Ent := ⟨f, fun | [a, b] => decide (a = d ∧ b = n ∧ C) && (evO r).isOk | _ => false, fun | [_, _] => (evO r).val | _ => .inil⟩
open Classical in
noncomputable def apPnt (C : Prop) (f : Nat) (d n : DV) (r : Ev) : PEnt := ⟨f, fun | [a, b] => decide (a = d ∧ b = n ∧ C) && ((evO r).isPan && scalarD (evO r).val) | _ => false, fun | [_, _] => (evO r).val | _ => .inil⟩
open Classical in
theorem apEnt_ok {C : Prop} {f : Nat} {d n : DV} {r : Ev} (h : C → OcCall Tryz.prog [0] f [d, n] (evO r)) : EntOk Tryz.prog [0] (apEnt C f d n r) := fun ds hk => by
  unfold apEnt at hk ⊢
  simp only at hk ⊢
  split at hk
  · rw [Bool.and_eq_true, decide_eq_true_iff] at hk
    obtain ⟨⟨rfl, rfl, hc⟩, h3⟩ := hk
    exact oc_ok (h hc) h3
  · cases hk
open Classical in
theorem apPnt_ok {C : Prop} {f : Nat} {d n : DV} {r : Ev} (h : C → OcCall Tryz.prog [0] f [d, n] (evO r)) : PEntOk Tryz.prog [0] (apPnt C f d n r) := fun ds hk => by
  unfold apPnt at hk ⊢
  simp only at hk ⊢
  split at hk
  · rw [Bool.and_eq_true, decide_eq_true_iff, Bool.and_eq_true] at hk
    obtain ⟨⟨rfl, rfl, hc⟩, h3, h4⟩ := hk
    exact ⟨oc_pan (h hc) h3, h4⟩
  · cases hk
open Classical in
noncomputable def alEnt (C : Prop) (f : Nat) (t : Option (List Nd)) (en : Option (List B)) (o : Option (List Int)) (ev : Int → Ev) : Ent := ⟨f, fun | [a, b] => decide (isX t en a ∧ b = encIs o ∧ C) && (allO ev (o.getD [])).isOk | _ => false, fun | [_, _] => (allO ev (o.getD [])).val | _ => .inil⟩
open Classical in
noncomputable def alPnt (C : Prop) (f : Nat) (t : Option (List Nd)) (en : Option (List B)) (o : Option (List Int)) (ev : Int → Ev) : PEnt := ⟨f, fun | [a, b] => decide (isX t en a ∧ b = encIs o ∧ C) && ((allO ev (o.getD [])).isPan && scalarD (allO ev (o.getD [])).val) | _ => false, fun | [_, _] => (allO ev (o.getD [])).val | _ => .inil⟩
open Classical in
theorem alEnt_ok {C : Prop} {x : Evx} {D : Int → Prop} {ev : Int → Ev} {o : Option (List Int)} (hx : okE x) (h : CtE 50 x.t x.en D ev) (ho : okIs o) (hN : C → ∀ a ∈ o.getD [], D a) : EntOk Tryz.prog [0] (alEnt C 73 x.t x.en o ev) := fun ds hk => by
  unfold alEnt at hk ⊢
  simp only at hk ⊢
  split at hk
  · rw [Bool.and_eq_true, decide_eq_true_iff] at hk
    obtain ⟨⟨⟨z, rfl⟩, rfl, hc⟩, h3⟩ := hk
    exact oc_ok (pc78n ⟨x.t, x.en, z⟩ D ev hx h o ho (hN hc)) h3
  · cases hk
open Classical in
theorem alPnt_ok {C : Prop} {x : Evx} {D : Int → Prop} {ev : Int → Ev} {o : Option (List Int)} (hx : okE x) (h : CtE 50 x.t x.en D ev) (ho : okIs o) (hN : C → ∀ a ∈ o.getD [], D a) : PEntOk Tryz.prog [0] (alPnt C 73 x.t x.en o ev) := fun ds hk => by
  unfold alPnt at hk ⊢
  simp only at hk ⊢
  split at hk
  · rw [Bool.and_eq_true, decide_eq_true_iff, Bool.and_eq_true] at hk
    obtain ⟨⟨⟨z, rfl⟩, rfl, hc⟩, h3, h4⟩ := hk
    exact ⟨oc_pan (pc78n ⟨x.t, x.en, z⟩ D ev hx h o ho (hN hc)) h3, h4⟩
  · cases hk
theorem evO_isOk (v : V) : (evO (.ok v)).isOk = true := rfl
theorem zK4 (v : V) : (evO (.ok v)).isPan = false := rfl
theorem evO_v (v : V) : (evO (.ok v)).val = v.enc := rfl
theorem zK5 (p : Int × Int) : (evO (.error p)).isOk = false := rfl
theorem zJ6 (p : Int × Int) : (evO (.error p)).isPan = true := rfl
theorem evO_v' (p : Int × Int) : (evO (.error p)).val = flt p.1 p.2 := rfl
theorem idxS_lt : ∀ (l : List ByteArray) (s : ByteArray), idxS l s < l.length
  | [], _ => by simp [idxS]
  | x :: l, s => by have := idxS_lt l s; simp only [idxS, List.length_cons]; split <;> (try split) <;> omega
theorem findB_ok {o : Option (List B)} {s : ByteArray} {v : V} (h : okBs o) (hf : findB (o.getD []) s = some v) : v.ok := by
  unfold findB at hf
  split at hf
  · cases hf
  · have hlt := idxG_lt (fun b : B => decide (b.nm = s)) (o.getD [])
    cases hf
    generalize idxG (fun b : B => decide (b.nm = s)) (o.getD []) = m at *
    have hm : 0 ≤ m := by omega
    have hlt2 : m.toNat < (o.getD []).length := (Int.toNat_lt hm).2 hlt
    have k := okBs_get h hlt2
    exact k.2
theorem allO_ok {ev : Int → Ev} {l : List Int} {r : List V} (h : allE ev l = .ok r) : allO ev l = .ok (encO (mkO r)) := by unfold allO; rw [h]
theorem allO_er {ev : Int → Ev} {l : List Int} {p : Int × Int} (h : allE ev l = .error p) : allO ev l = .pan (flt p.1 p.2) := by unfold allO; rw [h]
theorem okS0_none : okS0 none := ⟨by decide, fun x hx => by cases hx⟩
theorem okV_mk {k n e : Int} {s : ByteArray} {nm : Option (List ByteArray)} {it : Option (List V)} (hs : s.size ≤ 1048576) (hn : okS0 nm) (hi : okO it) : (V.mk k n e s nm it).ok := by
  simp only [V.ok]; exact ⟨hs, hn.1, hn.2, hi⟩
theorem agg_V (k n e : Int) (s : ByteArray) (nm : Option (List ByteArray)) (it : Option (List V)) : DV.agg [.int .i64 k, .int .i64 n, .int .i64 e, .str s, encS nm, encO it] = (V.mk k n e s nm it).enc := by rw [V.enc]
theorem agg_Vn (k n e : Int) (s : ByteArray) (it : Option (List V)) : DV.agg [.int .i64 k, .int .i64 n, .int .i64 e, .str s, .snil, encO it] = (V.mk k n e s none it).enc := by rw [V.enc]; rfl
def consE (q : List ByteArray) (l : List V) : Except (Int × Int) (List ByteArray × List V) → Except (Int × Int) (List ByteArray × List V)
  | .error e => .error e
  | .ok (q', l') => .ok (q ++ q', l ++ l')
theorem recE_om {ev : Int → Ev} {om : Int → Bool} {l : List Int} {ns : List ByteArray} {i : Nat} (h : i < l.length) (ho : om (l.getD i 0) = true) : recE ev om (l.drop i) (ns.drop i) = recE ev om (l.drop (i + 1)) (ns.drop (i + 1)) := by
  rw [List.drop_eq_getElem_cons h, recE]
  rw [List.getD_eq_getElem?_getD, List.getElem?_eq_getElem h, Option.getD_some] at ho
  rw [if_pos ho, List.tail_drop]
theorem recE_er {ev : Int → Ev} {om : Int → Bool} {l : List Int} {ns : List ByteArray} {i : Nat} {p : Int × Int} (h : i < l.length) (ho : om (l.getD i 0) = false) (he : ev (l.getD i 0) = .error p) : recE ev om (l.drop i) (ns.drop i) = .error p := by
  rw [List.drop_eq_getElem_cons h, recE]
  rw [List.getD_eq_getElem?_getD, List.getElem?_eq_getElem h, Option.getD_some] at ho he
  rw [if_neg (by rw [ho]; decide), he]
theorem recE_ok {ev : Int → Ev} {om : Int → Bool} {l : List Int} {ns : List ByteArray} {i : Nat} {v : V} (h : i < l.length) (hn : i < ns.length) (ho : om (l.getD i 0) = false) (he : ev (l.getD i 0) = .ok v) : recE ev om (l.drop i) (ns.drop i) = consE [ns.getD i ⟨#[]⟩] [v] (recE ev om (l.drop (i + 1)) (ns.drop (i + 1))) := by
  rw [List.drop_eq_getElem_cons h, List.drop_eq_getElem_cons hn, recE]
  rw [List.getD_eq_getElem?_getD, List.getElem?_eq_getElem h, Option.getD_some] at ho he
  rw [if_neg (by rw [ho]; decide), he, List.tail_cons, List.headD_cons]
  rw [List.getD_eq_getElem?_getD, List.getElem?_eq_getElem hn, Option.getD_some]
  cases recE ev om (l.drop (i + 1)) (ns.drop (i + 1)) <;> rfl
theorem consE_nil (r : Except (Int × Int) (List ByteArray × List V)) : consE [] [] r = r := by
  cases r <;> simp [consE]
theorem consE_cons (q q' : List ByteArray) (l l' : List V) (r : Except (Int × Int) (List ByteArray × List V)) : consE q l (consE q' l' r) = consE (q ++ q') (l ++ l') r := by
  cases r <;> simp [consE]
theorem rowFm {α : Type} (f : α → DV) (l : List α) (h : l.length ≤ 1048576) : rowF (l.map (AV.d ∘ f)) 0 l.length = .sim (l.map f) ∧ rowOkF (l.map (AV.d ∘ f)) 0 l.length = true := by
  constructor
  · rw [← List.map_map, rowF_map, List.drop_zero, List.take_of_length_le (by simp)]
  · unfold rowOkF big
    simp [List.all_eq_true]
    refine ⟨by omega, fun x hx => ?_⟩
    obtain ⟨d, _, rfl⟩ := List.mem_map.1 (List.mem_of_mem_take hx); rfl
def recA : Bool → Nat → AV
  | false, _ => .agg [.d (.int .i64 9), .d (.int .i64 0), .d (.int .i64 0), .d (.str ⟨#[]⟩), .d .snil, .d .snil]
  | true, k => .agg [.d (.int .i64 9), .d (.int .i64 0), .d (.int .i64 0), .d (.str ⟨#[]⟩), .slc 5 1 0 k, .slc 6 6 0 k]
def TbP55T : BT := (.node 2000072 ⟨none, .other, [], none⟩ .nil (.node 3000050 ⟨none, .other, [], none⟩ .nil (.node 3000071 ⟨none, .other, [], none⟩ .nil (.node 3000072 ⟨none, .other, [], none⟩ .nil (.node 3000073 ⟨none, .other, [], none⟩ .nil (.node 3000075 ⟨none, .other, [], none⟩ .nil (.node 3000076 ⟨none, .other, [], none⟩ .nil (.node 7000072 ⟨none, .other, [], none⟩ .nil .nil))))))))
def TbP55 : Nat → Option TRow := orT TbP55T.get Tb
theorem TbP55Ok : TabOk Tryz.prog TbP55 := tabOk_or (zI2 (by kernel_rfl)) TbOk
def lv53 : Nat → List Nat × List Nat
  | 14 => ([2, 4, 5, 10, 52, 53, 54, 74, 81], [0, 1, 2, 500004, 10074, 10081])
  | _ => ([], [])
set_option maxHeartbeats 8000000 in
theorem pc53n (x : Evx) (a : Int) (D : Int → Prop) (ev : Int → Ev) (ap : Nd → Int → Ev) (hx : okE x) (h53 : CtE 50 x.t x.en D ev) (ha : 0 ≤ a ∧ a < (x.t.getD []).length) (hn : NdOk (x.t.getD []) ((x.t.getD []).getD a.toNat default) D)
    (h81 : ((x.t.getD []).getD a.toNat default).k = 8 → OcCall Tryz.prog [0] 76 [encE ⟨x.t, x.en, a⟩, encN ((x.t.getD []).getD a.toNat default)] (evO (ap ((x.t.getD []).getD a.toNat default) a)) ∧ ∀ v, ap ((x.t.getD []).getD a.toNat default) a = .ok v → v.ok) :
    OcCall Tryz.prog [0] 50 [encE x, .int .i64 a] (evO (nodeV ev ap (x.t.getD []) (x.en.getD []) a)) := by
  generalize hr : evO (nodeV ev ap (x.t.getD []) (x.en.getD []) a) = r
  obtain ⟨n, hnd⟩ : ∃ n, n = (x.t.getD []).getD a.toNat default := ⟨_, rfl⟩
  have hlt := (Int.toNat_lt ha.1).2 ha.2
  have g1 := zI4 (x.t.getD []) a.toNat hlt
  have hok : okN n := by rw [hnd]; exact okT_get hx.1 hlt
  have hen := hx.2
  have hx' : okE ⟨x.t, x.en, a⟩ := hx
  have hn0 : okS0 n.nm := hok.2.1
  have e3 : n.ar.getD [] = n.args := rfl
  rw [← hnd] at hn h81 g1
  unfold nodeV at hr
  rw [← hnd] at hr
  have ok53' := evEnt_ok h53
  have pk53' := evPnt_ok h53
  have ok81' := apEnt_ok (C := n.k = 8) (fun c => (h81 c).1)
  have pk81' := apPnt_ok (C := n.k = 8) (fun c => (h81 c).1)
  have ok78' := alEnt_ok hx h53 (o := n.ar) hok.2.2 (C := n.k ≠ 9) hn.ar
  have pk78' := alPnt_ok hx h53 (o := n.ar) hok.2.2 (C := n.k ≠ 9) hn.ar
  refine oc_of_tree mixed fn53 (Nat.le_of_ble_eq_true rfl) (Nat.lt_of_succ_le (Nat.le_of_ble_eq_true rfl)) (sfOkP (.cons ok74 (.cons ok75 (.cons ok76 (.cons ok35 (.cons ok77 (.cons ok78' (.cons ok54 (.cons ok53' (.cons ok79 (.cons ok80 (.cons ok81' .nil))))))))))) (.cons pk76 (.cons pk77 (.cons pk78' (.cons pk53' (.cons pk80 (.cons pk81' .nil))))))) TbP55Ok (lv := lv53) fun I F hI hF => ?_
  refine zE2 fun C hC => ?_
  generalize Q0 : encE x = Z0
  generalize Q1 : DV.int .i64 a = Z1
  generalize Q2 : r = Z2
  cbv
  subst Q0 Q1 Q2
  subst hC
  refine ⟨?_⟩
  simp (maxSteps:=9999999) only [hI, hF, std]
  simp only [smp, smo]
  generalize hL : Sat Tryz.prog [0] _ (Tree.loop _ _ _ _ _ _ _) = L
  simp only [smp, smo, lookPn, lookPd, sfOfP, lookOk, lookRes, sfOf, ↓reduceIte, Nat.reduceEqDiff, reduceCtorEq, qA, qD, qB, qC, e74, e75, e76, p76, e35, e77, p77, e54, e79, e80, p80, evEnt, evPnt, alEnt, alPnt, apEnt, apPnt, g1, agg_encE, tupD, List.getD_cons_zero, List.getD_cons_succ, keptE_O]
  have hc : (0 ≤ n.k ∧ n.k ≤ 6) ∨ n.k = 7 ∨ n.k = 8 ∨ n.k = 9 ∨ n.k = 10 ∨ n.k = 11 ∨ n.k = 12 ∨ n.k = 13 := by have := hn.k; omega
  rcases hc with h | h | h | h | h | h | h | h
  · rw [if_pos h] at hr
    simp only [decide_eq_true h]
    simp [- List.getD_eq_getElem?_getD, - Subtype.exists, - Prod.exists, - Bool.exists_bool, ha, hok, qA, qD, qB]
    exact hr.symm
  · have h6 : ¬ (0 ≤ n.k ∧ n.k ≤ 6) := by omega
    rw [if_neg h6] at hr
    simp only [h, reduceIte, reduceCtorEq, Int.reduceEq, Nd.args] at hr
    simp only [decide_eq_false h6, h]
    simp [- List.getD_eq_getElem?_getD, - Subtype.exists, - Prod.exists, - Bool.exists_bool, ha, hok, qA, qD, qB, qC, hen]
    cases hf : findB (x.en.getD []) n.tx with
    | none => rw [hf] at hr; simp [qD, hx']; exact hr.symm
    | some v => rw [hf] at hr; simp [qD, hx']; exact ⟨findB_ok hen hf, hr.symm⟩
  · have h6 : ¬ (0 ≤ n.k ∧ n.k ≤ 6) := by omega
    rw [if_neg h6] at hr
    simp only [h, reduceIte, reduceCtorEq, Int.reduceEq, Nd.args] at hr
    simp only [decide_eq_false h6, h]
    have h2 := (h81 h).2
    cases hp : ap n a with
    | error p =>
      rw [hp] at hr
      simp only [hp, zK5, zJ6, evO_v', zD6]
      simp [- List.getD_eq_getElem?_getD, - Subtype.exists, - Prod.exists, - Bool.exists_bool, ha, hok, qA, qD, qB, qC, hen, hx']
      exact hr.symm
    | ok v =>
      have hv := h2 v hp
      rw [hp] at hr
      simp only [hp, evO_isOk, zK4, evO_v, zB2, zB3] at hr ⊢
      unfold keptE at hr ⊢
      by_cases hkb : keptB v = true
      · rw [if_pos hkb] at hr
        simp only [if_pos hkb, evO_isOk, zK4, evO_v, qA]
        simp [- List.getD_eq_getElem?_getD, - Subtype.exists, - Prod.exists, - Bool.exists_bool, ha, hok, qA, qD, qB, qC, hen, hx', hv]
        exact ⟨⟨rfl, rfl, rfl, rfl, zA9 _, zA8 _⟩, hr.symm⟩
      · rw [if_neg hkb] at hr
        simp only [if_neg hkb, zK5, zJ6, evO_v', qA, zD6]
        simp [- List.getD_eq_getElem?_getD, - Subtype.exists, - Prod.exists, - Bool.exists_bool, ha, hok, qA, qD, qB, qC, hen, hx', hv]
        exact hr.symm
  · have h6 : ¬ (0 ≤ n.k ∧ n.k ≤ 6) := by omega
    rw [if_neg h6] at hr
    simp only [h, reduceIte, reduceCtorEq, Int.reduceEq] at hr
    simp only [decide_eq_false h6, h]
    simp [- List.getD_eq_getElem?_getD, - Subtype.exists, - Prod.exists, - Bool.exists_bool, ha, hok, qA, qD, qB, qC, hen, hx']
    obtain ⟨hk1, hk2⟩ := hn.k9 h
    have hil : (n.ar.getD []).length ≤ 1048576 := hok.2.2
    subst hL
    refine zE1 (kend := fun I => kEndF I TbP55 [.cell 4 25]) hI hF (sfOkP (.cons ok74 (.cons ok75 (.cons ok76 (.cons ok35 (.cons ok77 (.cons ok78' (.cons ok54 (.cons ok53' (.cons ok79 (.cons ok80 (.cons ok81' .nil))))))))))) (.cons pk76 (.cons pk77 (.cons pk78' (.cons pk53' (.cons pk80 (.cons pk81' .nil))))))) TbP55Ok (by exact fun Bk e s h => endO TbP55Ok Bk e s h) (lv := lv53) 0 (fun i : {i : Bool × Nat × List ByteArray × List V // i.2.1 ≤ (n.ar.getD []).length ∧ (i.1 = true ↔ i.2.2.1 ≠ []) ∧ i.2.2.1.length = i.2.2.2.length ∧ i.2.2.1.length ≤ i.2.1 ∧ recE ev (omitB (x.t.getD [])) n.args n.names = consE i.2.2.1 i.2.2.2 (recE ev (omitB (x.t.getD [])) (n.args.drop i.2.1) (n.names.drop i.2.1)) ∧ (∀ s ∈ i.2.2.1, s.size ≤ 1048576) ∧ ∀ v ∈ i.2.2.2, v.ok} => [.loc 0 3 0 0, .loc 1 6 0 0, .loc 2 5 0 0, .loc 4 6 0 0, .d (encIs n.ar), .d (.int .i64 ((n.ar.getD []).length : Int)), .d (.int .i64 (i.1.2.1 : Int)), accU 5 1 i.1.1 i.1.2.2.1.length, accU 6 6 i.1.1 i.1.2.2.1.length]) (fun i : {i : Bool × Nat × List ByteArray × List V // i.2.1 ≤ (n.ar.getD []).length ∧ (i.1 = true ↔ i.2.2.1 ≠ []) ∧ i.2.2.1.length = i.2.2.2.length ∧ i.2.2.1.length ≤ i.2.1 ∧ recE ev (omitB (x.t.getD [])) n.args n.names = consE i.2.2.1 i.2.2.2 (recE ev (omitB (x.t.getD [])) (n.args.drop i.2.1) (n.names.drop i.2.1)) ∧ (∀ s ∈ i.2.2.1, s.size ≤ 1048576) ∧ ∀ v ∈ i.2.2.2, v.ok} => [(0, some ⟨[.agg [.d (encT x.t), .d (encBs x.en), .d (.int .i64 a)]], 3, 78, true, true⟩), (1, some ⟨[.d (.agg [.int .i64 0, .int .i64 0, .int .i64 0, .str ⟨#[]⟩, .snil, .snil])], 6, 25, true, true⟩), (2, some ⟨[.d (encN n)], 5, 54, true, true⟩), (4, some ⟨[recA i.1.1 i.1.2.2.1.length], 6, 25, true, true⟩), (5, accB 1 9 (i.1.2.2.1.map (AV.d ∘ DV.str)) i.1.1), (6, accB 6 25 (i.1.2.2.2.map (AV.d ∘ V.enc)) i.1.1)]) (fun i : {i : Bool × Nat × List ByteArray × List V // i.2.1 ≤ (n.ar.getD []).length ∧ (i.1 = true ↔ i.2.2.1 ≠ []) ∧ i.2.2.1.length = i.2.2.2.length ∧ i.2.2.1.length ≤ i.2.1 ∧ recE ev (omitB (x.t.getD [])) n.args n.names = consE i.2.2.1 i.2.2.2 (recE ev (omitB (x.t.getD [])) (n.args.drop i.2.1) (n.names.drop i.2.1)) ∧ (∀ s ∈ i.2.2.1, s.size ≤ 1048576) ∧ ∀ v ∈ i.2.2.2, v.ok} => (n.ar.getD []).length - i.1.2.1) [0, 1, 2, 500004, 10074, 10081] (⟨(false, 0, [], []), by simp, by simp, by simp, by simp, (consE_nil _).symm, by simp, by simp⟩ : {i : Bool × Nat × List ByteArray × List V // i.2.1 ≤ (n.ar.getD []).length ∧ (i.1 = true ↔ i.2.2.1 ≠ []) ∧ i.2.2.1.length = i.2.2.2.length ∧ i.2.2.1.length ≤ i.2.1 ∧ recE ev (omitB (x.t.getD [])) n.args n.names = consE i.2.2.1 i.2.2.2 (recE ev (omitB (x.t.getD [])) (n.args.drop i.2.1) (n.names.drop i.2.1)) ∧ (∀ s ∈ i.2.2.1, s.size ≤ 1048576) ∧ ∀ v ∈ i.2.2.2, v.ok}) (by rfl) (by rfl) ?_ ?_ fun i => ?_
    · simp only [qA, qD, qB, g1, smp, smo, lookPn, lookPd, sfOfP, lookOk, lookRes, sfOf, ↓reduceIte, Nat.reduceEqDiff, reduceCtorEq, List.length_map]; rfl
    · simp only [qA, qD, qB, g1, smp, smo, lookPn, lookPd, sfOfP, lookOk, lookRes, sfOf, ↓reduceIte, Nat.reduceEqDiff, reduceCtorEq]; rfl
    obtain ⟨⟨b, i, q, l⟩, o1, o2, o3, o4, o5, o6, o7⟩ := i
    have hi1 : i ≤ (n.ar.getD []).length := o1
    have hi2 : b = true ↔ q ≠ [] := o2
    have hi3 : q.length = l.length := o3
    have hi4 : q.length ≤ i := o4
    have hi5 : recE ev (omitB (x.t.getD [])) n.args n.names = consE q l (recE ev (omitB (x.t.getD [])) (n.args.drop i) (n.names.drop i)) := o5
    have hi6 : ∀ s ∈ q, s.size ≤ 1048576 := o6
    have hi7 : ∀ v ∈ l, v.ok := o7
    have w3 := zE6 (n := i) (by omega)
    cases b with
    | false =>
      rw [show accU 5 1 false q.length = .undef from rfl, show accU 6 6 false q.length = .undef from rfl, show recA false q.length = .agg [.d (.int .i64 9), .d (.int .i64 0), .d (.int .i64 0), .d (.str ⟨#[]⟩), .d .snil, .d .snil] from rfl, show accB 1 9 (q.map (AV.d ∘ DV.str)) false = none from rfl, show accB 6 25 (l.map (AV.d ∘ V.enc)) false = none from rfl]
      have hq : q = [] := by have := mt hi2.2; simpa using this
      refine zE2 fun C hC => ?_
      generalize Q0 : encT x.t = Z0
      generalize Q1 : encBs x.en = Z1
      generalize Q2 : encIs n.ar = Z2
      generalize Q3 : encN n = Z3
      generalize Q4 : DV.int .i64 a = Z4
      generalize Q5 : r = Z5
      generalize Q6 : DV.int .i64 ((n.ar.getD []).length : Int) = Z6
      generalize Q7 : DV.int .i64 (i : Int) = Z7
      cbv
      subst Q0 Q1 Q2 Q3 Q4 Q5 Q6 Q7
      subst hC
      refine ⟨?_⟩
      simp (maxSteps:=9999999) only [hI, hF, std]
      by_cases hlt2 : i < (n.ar.getD []).length
      · have g2 := zI0 _ _ hlt2
        have hm := hk2 _ (memI (l := n.args) hlt2)
        have g3 := zI4 (x.t.getD []) ((n.ar.getD []).getD i 0).toNat ((Int.toNat_lt hm.1.1).2 hm.1.2)
        have g4 := zJ7 (n.nm.getD []) i (by show i < n.names.length; have : n.args.length = (n.ar.getD []).length := rfl; omega)
        have g5 : i < (n.nm.getD []).length := by show i < n.names.length; have : n.args.length = (n.ar.getD []).length := rfl; omega
        simp only [smp, smo, lookPn, lookPd, sfOfP, lookOk, lookRes, sfOf, ↓reduceIte, Nat.reduceEqDiff, reduceCtorEq, qA, qD, qB, qC, e74, e75, e76, p76, e35, e77, p77, e54, e79, e80, p80, evEnt, evPnt, alEnt, alPnt, apEnt, apPnt, g2, g3, g4, zF5, agg_encE]
        simp [- List.getD_eq_getElem?_getD, - Subtype.exists, - Prod.exists, - Bool.exists_bool, hlt2, w3, qA, qD, qB, qC, hm.1.1, hm.1.2, isX_enc, g4, g5, cells_str]
        have hlt3 : i < n.args.length := hlt2
        have hns : i < n.names.length := by omega
        refine ⟨hm.1, fun ho => ?_, fun ho => ?_⟩
        · have ho2 : omitB (x.t.getD []) (n.args.getD i 0) = false := decide_eq_false ho
          have hd : D ((n.ar.getD []).getD i 0) := hm.2 ho2
          cases he : ev ((n.ar.getD []).getD i 0) with
          | error p =>
            have h5 := hi5
            rw [recE_er hlt3 ho2 he] at h5
            rw [h5] at hr
            simp [- List.getD_eq_getElem?_getD, - Subtype.exists, - Prod.exists, - Bool.exists_bool, qD, hd, zK5, zJ6, evO_v', zD6]
            exact hr.symm
          | ok v =>
            have h5 := hi5
            rw [recE_ok hlt3 hns ho2 he, consE_cons] at h5
            simp [- List.getD_eq_getElem?_getD, - Subtype.exists, - Prod.exists, - Bool.exists_bool, qA, qD, hd, evO_isOk, zK4, evO_v]
            have q1 : i + 1 ≤ (n.ar.getD []).length := by omega
            have q2 : true = true ↔ [n.names.getD i ⟨#[]⟩] ≠ [] := by simp
            have q3 : [n.names.getD i ⟨#[]⟩].length ≤ i + 1 := by simp
            subst hq
            have hl0 : l = [] := List.length_eq_zero_iff.1 hi3.symm
            subst hl0
            refine ⟨⟨rfl, rfl, rfl, rfl, zA9 v.nm, zA8 v.it⟩, ⟨⟨true, i + 1, [n.names.getD i ⟨#[]⟩], [v]⟩, q1, q2, rfl, q3, h5, fun s hs => ?_, fun w hw => ?_⟩, by show (n.ar.getD []).length - (i + 1) < (n.ar.getD []).length - i; omega, ⟨rfl, rfl, rfl⟩, rfl, rfl, rfl⟩
            · rw [List.mem_singleton.1 hs]; exact hn0.2 _ (by simp [List.getD, List.getElem?_eq_getElem hns]; exact List.getElem_mem hns)
            · rw [List.mem_singleton.1 hw]; exact h53.ok _ _ hd he
        · have ho2 : omitB (x.t.getD []) (n.args.getD i 0) = true := decide_eq_true ho
          have h5 := hi5
          rw [recE_om hlt3 ho2] at h5
          have q1 : i + 1 ≤ (n.ar.getD []).length := by omega
          have q3 : q.length ≤ i + 1 := by omega
          exact ⟨⟨⟨false, i + 1, q, l⟩, q1, hi2, hi3, q3, h5, hi6, hi7⟩, by show (n.ar.getD []).length - (i + 1) < (n.ar.getD []).length - i; omega, ⟨rfl, rfl, rfl⟩, rfl, rfl, rfl⟩
      · simp only [smp, smo, lookPn, lookPd, sfOfP, lookOk, lookRes, sfOf, ↓reduceIte, Nat.reduceEqDiff, reduceCtorEq, qA, qD, qB, qC, e74, e75, e76, p76, e35, e77, p77, e54, e79, e80, p80, evEnt, evPnt, alEnt, alPnt, apEnt, apPnt, agg_encE]
        simp [- List.getD_eq_getElem?_getD, - Subtype.exists, - Prod.exists, - Bool.exists_bool, hlt2, qA, qD, qB, qC, isX_enc]
        have h9 : DV.agg [.int .i64 9, .int .i64 0, .int .i64 0, .str ⟨#[]⟩, .snil, .snil] = (V.mk 9 0 0 ⟨#[]⟩ none none).enc := by simp [V.enc, encS, encO]
        have hv : (V.mk 9 0 0 ⟨#[]⟩ none none).ok := okV_mk (by decide) okS0_none trivial
        have h5 := hi5
        rw [List.drop_of_length_le (by show (n.ar.getD []).length ≤ i; omega), recE] at h5
        subst hq
        have hl0 : l = [] := List.length_eq_zero_iff.1 hi3.symm
        subst hl0
        rw [h5] at hr
        simp only [consE, List.nil_append, mkS, mkO, reduceIte] at hr
        simp only [h9, zB2, zB3, keptE_O]
        unfold keptE at hr ⊢
        by_cases hkb : keptB (V.mk 9 0 0 ⟨#[]⟩ none none) = true
        · rw [if_pos hkb] at hr
          simp only [if_pos hkb, evO_isOk, zK4, evO_v, qA]
          simp [- List.getD_eq_getElem?_getD, - Subtype.exists, - Prod.exists, - Bool.exists_bool, qA, qD, hx', hv]
          exact ⟨⟨rfl, rfl, rfl, rfl, rfl, rfl⟩, hr.symm⟩
        · rw [if_neg hkb] at hr
          simp only [if_neg hkb, zK5, zJ6, evO_v', qA, zD6]
          simp [- List.getD_eq_getElem?_getD, - Subtype.exists, - Prod.exists, - Bool.exists_bool, qA, qD, hx', hv]
          exact hr.symm
    | true =>
      rw [show accU 5 1 true q.length = .slc 5 1 0 q.length from rfl, show accU 6 6 true q.length = .slc 6 6 0 q.length from rfl, show recA true q.length = .agg [.d (.int .i64 9), .d (.int .i64 0), .d (.int .i64 0), .d (.str ⟨#[]⟩), .slc 5 1 0 q.length, .slc 6 6 0 q.length] from rfl, show accB 1 9 (q.map (AV.d ∘ DV.str)) true = some ⟨q.map (AV.d ∘ DV.str), 1, 9, true, true⟩ from rfl, show accB 6 25 (l.map (AV.d ∘ V.enc)) true = some ⟨l.map (AV.d ∘ V.enc), 6, 25, true, true⟩ from rfl]
      refine zE2 fun C hC => ?_
      generalize Q0 : encT x.t = Z0
      generalize Q1 : encBs x.en = Z1
      generalize Q2 : encIs n.ar = Z2
      generalize Q3 : encN n = Z3
      generalize Q4 : DV.int .i64 a = Z4
      generalize Q5 : r = Z5
      generalize Q6 : DV.int .i64 ((n.ar.getD []).length : Int) = Z6
      generalize Q7 : DV.int .i64 (i : Int) = Z7
      generalize Q8 : q.map (AV.d ∘ DV.str) = Z8
      generalize Q9 : l.map (AV.d ∘ V.enc) = Z9
      generalize Q10 : q.length = Z10
      cbv
      subst Q0 Q1 Q2 Q3 Q4 Q5 Q6 Q7 Q8 Q9 Q10
      subst hC
      refine ⟨?_⟩
      simp (maxSteps:=9999999) only [hI, hF, std]
      by_cases hlt2 : i < (n.ar.getD []).length
      · have g2 := zI0 _ _ hlt2
        have hm := hk2 _ (memI (l := n.args) hlt2)
        have g3 := zI4 (x.t.getD []) ((n.ar.getD []).getD i 0).toNat ((Int.toNat_lt hm.1.1).2 hm.1.2)
        have hlt3 : i < n.args.length := hlt2
        have hns : i < n.names.length := by omega
        have g4 := zJ7 (n.nm.getD []) i hns
        have g5 : i < (n.nm.getD []).length := hns
        simp only [smp, smo, lookPn, lookPd, sfOfP, lookOk, lookRes, sfOf, ↓reduceIte, Nat.reduceEqDiff, reduceCtorEq, qA, qD, qB, qC, e74, e75, e76, p76, e35, e77, p77, e54, e79, e80, p80, evEnt, evPnt, alEnt, alPnt, apEnt, apPnt, g2, g3, g4, zF5, agg_encE]
        simp [- List.getD_eq_getElem?_getD, - Subtype.exists, - Prod.exists, - Bool.exists_bool, hlt2, w3, qA, qD, qB, qC, hm.1.1, hm.1.2, isX_enc, g4, g5, cells_str]
        refine ⟨hm.1, fun ho => ?_, fun ho => ?_⟩
        · have ho2 : omitB (x.t.getD []) (n.args.getD i 0) = false := decide_eq_false ho
          have hd : D ((n.ar.getD []).getD i 0) := hm.2 ho2
          refine ⟨⟨by rw [← List.length.eq_def]; simp, by omega⟩, ?_⟩
          cases he : ev ((n.ar.getD []).getD i 0) with
          | error p =>
            have h5 := hi5
            rw [recE_er hlt3 ho2 he] at h5
            rw [h5] at hr
            refine ⟨fun _ _ _ => ⟨⟨by rw [← List.length.eq_def]; simp, by omega⟩, ⟨hd, rfl, zD6 _ _⟩, hr.symm⟩, fun hc => ?_⟩
            exact absurd (hc hd rfl) (by rw [evO_v', zD6]; decide)
          | ok v =>
            have h5 := hi5
            rw [recE_ok hlt3 hns ho2 he, consE_cons] at h5
            refine ⟨fun _ hc _ => (by cases hc), fun _ => ⟨⟨hd, rfl⟩, ?_⟩⟩
            have q1 : i + 1 ≤ (n.ar.getD []).length := by omega
            have q2 : true = true ↔ q ++ [n.names.getD i ⟨#[]⟩] ≠ [] := by simp
            have q3 : (q ++ [n.names.getD i ⟨#[]⟩]).length = (l ++ [v]).length := by simp [hi3]
            have q4 : (q ++ [n.names.getD i ⟨#[]⟩]).length ≤ i + 1 := by simp; omega
            have q5 : (q ++ [n.names.getD i ⟨#[]⟩]).length = q.length + 1 := by simp
            rw [evO_v, zA0]
            refine ⟨⟨⟨zA1 v, rfl⟩, rfl, rfl, rfl, rfl, zA9 v.nm, zA8 v.it⟩, ⟨by rw [← List.length.eq_def]; simp [hi3], by omega⟩, ⟨⟨fun y hy => ?_, rfl⟩, fun y hy => ?_, rfl⟩, ⟨⟨true, i + 1, q ++ [n.names.getD i ⟨#[]⟩], l ++ [v]⟩, q1, q2, q3, q4, h5, fun s hs => ?_, fun w hw => ?_⟩, by show (n.ar.getD []).length - (i + 1) < (n.ar.getD []).length - i; omega, ⟨rfl, ?_, ?_⟩, ?_, ?_, ?_⟩
            · obtain ⟨d, _, rfl⟩ := List.mem_map.1 (List.mem_of_mem_take hy); rfl
            · obtain ⟨d, _, rfl⟩ := List.mem_map.1 (List.mem_of_mem_take hy); rfl
            · rcases List.mem_append.1 hs with hs | hs
              · exact hi6 s hs
              · rw [List.mem_singleton.1 hs]; exact hn0.2 _ (by simp [List.getD, List.getElem?_eq_getElem hns]; exact List.getElem_mem hns)
            · rcases List.mem_append.1 hw with hw | hw
              · exact hi7 w hw
              · rw [List.mem_singleton.1 hw]; exact h53.ok _ _ hd he
            · show _ = AV.slc 5 1 0 (q ++ [n.names.getD i ⟨#[]⟩]).length; rw [q5]
            · show _ = AV.slc 6 6 0 (q ++ [n.names.getD i ⟨#[]⟩]).length; rw [q5]
            · show _ = recA true (q ++ [n.names.getD i ⟨#[]⟩]).length; rw [q5]; rfl
            · show _ = accB 1 9 ((q ++ [n.names.getD i ⟨#[]⟩]).map (AV.d ∘ DV.str)) true
              rw [List.take_of_length_le (by simp), List.map_append]; rfl
            · show _ = accB 6 25 ((l ++ [v]).map (AV.d ∘ V.enc)) true
              rw [List.take_of_length_le (by simp [hi3]), List.map_append]; rfl
        · have ho2 : omitB (x.t.getD []) (n.args.getD i 0) = true := decide_eq_true ho
          have h5 := hi5
          rw [recE_om hlt3 ho2] at h5
          have q1 : i + 1 ≤ (n.ar.getD []).length := by omega
          have q3 : q.length ≤ i + 1 := by omega
          exact ⟨⟨fun _ _ => rfl, fun _ _ => rfl⟩, ⟨⟨true, i + 1, q, l⟩, q1, hi2, hi3, q3, h5, hi6, hi7⟩, by show (n.ar.getD []).length - (i + 1) < (n.ar.getD []).length - i; omega, ⟨rfl, rfl, rfl⟩, rfl, rfl, rfl⟩
      · simp only [smp, smo, lookPn, lookPd, sfOfP, lookOk, lookRes, sfOf, ↓reduceIte, Nat.reduceEqDiff, reduceCtorEq, qA, qD, qB, qC, e74, e75, e76, p76, e35, e77, p77, e54, e79, e80, p80, evEnt, evPnt, alEnt, alPnt, apEnt, apPnt, agg_encE]
        have hqn : q ≠ [] := hi2.1 rfl
        have hln : l ≠ [] := fun hc => hqn (List.length_eq_zero_iff.1 (by rw [hi3, hc]; rfl))
        have hqb : q.length ≤ 1048576 := by omega
        have f1 := rowFm DV.str q hqb
        have f2 : rowF (l.map (AV.d ∘ V.enc)) 0 q.length = .sim (l.map V.enc) := by rw [hi3]; exact (rowFm V.enc l (by omega)).1
        have f3 : rowOkF (l.map (AV.d ∘ V.enc)) 0 q.length = true := by rw [hi3]; exact (rowFm V.enc l (by omega)).2
        have f4 : rowOkF (l.map (AV.d ∘ V.enc)) 0 (l.map (AV.d ∘ V.enc)).length = true := by rw [List.length_map]; exact (rowFm V.enc l (by omega)).2
        have f5 : rowOkF (q.map (AV.d ∘ DV.str)) 0 (q.map (AV.d ∘ DV.str)).length = true := by rw [List.length_map]; exact f1.2
        have h9 : DV.agg [.int .i64 9, .int .i64 0, .int .i64 0, .str ⟨#[]⟩, .sim (q.map DV.str), .sim (l.map V.enc)] = (V.mk 9 0 0 ⟨#[]⟩ (some q) (some l)).enc := by simp [V.enc, encS, encO, encL_map]
        have hv : (V.mk 9 0 0 ⟨#[]⟩ (some q) (some l)).ok := okV_mk (by decide) ⟨hqb, hi6⟩ ⟨by omega, okL_all hi7⟩
        have h5 := hi5
        rw [List.drop_of_length_le (by show (n.ar.getD []).length ≤ i; omega), recE] at h5
        rw [h5] at hr
        simp only [consE, List.append_nil, mkS, mkO, if_neg hqn, if_neg hln] at hr
        simp only [f1.1, f1.2, f2, f3, f4, f5, h9, zB2, zB3, keptE_O]
        simp [- List.getD_eq_getElem?_getD, - Subtype.exists, - Prod.exists, - Bool.exists_bool, hlt2, qA, qD, qB, qC, isX_enc, f1.1, f1.2, f2, f3, f4, f5, h9, hx', hv]
        refine ⟨by rw [← List.length.eq_def]; exact f5, by rw [← List.length.eq_def]; exact f4, ?_⟩
        unfold keptE at hr ⊢
        by_cases hkb : keptB (V.mk 9 0 0 ⟨#[]⟩ (some q) (some l)) = true
        · rw [if_pos hkb] at hr
          simp only [if_pos hkb, evO_isOk, zK4, evO_v]
          refine ⟨fun hc => (by cases hc), fun _ => ⟨by trivial, ⟨⟨zA1 _, by rw [zA0]; rfl⟩, ?_⟩, ⟨zA1 _, by rw [zA0]; rfl⟩, hr.symm⟩⟩
          rw [zA0]
          exact ⟨rfl, rfl, rfl, rfl, zA9 (some q), zA8 (some l)⟩
        · rw [if_neg hkb] at hr
          simp only [if_neg hkb, zK5, zJ6, evO_v']
          exact ⟨fun _ _ => hr.symm, fun hc => absurd (hc (by trivial)) (by rw [zD6]; decide)⟩
  · have h6 : ¬ (0 ≤ n.k ∧ n.k ≤ 6) := by omega
    rw [if_neg h6] at hr
    simp only [h, reduceIte, reduceCtorEq, Int.reduceEq, Nd.args] at hr
    simp only [decide_eq_false h6, h]
    have h9 : ¬ n.k = 9 := by omega
    cases hp : allE ev (n.ar.getD []) with
    | error p =>
      rw [hp] at hr
      simp only [allO_er hp, qD, zD6]
      simp [- List.getD_eq_getElem?_getD, - Subtype.exists, - Prod.exists, - Bool.exists_bool, ha, hok, qA, qD, qB, qC, hen, hx', isX_enc, h9]
      exact hr.symm
    | ok l =>
      rw [hp] at hr
      have hv : (V.mk 10 0 0 ⟨#[]⟩ none (mkO l)).ok := okV_mk (by decide) okS0_none (okO_all (hn.ar h9) hok.2.2 h53.ok hp)
      simp only [allO_ok hp, qD, agg_Vn, zB2, zB3] at hr ⊢
      unfold keptE at hr ⊢
      by_cases hkb : keptB (V.mk 10 0 0 ⟨#[]⟩ none (mkO l)) = true
      · rw [if_pos hkb] at hr
        simp only [if_pos hkb, evO_isOk, zK4, evO_v, qA]
        simp [- List.getD_eq_getElem?_getD, - Subtype.exists, - Prod.exists, - Bool.exists_bool, ha, hok, qA, qD, qB, qC, hen, hx', hv, isX_enc, h9, allO_ok hp, agg_Vn]
        exact ⟨⟨rfl, rfl, rfl, rfl, rfl, zA8 (mkO l)⟩, hr.symm⟩
      · rw [if_neg hkb] at hr
        simp only [if_neg hkb, zK5, zJ6, evO_v', qA, zD6]
        simp [- List.getD_eq_getElem?_getD, - Subtype.exists, - Prod.exists, - Bool.exists_bool, ha, hok, qA, qD, qB, qC, hen, hx', hv, isX_enc, h9, allO_ok hp, agg_Vn]
        exact hr.symm
  · have h6 : ¬ (0 ≤ n.k ∧ n.k ≤ 6) := by omega
    rw [if_neg h6] at hr
    simp only [h, reduceIte, reduceCtorEq, Int.reduceEq, Nd.args] at hr
    simp only [decide_eq_false h6, h]
    have h9 : ¬ n.k = 9 := by omega
    cases hp : allE ev (n.ar.getD []) with
    | error p =>
      rw [hp] at hr
      simp only [allO_er hp, qD, zD6]
      simp [- List.getD_eq_getElem?_getD, - Subtype.exists, - Prod.exists, - Bool.exists_bool, ha, hok, qA, qD, qB, qC, hen, hx', isX_enc, h9]
      exact ⟨hn0, hr.symm⟩
    | ok l =>
      rw [hp] at hr
      have hv : (V.mk 12 0 0 ⟨#[]⟩ n.nm (mkO l)).ok := okV_mk (by decide) hn0 (okO_all (hn.ar h9) hok.2.2 h53.ok hp)
      simp only [allO_ok hp, qD, agg_V, zB2, zB3] at hr ⊢
      unfold keptE at hr ⊢
      by_cases hkb : keptB (V.mk 12 0 0 ⟨#[]⟩ n.nm (mkO l)) = true
      · rw [if_pos hkb] at hr
        simp only [if_pos hkb, evO_isOk, zK4, evO_v, qA]
        simp [- List.getD_eq_getElem?_getD, - Subtype.exists, - Prod.exists, - Bool.exists_bool, ha, hok, qA, qD, qB, qC, hen, hx', hv, isX_enc, h9, allO_ok hp, agg_V]
        exact ⟨hn0, ⟨rfl, rfl, rfl, rfl, zA9 n.nm, zA8 (mkO l)⟩, hr.symm⟩
      · rw [if_neg hkb] at hr
        simp only [if_neg hkb, zK5, zJ6, evO_v', qA, zD6]
        simp [- List.getD_eq_getElem?_getD, - Subtype.exists, - Prod.exists, - Bool.exists_bool, ha, hok, qA, qD, qB, qC, hen, hx', hv, isX_enc, h9, allO_ok hp, agg_V]
        exact ⟨hn0, hr.symm⟩
  · have h6 : ¬ (0 ≤ n.k ∧ n.k ≤ 6) := by omega
    have h9 : ¬ n.k = 9 := by omega
    have h0 := hn.k12 h
    have h0' : 0 < (n.ar.getD []).length := h0
    have g0 := zI0 (n.ar.getD []) 0 h0
    have hd := hn.ar h9 _ (memI h0)
    rw [if_neg h6] at hr
    simp only [h, reduceIte, reduceCtorEq, Int.reduceEq, Nd.args] at hr hd
    simp only [decide_eq_false h6, h, g0, smp, smo, lookPn, lookPd, sfOfP, lookOk, lookRes, sfOf, ↓reduceIte, Nat.reduceEqDiff, reduceCtorEq]
    cases hp : ev ((n.ar.getD []).getD 0 0) with
    | error p =>
      rw [hp] at hr
      simp only [hp, zK5, zJ6, evO_v', zD6]
      simp [- List.getD_eq_getElem?_getD, - Subtype.exists, - Prod.exists, - Bool.exists_bool, ha, hok, qA, qD, qB, qC, hen, hx', isX_enc, h9, hd, h0']
      exact hr.symm
    | ok v =>
      have hv := h53.ok _ _ hd hp
      have hnc := h53.nc _ _ hd hp
      rw [hp] at hr
      simp only [hp, evO_isOk, zK4, evO_v, qA, qD]
      have hix : (v.k = 9 ∨ v.k = 12) → idxS v.names n.tx < v.items.length := fun hk => by
        rw [← V.nice_len hnc hk]; exact idxS_lt _ _
      simp [- List.getD_eq_getElem?_getD, - Subtype.exists, - Prod.exists, - Bool.exists_bool, ha, hok, qA, qD, qB, qC, hen, hx', isX_enc, h9, hd, h0', hp]
      simp only [smp, smo, lookPn, lookPd, sfOfP, lookOk, lookRes, sfOf, ↓reduceIte, Nat.reduceEqDiff, reduceCtorEq, qA, qD, g0, hp, evO_v, List.getD_cons_zero, List.getD_cons_succ]
      by_cases ck : v.k = 9 ∨ v.k = 12
      · have ck' : (decide (v.k = 9) || decide (v.k = 12)) = true := by simpa using ck
        simp only [if_pos ck] at hr
        have hix := hix ck
        simp only [ck', qD]
        cases hf : fieldV v n.tx with
        | none =>
          rw [hf] at hr
          simp [qD, hv, hix, zD6]
          exact hr.symm
        | some y =>
          rw [hf] at hr
          simp [qD, hv, hix, zD6]
          exact hr.symm
      · have ck' : (decide (v.k = 9) || decide (v.k = 12)) = false := by simpa using ck
        simp only [if_neg ck] at hr
        simp only [ck', qD]
        simp [qD, hv, hix, zD6]
        exact hr.symm
  · have h6 : ¬ (0 ≤ n.k ∧ n.k ≤ 6) := by omega
    have h9 : ¬ n.k = 9 := by omega
    have h1 := hn.k13 h
    have h1' : 1 < (n.ar.getD []).length := h1
    rw [if_neg h6] at hr
    simp only [h, reduceIte, reduceCtorEq, Int.reduceEq, Nd.args] at hr
    simp only [decide_eq_false h6, h]
    cases hp : allE ev (n.ar.getD []) with
    | error p =>
      rw [hp] at hr
      simp only [allO_er hp, qD, zD6]
      simp [- List.getD_eq_getElem?_getD, - Subtype.exists, - Prod.exists, - Bool.exists_bool, ha, hok, qA, qD, qB, qC, hen, hx', isX_enc, h9]
      exact hr.symm
    | ok l =>
      rw [hp] at hr
      obtain ⟨hl1, hl2⟩ := allE_ok hp
      have hlm : mkO l = some l := by unfold mkO; rw [if_neg (fun hc => by rw [hc] at hl1; simp at hl1; omega)]
      have k0 : 0 < l.length := by omega
      have k1 : 1 < l.length := by omega
      have hv0 := h53.ok _ _ (hn.ar h9 _ (memI (i := 0) (by show 0 < (n.ar.getD []).length; omega))) (hl2 0 (by omega))
      have hv1 := h53.ok _ _ (hn.ar h9 _ (memI (i := 1) h1)) (hl2 1 h1')
      have g0 := zH8 l 0 k0
      have g1 := zH8 l 1 k1
      simp only [allO_ok hp, qD, qA, hlm, Option.getD_some, g0, g1, smp, smo, lookPn, lookPd, sfOfP, lookOk, lookRes, sfOf, ↓reduceIte, Nat.reduceEqDiff, reduceCtorEq] at hr ⊢
      simp [- List.getD_eq_getElem?_getD, - Subtype.exists, - Prod.exists, - Bool.exists_bool, ha, hok, qA, qD, qB, qC, hen, hx', isX_enc, h9, k0, k1, g0, g1]
      simp only [smp, smo, lookPn, lookPd, sfOfP, lookOk, lookRes, sfOf, ↓reduceIte, Nat.reduceEqDiff, reduceCtorEq, qA, qD, g0, g1, zB2, zB3, List.getD_cons_zero, List.getD_cons_succ]
      generalize l.getD 0 default = v0 at *
      generalize l.getD 1 default = v1 at *
      by_cases ck : v1.k = 2
      · rw [if_pos ck] at hr
        simp only [ck, decide_true, qD]
        cases hi : itemE v0 v1.n a with
        | error p =>
          rw [hi] at hr
          simp only [hi, zK5, zJ6, evO_v', zD6]
          simp [qD, hv0, hv1, hx', hi, k1, zK5, zJ6, evO_v', zD6]
          exact ⟨by omega, fun _ => ⟨by omega, (zB3 _).symm ▸ hv0, hr.symm⟩, (zB3 _).symm ▸ hv0⟩
        | ok y =>
          rw [hi] at hr
          simp only [hi, evO_isOk, zK4, evO_v]
          simp [qD, hv0, hv1, hx', hi, k1, evO_isOk, zK4, evO_v]
          refine ⟨by omega, (zB3 _).symm ▸ hv0, ⟨⟨zA1 _, by rw [zA0]; rfl⟩, ?_⟩, ⟨zA1 _, by rw [zA0]; rfl⟩, hr.symm⟩
          rw [zA0]
          exact ⟨rfl, rfl, rfl, rfl, zA9 _, zA8 _⟩
      · rw [if_neg ck] at hr
        simp only [decide_eq_false ck, qD]
        simp [qD, hv0, hv1, hx', k1, zD6]
        exact ⟨by omega, hr.symm⟩
end Go.Proofs.Sx

namespace Go.Proofs.Sx
open Go Go.Proofs Go.Proofs.Am 
variable {gs : List Nat}

theorem recE_res {ev : Int → Ev} {om : Int → Bool} {P : V → Prop} : ∀ {l : List Int} {ns : List ByteArray} {q : List ByteArray} {r : List V}, recE ev om l ns = .ok (q, r) → (∀ a ∈ l, om a = false → ∀ v, ev a = .ok v → P v) → l.length ≤ ns.length → q.length = r.length ∧ q.length ≤ l.length ∧ (∀ s ∈ q, s ∈ ns) ∧ ∀ v ∈ r, P v
  | [], ns, q, r, h, _, _ => by
    rw [recE] at h; cases h
    exact ⟨rfl, Nat.le_refl _, fun s hs => (by cases hs), fun s hs => (by cases hs)⟩
  | a :: l, ns, q, r, h, hp, hl => by
    cases ns with
    | nil => simp at hl
    | cons s0 ns =>
      have hl : l.length ≤ ns.length := by simpa using hl
      rw [recE] at h
      split at h
      · obtain ⟨h1, h2, h3, h4⟩ := recE_res h (fun b hb => hp b (List.mem_cons_of_mem _ hb)) hl
        exact ⟨h1, by simp only [List.length_cons]; omega, fun s hs => List.mem_cons_of_mem _ (h3 s hs), h4⟩
      · rename_i ho
        split at h
        · cases h
        · rename_i v hv
          split at h
          · cases h
          · rename_i q' l' hq
            cases h
            obtain ⟨h1, h2, h3, h4⟩ := recE_res hq (fun b hb => hp b (List.mem_cons_of_mem _ hb)) hl
            refine ⟨by simp [h1], by simp only [List.length_cons]; omega, fun s hs => ?_, fun w hw => ?_⟩
            · rcases List.mem_cons.1 hs with rfl | hs
              · exact List.mem_cons_self ..
              · exact List.mem_cons_of_mem _ (h3 s hs)
            · rcases List.mem_cons.1 hw with rfl | hw
              · exact hp a (List.mem_cons_self ..) (by simpa using ho) _ hv
              · exact h4 w hw
theorem keptE_ok {v w : V} {a : Int} (h : keptE v a = .ok w) : w = v := by
  unfold keptE at h; split at h
  · cases h; rfl
  · cases h
theorem fieldV_mem {v w : V} {s : ByteArray} (hl : v.names.length ≤ v.items.length) (h : fieldV v s = some w) : w ∈ v.items := by
  unfold fieldV at h
  split at h
  · cases h
  · cases h
    have h1 := idxS_lt v.names s
    exact memD ((Int.toNat_lt (by omega)).2 (by omega))
theorem findB_mem {l : List B} {s : ByteArray} {v : V} (hf : findB l s = some v) : ∃ b ∈ l, b.v = v := by
  unfold findB at hf
  split at hf
  · cases hf
  · have hlt := idxG_lt (fun b : B => decide (b.nm = s)) l
    cases hf
    generalize idxG (fun b : B => decide (b.nm = s)) l = m at *
    have hlt2 : m.toNat < l.length := (Int.toNat_lt (by omega)).2 hlt
    exact ⟨_, by simp [List.getD, List.getElem?_eq_getElem hlt2], rfl⟩
theorem extract_size {s : ByteArray} (i j : Nat) (h : s.size ≤ 1048576) : (s.extract i j).size ≤ 1048576 := by
  rw [ByteArray.size_extract]; omega
theorem V.nice_mk {k n e : Int} {s : ByteArray} {nm : Option (List ByteArray)} {it : Option (List V)} (h : (k = 9 ∨ k = 12) → (nm.getD []).length = (it.getD []).length) (hi : ∀ v ∈ it.getD [], v.nice) : (V.mk k n e s nm it).nice := by
  simp only [V.nice]
  refine ⟨h, ?_⟩
  cases it with
  | none => simp only [niceO]
  | some l => simp only [niceO]; exact niceL_all hi
theorem mkO_get (l : List V) : (mkO l).getD [] = l := by unfold mkO; split <;> simp [*]
theorem mkS_get (l : List ByteArray) : (mkS l).getD [] = l := by unfold mkS; split <;> simp [*]
theorem lit_nice (n : Nd) : (litV n).nice := by
  unfold litV zeroV
  repeat' split
  all_goals exact V.nice_mk (fun h => rfl) (fun v hv => by cases hv)
theorem lit_ok (n : Nd) (h : okN n) : (litV n).ok := by
  have h0 : (⟨#[]⟩ : ByteArray).size ≤ 1048576 := by decide
  unfold litV zeroV
  repeat' split
  all_goals first | exact okV_mk h0 okS0_none trivial | exact okV_mk h.1 okS0_none trivial
def V.gd (v : V) : Prop := v.ok ∧ v.nice
theorem nodeV_gd {ev : Int → Ev} {ap : Nd → Int → Ev} {t : List Nd} {en : Option (List B)} {a : Int} {D : Int → Prop} {v : V} (hok : okN (t.getD a.toNat default)) (hn : NdOk t (t.getD a.toNat default) D)
    (hev : ∀ b w, D b → ev b = .ok w → w.gd) (hen : okBs en) (hnc : ∀ b ∈ en.getD [], b.v.nice) (hap : ∀ w, (t.getD a.toNat default).k = 8 → ap (t.getD a.toNat default) a = .ok w → w.gd)
    (k11 : (t.getD a.toNat default).k = 11 → (t.getD a.toNat default).names.length = (t.getD a.toNat default).args.length) (h : nodeV ev ap t (en.getD []) a = .ok v) : v.gd := by
  unfold nodeV at h
  generalize t.getD a.toNat default = n at *
  simp only at h
  split at h
  · cases h; exact ⟨lit_ok n hok, lit_nice n⟩
  rename_i h6
  split at h
  · split at h
    · rename_i w hw
      cases h
      refine ⟨findB_ok hen hw, ?_⟩
      obtain ⟨b, hb, rfl⟩ := findB_mem hw
      exact hnc b hb
    · cases h
  rename_i h7
  split at h
  · rename_i h9
    obtain ⟨c1, c2⟩ := hn.k9 h9
    split at h
    · cases h
    · rename_i q l hq
      cases keptE_ok h
      obtain ⟨r1, r2, r3, r4⟩ := recE_res (P := V.gd) hq (fun b hb ho w hw => hev b w ((c2 b hb).2 ho) hw) c1
      have hil : n.args.length ≤ 1048576 := hok.2.2
      refine ⟨okV_mk (by decide) ?_ ?_, V.nice_mk (fun _ => by rw [mkO_get, mkS_get, r1]) (by rw [mkO_get]; exact fun w hw => (r4 w hw).2)⟩
      · exact ⟨by rw [mkS_get]; omega, by rw [mkS_get]; exact fun s hs => hok.2.1.2 s (r3 s hs)⟩
      · unfold mkO
        split
        · trivial
        · exact ⟨by omega, okL_all fun w hw => (r4 w hw).1⟩
  rename_i h9
  have hall : ∀ {l : List V}, allE ev n.args = .ok l → okO (mkO l) ∧ (∀ w ∈ l, w.gd) ∧ l.length = n.args.length := fun {l} hl => by
    refine ⟨okO_all (hn.ar h9) hok.2.2 (fun b w hb hw => (hev b w hb hw).1) hl, fun w hw => ?_, (allE_ok hl).1⟩
    obtain ⟨i, hi, rfl⟩ := List.mem_iff_getElem.1 hw
    obtain ⟨e1, e2⟩ := allE_ok hl
    have := e2 i (by omega)
    refine hev _ _ (hn.ar h9 _ (memI (by omega))) (this.trans ?_)
    rw [List.getD_eq_getElem?_getD, List.getElem?_eq_getElem hi, Option.getD_some]
  split at h
  · split at h
    · cases h
    · rename_i l hl
      cases keptE_ok h
      obtain ⟨a1, a2, a3⟩ := hall hl
      exact ⟨okV_mk (by decide) okS0_none a1, V.nice_mk (fun hc => by rcases hc with hc | hc <;> cases hc) (by rw [mkO_get]; exact fun w hw => (a2 w hw).2)⟩
  split at h
  · rename_i h11
    split at h
    · cases h
    · rename_i l hl
      cases keptE_ok h
      obtain ⟨a1, a2, a3⟩ := hall hl
      exact ⟨okV_mk (by decide) hok.2.1 a1, V.nice_mk (fun hc => by rw [mkO_get, a3]; exact k11 h11) (by rw [mkO_get]; exact fun w hw => (a2 w hw).2)⟩
  split at h
  · rename_i h12
    have hd := hn.ar h9 _ (memI (hn.k12 h12))
    split at h
    · cases h
    · rename_i w hw
      obtain ⟨g1, g2⟩ := hev _ _ hd hw
      split at h
      · rename_i hk
        split at h
        · rename_i y hy
          cases h
          have hm := fieldV_mem (Nat.le_of_eq (V.nice_len g2 hk)) hy
          exact ⟨V.ok_i g1 _ hm, V.nice_i g2 _ hm⟩
        · cases h
      · cases h
  split at h
  · rename_i h13
    split at h
    · cases h
    · rename_i l hl
      obtain ⟨a1, a2, a3⟩ := hall hl
      have h1 := hn.k13 h13
      split at h
      · have g0 := a2 _ (memD (l := l) (i := 0) (by omega))
        generalize l.getD 0 default = w at *
        unfold itemE at h
        split at h
        · split at h
          · rename_i hi
            cases h
            have hm := memD (l := w.items) (i := (l.getD 1 default).n.toNat) ((Int.toNat_lt hi.1).2 hi.2)
            exact ⟨V.ok_i g0.1 _ hm, V.nice_i g0.2 _ hm⟩
          · cases h
        · rename_i hk
          split at h
          · split at h
            · cases h
              refine ⟨okV_mk (extract_size _ _ (V.ok_s g0.1)) okS0_none trivial, V.nice_mk (fun hc => rfl) (fun v hv => by cases hv)⟩
            · cases h
          · cases h
      · cases h
  have h8 : n.k = 8 := by have := hn.k; omega
  split at h
  · cases h
  · rename_i w hw
    have hvw := keptE_ok h
    subst hvw
    exact hap _ h8 hw
noncomputable def evalF (ap : (Int → Ev) → Nd → Int → Ev) (t : List Nd) (en : List B) : Nat → Int → Ev
  | 0, _ => .error (0, 0)
  | f + 1, a => nodeV (evalF ap t en f) (ap (evalF ap t en f)) t en a
def domF (t : List Nd) (N : Nat) (a : Int) : Prop := (0 ≤ a ∧ a < N) ∧ a < t.length ∧ omitB t a = false
structure EvT (t : List Nd) : Prop where
  nd : ∀ (a : Nat), a < t.length → omitB t a = false → NdOk t (t.getD a default) (domF t a)
  k11 : ∀ (a : Nat), a < t.length → (t.getD a default).k = 11 → (t.getD a default).names.length = (t.getD a default).args.length
theorem CtE.mono {f : Nat} {t : Option (List Nd)} {en : Option (List B)} {D D' : Int → Prop} {ev : Int → Ev} (h : CtE f t en D ev) (hd : ∀ a, D' a → D a) : CtE f t en D' ev :=
  ⟨fun z a ha => h.call z a (hd a ha), fun a v ha => h.ok a v (hd a ha), fun a v ha => h.nc a v (hd a ha)⟩
theorem domF_mono {t : List Nd} {M N : Nat} (h : M ≤ N) (a : Int) (ha : domF t M a) : domF t N a := ⟨⟨ha.1.1, by have := ha.1.2; omega⟩, ha.2⟩
def Ops (ap : (Int → Ev) → Nd → Int → Ev) (t : Option (List Nd)) (en : Option (List B)) : Prop :=
  ∀ (N a : Nat), a ≤ N → a < (t.getD []).length → ((t.getD []).getD a default).k = 8 → CtE 50 t en (domF (t.getD []) a) (evalF ap (t.getD []) (en.getD []) N) →
    OcCall Tryz.prog [0] 76 [encE ⟨t, en, a⟩, encN ((t.getD []).getD a default)] (evO (ap (evalF ap (t.getD []) (en.getD []) N) ((t.getD []).getD a default) a)) ∧ ∀ v, ap (evalF ap (t.getD []) (en.getD []) N) ((t.getD []).getD a default) a = .ok v → v.gd
theorem pc53 (ap : (Int → Ev) → Nd → Int → Ev) (t : Option (List Nd)) (en : Option (List B)) (ht : okT t) (hen : okBs en) (hnc : ∀ b ∈ en.getD [], b.v.nice) (hT : EvT (t.getD [])) (h81 : Ops ap t en) :
    ∀ N : Nat, CtE 50 t en (domF (t.getD []) N) (evalF ap (t.getD []) (en.getD []) N) := by
  intro N
  induction N with
  | zero => exact ⟨fun z a ha => absurd ha.1 (by omega), fun a v ha => absurd ha.1 (by omega), fun a v ha => absurd ha.1 (by omega)⟩
  | succ N ih =>
    have main : ∀ a v, domF (t.getD []) (N + 1) a → evalF ap (t.getD []) (en.getD []) (N + 1) a = .ok v → v.gd := by
      intro a v ha hv
      obtain ⟨j, rfl⟩ : ∃ j : Nat, a = j := ⟨a.toNat, by have := ha.1.1; omega⟩
      have hj : j ≤ N := by have := ha.1.2; omega
      have hl : j < (t.getD []).length := by have := ha.2.1; omega
      have hD := CtE.mono ih (domF_mono (t := t.getD []) hj)
      rw [evalF] at hv
      exact nodeV_gd (D := domF (t.getD []) j) (by rw [Int.toNat_natCast]; exact okT_get ht hl) (by rw [Int.toNat_natCast]; exact hT.nd j hl ha.2.2) (fun b w hb hw => ⟨hD.ok b w hb hw, hD.nc b w hb hw⟩) hen hnc (fun w hk hw => by rw [Int.toNat_natCast] at hk hw; exact (h81 N j hj hl hk hD).2 w hw) (by rw [Int.toNat_natCast]; exact hT.k11 j hl) hv
    refine ⟨fun z a ha => ?_, fun a v ha hv => (main a v ha hv).1, fun a v ha hv => (main a v ha hv).2⟩
    obtain ⟨j, rfl⟩ : ∃ j : Nat, a = j := ⟨a.toNat, by have := ha.1.1; omega⟩
    have hj : j ≤ N := by have := ha.1.2; omega
    have hl : j < (t.getD []).length := by have := ha.2.1; omega
    have hD := CtE.mono ih (domF_mono (t := t.getD []) hj)
    rw [evalF]
    refine pc53n ⟨t, en, z⟩ j (domF (t.getD []) j) _ _ ⟨ht, hen⟩ hD ⟨by omega, by show (j : Int) < ((t.getD []).length : Int); omega⟩ ?_ ?_
    · show NdOk (t.getD []) ((t.getD []).getD (j : Int).toNat default) _
      rw [Int.toNat_natCast]; exact hT.nd j hl ha.2.2
    · intro hk
      have hk : ((t.getD []).getD (j : Int).toNat default).k = 8 := hk
      rw [Int.toNat_natCast] at hk
      obtain ⟨c1, c2⟩ := h81 N j hj hl hk hD
      show OcCall Tryz.prog [0] 76 [encE ⟨t, en, j⟩, encN ((t.getD []).getD (j : Int).toNat default)] (evO (ap (evalF ap (t.getD []) (en.getD []) N) ((t.getD []).getD (j : Int).toNat default) j)) ∧ ∀ v, ap (evalF ap (t.getD []) (en.getD []) N) ((t.getD []).getD (j : Int).toNat default) j = .ok v → v.ok
      rw [Int.toNat_natCast]
      exact ⟨c1, fun v hv => (c2 v hv).1⟩
end Go.Proofs.Sx

namespace Go.Proofs.Sx
open Go Go.Proofs Go.Proofs.Am 
variable {gs : List Nat}

open Classical in
noncomputable def runsOc (F : Nat) (oc : List DV → Option Oc) : Runs := {
  call lh nid f args := if Nat.beq f F = true then (match args.mapM (frz lh 8) with
    | some ds => (match oc ds with
      | some (.ok d) => .ok ((pureRes lh nid args (dRet d)).res lh)
      | some (.pan d) => .pan d ⟨.undef, lh, nid⟩
      | none => .stuck)
    | none => .stuck) else .stuck
  pure _ _ := none
  pan _ _ := none }
theorem runsOc_ok {F : Nat} {oc : List DV → Option Oc} (h : ∀ ds o, oc ds = some o → OcCall Tryz.prog [0] F ds o ∧ (o.isPan = true → scalarD o.val = true)) : RunsOk Tryz.prog [0] (runsOc F oc) := by
  refine ⟨fun lh nid f args r hr => ?_, fun lh nid f args d r hr => ?_, fun f ds p hr => (by cases hr), fun f ds d hr => (by cases hr)⟩
  · simp only [runsOc] at hr
    split at hr
    · rename_i hf
      rw [Nat.eq_of_beq_eq_true hf]
      split at hr
      · rename_i ds hds
        split at hr
        · rename_i d ho
          simp only [COut.ok.injEq] at hr
          subst hr
          exact .inl ⟨_, _, pureRes_ok hds (h ds _ ho).1, rfl⟩
        · cases hr
        · cases hr
      · cases hr
    · cases hr
  · simp only [runsOc] at hr
    split at hr
    · rename_i hf
      rw [Nat.eq_of_beq_eq_true hf]
      split at hr
      · rename_i ds hds
        split at hr
        · cases hr
        · rename_i d' ho
          simp only [COut.pan.injEq] at hr
          obtain ⟨rfl, rfl⟩ := hr
          obtain ⟨h1, h2⟩ := h ds _ ho
          exact .inl ⟨ds, hds, h1, h2 rfl, rfl⟩
        · cases hr
      · cases hr
    · cases hr
def evD : Ev → DV
  | .ok v => .tup [v.enc, .int .i64 0, .int .i64 0]
  | .error p => .tup [zeroV.enc, .int .i64 p.1, .int .i64 p.2]
set_option maxHeartbeats 8000000 in
theorem pc34 (t : Option (List Nd)) (en : Option (List B)) (a : Int) (e : Ev) (h53 : OcCall Tryz.prog [0] 50 [encE ⟨t, en, 0⟩, .int .i64 a] (evO e)) :
    PureCall Tryz.prog [0] 31 [encBs en, encT t, .int .i64 a] (dRet (evD e)) := by
  obtain ⟨oc, hoc⟩ : ∃ oc : List DV → Option Oc, oc = fun ds => open Classical in if ds = [encE ⟨t, en, 0⟩, .int .i64 a] then some (evO e) else none := ⟨_, rfl⟩
  have hR : RunsOk Tryz.prog [0] (runsOc 50 oc) := runsOc_ok fun ds o ho => by
    rw [hoc] at ho
    simp only at ho
    split at ho
    · rename_i hd
      cases ho
      rw [hd]
      exact ⟨h53, fun hp => by cases e <;> first | rfl | cases hp⟩
    · cases ho
  have ho : oc [.agg [encT t, encBs en, .int .i64 0], .int .i64 a] = some (evO e) := by rw [hoc]; simp [encE]
  refine zK7 mixed fn34 (Nat.le_of_ble_eq_true rfl) (bodyRun_ok hR (lb := 100) ?_)
  clear hoc hR h53
  generalize hg : dRet (evD e) = G
  have ht : encT t = .snil ∨ ∃ l, encT t = .sim l := by cases t <;> simp [encT]
  have hen : encBs en = .snil ∨ ∃ l, encBs en = .sim l := by cases en <;> simp [encBs]
  generalize encT t = gt at *
  generalize encBs en = ge at *
  generalize DV.int .i64 a = ga at *
  cases e with
  | ok v =>
    obtain ⟨k, n, e, s, nm, it⟩ := v
    have hnm : encS nm = .snil ∨ ∃ l, encS nm = .sim l := by cases nm <;> simp [encS]
    have hit : encO it = .snil ∨ ∃ l, encO it = .sim l := by cases it <;> simp [encO]
    simp only [evO, evD, V.enc] at ho hg
    generalize encS nm = gs at *
    generalize encO it = gi at *
    rcases ht with rfl | ⟨tl, rfl⟩ <;> rcases hen with rfl | ⟨el, rfl⟩
    all_goals
      cbv
      rw [ho]
      rcases hnm with rfl | ⟨nl, rfl⟩ <;> rcases hit with rfl | ⟨il, rfl⟩
      all_goals
        cbv
        rw [← hg]
        exact .imm _ _ rfl
  | error p =>
    obtain ⟨pa, pc⟩ := p
    simp only [evO, evD, zeroV_enc] at ho hg
    rcases ht with rfl | ⟨tl, rfl⟩ <;> rcases hen with rfl | ⟨el, rfl⟩
    all_goals
      cbv
      rw [ho]
      unfold flt
      cbv
      rw [← hg]
      exact .imm _ _ rfl
end Go.Proofs.Sx

namespace Go.Proofs.Sx
open Go Go.Proofs Go.Proofs.Am 
variable {gs : List Nat}

theorem RightT.evT {t : List Nd} (h : RightT t) : EvT t := by
  have hlow : ∀ (a : Nat), a < t.length → ∀ b ∈ (t.getD a default).args, (0 ≤ b ∧ b < (a : Int)) ∧ b < (t.length : Int) := fun a ha b hb => by
    have := h.low a ha b hb
    omega
  refine ⟨fun a ha ho => ?_, fun a ha hk => ?_⟩
  · have hk14 : (t.getD a default).k ≠ 14 := by simpa [omitB] using ho
    have hkk := h.kk a ha
    have har := h.arO ha
    refine ⟨by omega, fun h9 b hb => ?_, fun h9 => ?_, fun h12 => ?_, fun h13 => ?_⟩
    · have hl := hlow a ha b hb
      refine ⟨hl.1, hl.2, ?_⟩
      have hf := h.fm a ha
      unfold frmE at hf
      split at hf
      · cases hf
      · split at hf
        · cases hf
        · rename_i hc
          unfold omitB
          refine decide_eq_false fun hk => hc ⟨h9, b, hb, hk⟩
    · rw [if_neg (by omega), if_pos h9] at har
      refine ⟨by omega, fun b hb => ?_⟩
      have hl := hlow a ha b hb
      exact ⟨⟨hl.1.1, hl.2⟩, fun ho => ⟨hl.1, hl.2, ho⟩⟩
    · have := h.a12 ha h12; omega
    · have := h.a13 ha h13; omega
  · have har := h.arO ha
    rw [if_neg (by omega), if_neg (by omega), if_neg (by omega), if_pos hk] at har
    omega
theorem RightT.root {t : List Nd} (h : RightT t) : omitB t ((t.length - 1 : Nat) : Int) = false := by
  have hf := h.fm (t.length - 1) (by have := h.nl; omega)
  unfold frmE at hf
  unfold omitB
  rw [Int.toNat_natCast]
  split at hf
  · cases hf
  · split at hf
    · cases hf
    · split at hf
      · cases hf
      · rename_i hc
        exact decide_eq_false fun hk => hc ⟨by have := h.nl; omega, hk⟩
end Go.Proofs.Sx

namespace Go.Proofs.Sx
open Go Go.Proofs Go.Proofs.Am 
variable {gs : List Nat}

open Classical in
noncomputable def vaEnt (C : Prop) (f : Nat) (x y : DV) (a : Int) (r : DV) : Ent := ⟨f, fun | [d, d', .int .i64 z] => decide (d = x ∧ d' = y ∧ z = a ∧ C) | _ => false, fun _ => r⟩
open Classical in
theorem vaEnt_ok {C : Prop} {f : Nat} {x y r : DV} {a : Int} (h : C → PureCall Tryz.prog [0] f [x, y, .int .i64 a] (dRet r)) : EntOk Tryz.prog [0] (vaEnt C f x y a r) := fun ds hk => by
  unfold vaEnt at hk ⊢
  simp only at hk ⊢
  split at hk
  · rw [decide_eq_true_iff] at hk
    obtain ⟨rfl, rfl, rfl, hc⟩ := hk
    exact h hc
  · cases hk
noncomputable def valR (t : List Nd) (en : List B) (e : Ev) : DV :=
  if (envE en).2 ≠ 0 then .tup [zeroV.enc, .int .i64 0, .int .i64 (envE en).2]
  else if (checkE t).2 ≠ 0 then .tup [zeroV.enc, .int .i64 (checkE t).1, .int .i64 (checkE t).2]
  else evD e
set_option maxHeartbeats 2000000 in
theorem pc16 (t : Option (List Nd)) (en : Option (List B)) (e : Ev) (ht : okT t) (hen : okBs en) (h34 : (envE (en.getD [])).2 = 0 ∧ (checkE (t.getD [])).2 = 0 → PureCall Tryz.prog [0] 31 [encBs en, encT t, .int .i64 (((t.getD []).length : Int) - 1)] (dRet (evD e)) ∧ (∀ v, e = .ok v → v.ok) ∧ ∀ p, e = .error p → p.2 ≠ 0) :
    PureCall Tryz.prog [0] 11 [encBs en, encT t] (dRet (valR (t.getD []) (en.getD []) e)) := by
  generalize hr : valR (t.getD []) (en.getD []) e = r
  have ok34' := vaEnt_ok (C := (envE (en.getD [])).2 = 0 ∧ (checkE (t.getD [])).2 = 0) fun c => (h34 c).1
  have hl := ht.1
  have w1 : IntKind.i64.wrap (((t.getD []).length : Int) - 1) = ((t.getD []).length : Int) - 1 := zJ4 (by omega) (by omega)
  refine zH7 mixed fn16 (Nat.le_of_ble_eq_true rfl) (Nat.lt_of_succ_le (Nat.le_of_ble_eq_true rfl)) (sfOk (.cons ok7 (.cons ok33 (.cons ok34' (.cons ok35 .nil))))) TbOk (lv := lv0) fun I F hI hF => ?_
  refine zE2 fun C hC => ?_
  generalize Q0 : encBs en = Z0
  generalize Q1 : encT t = Z1
  generalize Q2 : r = Z2
  cbv
  subst Q0 Q1 Q2
  subst hC
  refine ⟨?_⟩
  simp (maxSteps:=9999999) only [hI, hF, std]
  simp only [smp, smo, lookOk, lookRes, sfOf, ↓reduceIte, Nat.reduceEqDiff, reduceCtorEq, qA, qC, qB, e7, e33, e35, vaEnt]
  unfold valR at hr
  have t1 : ∀ p : Int × Int, tupD (encP p) = [.int .i64 p.1, .int .i64 p.2] := fun _ => rfl
  simp only [t1]
  simp only [tupD, List.getD_cons_zero, List.getD_cons_succ, List.length_map, w1, smp, smo, lookOk, lookRes, sfOf, ↓reduceIte, Nat.reduceEqDiff, reduceCtorEq]
  generalize envE (en.getD []) = ee at *
  generalize checkE (t.getD []) = ce at *
  by_cases c1 : ee.2 = 0
  · rw [if_neg (not_not_intro c1)] at hr
    by_cases c2 : ce.2 = 0
    · rw [if_neg (not_not_intro c2)] at hr
      obtain ⟨p1, p2, p3⟩ := h34 ⟨c1, c2⟩
      cases e with
      | ok v =>
        have hv := p2 v rfl
        simp only [evD, List.getD_cons_zero, List.getD_cons_succ, smp, smo, lookOk, lookRes, sfOf, ↓reduceIte, Nat.reduceEqDiff, reduceCtorEq, qA] at hr ⊢
        simp [- List.getD_eq_getElem?_getD, - Subtype.exists, - Prod.exists, - Bool.exists_bool, c1, c2, qA, qC, qB, ht, hen, hv]
        refine ⟨@decide_eq_true _ (Classical.propDecidable _) ((zB3 v).symm ▸ hv), ?_⟩
        rw [← hr]; rfl
      | error p =>
        have hp := p3 p rfl
        simp only [evD, List.getD_cons_zero, List.getD_cons_succ, smp, smo, lookOk, lookRes, sfOf, ↓reduceIte, Nat.reduceEqDiff, reduceCtorEq, qA, zeroV_enc] at hr ⊢
        simp [- List.getD_eq_getElem?_getD, - Subtype.exists, - Prod.exists, - Bool.exists_bool, c1, c2, qA, qC, qB, ht, hen, hp]
        rw [← hr]; rfl
    · rw [if_pos c2] at hr
      simp [- List.getD_eq_getElem?_getD, - Subtype.exists, - Prod.exists, - Bool.exists_bool, c1, c2, qA, qC, qB, ht, hen]
      rw [← hr, zeroV_enc]; rfl
  · rw [if_pos c1] at hr
    simp [- List.getD_eq_getElem?_getD, - Subtype.exists, - Prod.exists, - Bool.exists_bool, c1, qA, qC, qB, ht, hen]
    rw [← hr, zeroV_enc]; rfl
end Go.Proofs.Sx

namespace Go.Proofs.Sx
open Go Go.Proofs Go.Proofs.Am 
variable {gs : List Nat}

def Ev.nz (e : Ev) : Prop := ∀ p, e = .error p → p.2 ≠ 0
theorem keptE_nz (v : V) (a : Int) : Ev.nz (keptE v a) := fun p h => by
  unfold keptE at h; split at h
  · cases h
  · cases h; show (_ : Int) ≠ 0; simp
theorem itemE_nz (v : V) (i a : Int) : Ev.nz (itemE v i a) := fun p h => by
  unfold itemE at h
  repeat' split at h
  all_goals (cases h; try (show (_ : Int) ≠ 0; simp))
theorem allE_nz {ev : Int → Ev} : ∀ {l : List Int} {p : Int × Int}, (∀ a ∈ l, Ev.nz (ev a)) → allE ev l = .error p → p.2 ≠ 0
  | [], p, _, h => by cases h
  | a :: l, p, hp, h => by
    rw [allE] at h
    split at h
    · rename_i e he
      cases h
      exact hp a (List.mem_cons_self ..) _ he
    · split at h
      · rename_i e he
        cases h
        exact allE_nz (fun b hb => hp b (List.mem_cons_of_mem _ hb)) he
      · cases h
theorem recE_nz {ev : Int → Ev} {om : Int → Bool} : ∀ {l : List Int} {ns : List ByteArray} {p : Int × Int}, (∀ a ∈ l, om a = false → Ev.nz (ev a)) → recE ev om l ns = .error p → p.2 ≠ 0
  | [], ns, p, _, h => by rw [recE] at h; cases h
  | a :: l, ns, p, hp, h => by
    rw [recE] at h
    split at h
    · exact recE_nz (fun b hb => hp b (List.mem_cons_of_mem _ hb)) h
    · rename_i ho
      split at h
      · rename_i e he
        cases h
        exact hp a (List.mem_cons_self ..) (by simpa using ho) _ he
      · split at h
        · rename_i e he
          cases h
          exact recE_nz (fun b hb => hp b (List.mem_cons_of_mem _ hb)) he
        · cases h
theorem nodeV_nz {ev : Int → Ev} {ap : Nd → Int → Ev} {t : List Nd} {en : List B} {a : Int} {D : Int → Prop} (hn : NdOk t (t.getD a.toNat default) D) (hev : ∀ b, D b → Ev.nz (ev b)) (hap : (t.getD a.toNat default).k = 8 → Ev.nz (ap (t.getD a.toNat default) a)) : Ev.nz (nodeV ev ap t en a) := fun p h => by
  unfold nodeV at h
  generalize t.getD a.toNat default = n at *
  simp only at h
  split at h
  · cases h
  split at h
  · split at h
    · cases h
    · cases h; show (_ : Int) ≠ 0; simp
  split at h
  · rename_i h9
    split at h
    · rename_i e he
      cases h
      exact recE_nz (fun b hb ho => hev b (((hn.k9 h9).2 b hb).2 ho)) he
    · exact keptE_nz _ _ p h
  rename_i h9
  have hall : ∀ {e}, allE ev n.args = .error e → e.2 ≠ 0 := fun {e} he => allE_nz (fun b hb => hev b (hn.ar h9 b hb)) he
  split at h
  · split at h
    · rename_i e he; cases h; exact hall he
    · exact keptE_nz _ _ p h
  split at h
  · split at h
    · rename_i e he; cases h; exact hall he
    · exact keptE_nz _ _ p h
  split at h
  · rename_i h12
    have hd := hn.ar h9 _ (memI (hn.k12 h12))
    split at h
    · rename_i e he; cases h; exact hev _ hd _ he
    · split at h
      · split at h
        · cases h
        · cases h; show (_ : Int) ≠ 0; simp
      · cases h; show (_ : Int) ≠ 0; simp
  split at h
  · split at h
    · rename_i e he; cases h; exact hall he
    · split at h
      · exact itemE_nz _ _ _ p h
      · cases h; show (_ : Int) ≠ 0; simp
  have h8 : n.k = 8 := by have := hn.k; omega
  split at h
  · rename_i e he; cases h; exact hap h8 _ he
  · exact keptE_nz _ _ p h
theorem evalF_nz (ap : (Int → Ev) → Nd → Int → Ev) (t : List Nd) (en : List B) (hT : EvT t) (hap : ∀ (N a : Nat), a ≤ N → a < t.length → (t.getD a default).k = 8 → (∀ b, domF t a b → Ev.nz (evalF ap t en N b)) → Ev.nz (ap (evalF ap t en N) (t.getD a default) a)) :
    ∀ (N : Nat) (a : Int), domF t N a → Ev.nz (evalF ap t en N a) := by
  intro N
  induction N with
  | zero => intro a ha; exact absurd ha.1 (by omega)
  | succ N ih =>
    intro a ha
    obtain ⟨j, rfl⟩ : ∃ j : Nat, a = j := ⟨a.toNat, by have := ha.1.1; omega⟩
    have hj : j ≤ N := by have := ha.1.2; omega
    have hl : j < t.length := by have := ha.2.1; omega
    have hD : ∀ b, domF t j b → Ev.nz (evalF ap t en N b) := fun b hb => ih b (domF_mono hj b hb)
    rw [evalF]
    refine nodeV_nz (D := domF t j) (by rw [Int.toNat_natCast]; exact hT.nd j hl ha.2.2) hD ?_
    rw [Int.toNat_natCast]
    exact fun hk => hap N j hj hl hk hD
end Go.Proofs.Sx

namespace Go.Proofs.Sx
open Go Go.Proofs Go.Proofs.Am 
variable {gs : List Nat}

noncomputable def valueE (ap : (Int → Ev) → Nd → Int → Ev) (t : List Nd) (en : List B) : Ev := evalF ap t en t.length ((t.length : Int) - 1)
def OpsNz (ap : (Int → Ev) → Nd → Int → Ev) (t : List Nd) (en : List B) : Prop := ∀ (N a : Nat), a ≤ N → a < t.length → (t.getD a default).k = 8 → (∀ b, domF t a b → Ev.nz (evalF ap t en N b)) → Ev.nz (ap (evalF ap t en N) (t.getD a default) a)
theorem pc16v (ap : (Int → Ev) → Nd → Int → Ev) (t : Option (List Nd)) (en : Option (List B)) (ht : okT t) (hen : okBs en) (hnc : (envE (en.getD [])).2 = 0 → ∀ b ∈ en.getD [], b.v.nice)
    (hO : RightT (t.getD []) → (envE (en.getD [])).2 = 0 → Ops ap t en ∧ OpsNz ap (t.getD []) (en.getD [])) :
    PureCall Tryz.prog [0] 11 [encBs en, encT t] (dRet (valR (t.getD []) (en.getD []) (valueE ap (t.getD []) (en.getD [])))) := by
  refine pc16 t en _ ht hen fun hc => ?_
  have hR := rightT hc.2
  obtain ⟨o1, o2⟩ := hO hR hc.1
  have hC := pc53 ap t en ht hen (hnc hc.1) hR.evT o1 (t.getD []).length
  have hnl := hR.nl
  have e1 : ((t.getD []).length : Int) - 1 = (((t.getD []).length - 1 : Nat) : Int) := by omega
  have hd : domF (t.getD []) (t.getD []).length (((t.getD []).length : Int) - 1) := ⟨⟨by omega, by omega⟩, by omega, by rw [e1]; exact hR.root⟩
  exact ⟨pc34 t en _ _ (hC.call 0 _ hd), fun v hv => hC.ok _ v hd hv, evalF_nz ap _ _ hR.evT o2 _ _ hd⟩
end Go.Proofs.Sx

namespace Go.Proofs.Sx
open Go Go.Proofs Go.Proofs.Am 
variable {gs : List Nat}

theorem ownE_len {v : V} (h : ownE v = 0) (hk : v.k = 9 ∨ v.k = 12) : v.names.length = v.items.length := by
  unfold ownE at h
  split at h
  · cases h
  split at h
  · cases h
  split at h
  · cases h
  split at h
  · cases h
  rename_i hs
  have : ¬ ((v.names.length : Int) ≠ v.items.length) := fun hn => hs (.inl ⟨hk, hn⟩)
  omega
theorem plainL_zero : ∀ {l : List V}, plainL l = 0 → ∀ x ∈ l, plainE x = 0
  | [], _, x, hx => by cases hx
  | v :: l, h, x, hx => by
    rw [plainL] at h
    split at h
    · rename_i hn; exact absurd h hn
    · rename_i hn
      rcases List.mem_cons.1 hx with rfl | hx
      · exact Decidable.not_not.1 hn
      · exact plainL_zero h x hx
theorem plain_nice : ∀ (n : Nat) (v : V), v.sz < n → plainE v = 0 → v.nice
  | 0, v, h, _ => by omega
  | n + 1, v, h, hp => by
    rw [plainE_eq] at hp
    split at hp
    · rename_i hn; exact absurd hp hn
    · rename_i hn
      have ho : ownE v = 0 := Decidable.not_not.1 hn
      have hi := plainL_zero hp
      have hsz : ∀ x ∈ v.items, x.sz < n := fun x hx => by have := V.sz_item hx; omega
      have hl := fun hk => ownE_len ho hk
      obtain ⟨k, m, e, s, nm, it⟩ := v
      exact V.nice_mk hl fun x hx => plain_nice n x (hsz x hx) (hi x hx)
theorem chk_zero : ∀ {pre l : List B}, (chk pre l).2 = 0 → ∀ b ∈ l, valE b.v = 0
  | _, [], _, b, hb => by cases hb
  | pre, x :: l, h, b, hb => by
    rw [chk] at h
    split at h
    · cases h
    split at h
    · cases h
    split at h
    · rename_i hn; exact absurd h hn
    · rename_i hn
      rcases List.mem_cons.1 hb with rfl | hb
      · exact Decidable.not_not.1 hn
      · exact chk_zero h b hb
theorem env_nice {l : List B} (h : (envE l).2 = 0) : ∀ b ∈ l, b.v.nice := fun b hb => by
  unfold envE at h
  split at h
  · cases h
  have hv := chk_zero h b hb
  unfold valE at hv
  split at hv
  · first | exact plain_nice _ _ (Nat.lt_succ_self _) hv | cases hv
  · first | exact plain_nice _ _ (Nat.lt_succ_self _) hv | cases hv
end Go.Proofs.Sx

namespace Go.Proofs.Sx
open Go Go.Proofs Go.Proofs.Am 
variable {gs : List Nat}

mutual
def hasBag : V → Bool
  | .mk k _ _ _ _ it => decide (k = 11) || hasBagO it
def hasBagO : Option (List V) → Bool
  | none => false
  | some l => hasBagL l
def hasBagL : List V → Bool
  | [] => false
  | v :: r => hasBag v || hasBagL r
end
theorem hasBagO_eq (o : Option (List V)) : hasBagO o = hasBagL (o.getD []) := by cases o <;> rw [hasBagO] <;> simp [hasBagL]
theorem hasBag_eq (v : V) : hasBag v = (decide (v.k = 11) || hasBagL v.items) := by
  cases v; rw [hasBag, hasBagO_eq]; rfl
theorem hasBagL_step (l : List V) (i : Nat) (h : i < l.length) : hasBagL (l.drop i) = (hasBag (l.getD i default) || hasBagL (l.drop (i + 1))) := by
  rw [List.drop_eq_getElem_cons h, hasBagL]
  simp [List.getD, h]
def lv3033 : Nat → List Nat × List Nat
  | 4 => ([1, 3], [0])
  | _ => ([], [])
theorem pc3033n : ∀ (n : Nat) (v : V), v.ok → v.sz < n → PureCall Tryz.prog [0] 33 [v.enc] (dRet (.bool (hasBag v)))
  | 0, v, _, h => by omega
  | n + 1, v, hv, hn => by
    have ok3033' := okVn (f := 33) (r := fun v => .bool (hasBag v)) (pc3033n n)
    generalize hr : hasBag v = r
    refine zD0 mixed fn3033 (Nat.le_of_ble_eq_true rfl) (Nat.lt_of_succ_le (Nat.le_of_ble_eq_true rfl)) (sfOk (.cons ok3033' .nil)) TbOk (lv := lv3033) fun I F hI hF => ?_
    refine zE2 fun C hC => ?_
    generalize Q0 : v.enc = Z0
    generalize Q1 : DV.bool r = Z1
    cbv
    subst Q0 Q1
    subst hC
    refine ⟨?_⟩
    simp (maxSteps:=9999999) only [hI, hF, std]
    simp only [smp, smo, lookOk, lookRes, sfOf, ↓reduceIte, Nat.reduceEqDiff, reduceCtorEq, qA, eVn]
    have il := V.ok_il hv
    have e1 : v.it.getD [] = v.items := rfl
    by_cases h11 : v.k = 11
    · simp [- List.getD_eq_getElem?_getD, - Subtype.exists, - Prod.exists, - Bool.exists_bool, h11]; rw [← hr, hasBag_eq, h11]; rfl
    simp [- List.getD_eq_getElem?_getD, - Subtype.exists, - Prod.exists, - Bool.exists_bool, h11]
    have hb : hasBag v = hasBagL v.items := by rw [hasBag_eq, decide_eq_false h11]; rfl
    refine zE1 (kend := fun I => kEndF I Tb [.tmp 2]) hI hF (sfOk (.cons ok3033' .nil)) TbOk (by exact fun Bk e s h => endF TbOk Bk e s h) (lv := lv3033) 0 (fun i : {i : Nat // i ≤ v.items.length ∧ hasBagL (v.items.drop i) = hasBagL v.items} => [.loc 0 6 0 0, .d (.int .i64 (i.1 : Int))]) (fun i : {i : Nat // i ≤ v.items.length ∧ hasBagL (v.items.drop i) = hasBagL v.items} => [(0, some ⟨[.d v.enc], 6, 25, true, true⟩)]) (fun i : {i : Nat // i ≤ v.items.length ∧ hasBagL (v.items.drop i) = hasBagL v.items} => v.items.length - i.1) [0] (⟨0, by omega, rfl⟩ : {i : Nat // i ≤ v.items.length ∧ hasBagL (v.items.drop i) = hasBagL v.items}) (by rfl) (by rfl) ?_ ?_ fun i => ?_
    · rfl
    · rfl
    obtain ⟨i, hi1, hi2⟩ := i
    refine zE2 fun C hC => ?_
    generalize Q0 : v.enc = Z0
    generalize Q1 : DV.int .i64 (i : Int) = Z1
    generalize Q2 : DV.bool r = Z2
    cbv
    subst Q0 Q1 Q2
    subst hC
    refine ⟨?_⟩
    simp (maxSteps:=9999999) only [hI, hF, std]
    have w3 := zE6 (n := i) (by omega)
    by_cases hlt : i < v.items.length
    · have g1 := zH8 _ _ hlt
      have k1 := V.ok_get hv hlt
      have k3 : (v.items.getD i default).sz < n := by
        have := V.sz_item (v := v) (x := v.items.getD i default) (by simp [List.getD, List.getElem?_eq_getElem hlt])
        omega
      have hst := hasBagL_step v.items i hlt
      simp only [smp, smo, lookOk, lookRes, sfOf, ↓reduceIte, Nat.reduceEqDiff, reduceCtorEq, qA, eVn, e1, g1]
      simp [- List.getD_eq_getElem?_getD, - Subtype.exists, - Prod.exists, - Bool.exists_bool, hlt, w3, qA, k1, k3]
      refine ⟨fun h => ?_, fun h => ⟨⟨i + 1, by omega, ?_⟩, by show v.items.length - (i + 1) < v.items.length - i; omega, rfl⟩⟩
      · rw [← hr, hb, ← hi2, hst, h]; rfl
      · rw [← hi2, hst, h]; rfl
    · simp only [smp, smo, lookOk, lookRes, sfOf, ↓reduceIte, Nat.reduceEqDiff, reduceCtorEq, qA, eVn, e1]
      simp [- List.getD_eq_getElem?_getD, - Subtype.exists, - Prod.exists, - Bool.exists_bool, hlt]
      rw [← hr, hb, ← hi2, List.drop_of_length_le (by omega)]; rfl
theorem pc3033 (v : V) (hv : v.ok) : PureCall Tryz.prog [0] 33 [v.enc] (dRet (.bool (hasBag v))) := pc3033n (v.sz + 1) v hv (by omega)
open Classical in
noncomputable def e3033 : Ent := ⟨33, fun | [d_v] => decide (isV d_v) | _ => false, fun | [d_v] => .bool (hasBag (toV d_v)) | _ => .inil⟩
open Classical in
theorem ok3033 : EntOk Tryz.prog [0] e3033 := fun ds h => by
  unfold e3033 at h ⊢
  simp only at h ⊢
  split at h
  · rw [decide_eq_true_iff] at h
    obtain ⟨v0, rfl, k0⟩ := h
    simp only [zB2, zA4, zA5]
    exact pc3033 _ k0
  · cases h
theorem pc3012 (v : V) (hv : v.ok) : PureCall Tryz.prog [0] 12 [v.enc] (dRet (.bool (hasBag v))) := by
  refine zD0 mixed fn3012 (Nat.le_of_ble_eq_true rfl) (Nat.lt_of_succ_le (Nat.le_of_ble_eq_true rfl)) (sfOk (.cons ok3033 .nil)) TbOk (lv := lv0) fun I F hI hF => ?_
  refine zE2 fun C hC => ?_
  generalize Q0 : v.enc = Z0
  cbv
  subst Q0
  subst hC
  refine ⟨?_⟩
  simp (maxSteps:=9999999) only [hI, hF, std]
  simp only [smp, smo, lookOk, lookRes, sfOf, ↓reduceIte, Nat.reduceEqDiff, reduceCtorEq, qA, e3033]
  simp [qA, hv]
open Classical in
noncomputable def e3012 : Ent := ⟨12, fun | [d_v] => decide (isV d_v) | _ => false, fun | [d_v] => .bool (hasBag (toV d_v)) | _ => .inil⟩
open Classical in
theorem ok3012 : EntOk Tryz.prog [0] e3012 := fun ds h => by
  unfold e3012 at h ⊢
  simp only at h ⊢
  split at h
  · rw [decide_eq_true_iff] at h
    obtain ⟨v0, rfl, k0⟩ := h
    simp only [zB2, zA4, zA5]
    exact pc3012 _ k0
  · cases h
end Go.Proofs.Sx

namespace Go.Proofs.Sx
open Go Go.Proofs Go.Proofs.Am 
variable {gs : List Nat}

mutual
def nV : V → V
  | .mk k n e s nm it => .mk k n e s (mkS (nm.getD [])) (nO it)
def nO : Option (List V) → Option (List V)
  | none => none
  | some l => mkO (nL l)
def nL : List V → List V
  | [] => []
  | v :: r => nV v :: nL r
end
theorem nL_map : ∀ l, nL l = l.map nV
  | [] => rfl
  | v :: r => by rw [nL, nL_map r]; rfl
theorem nV_eq (v : V) : nV v = .mk v.k v.n v.e v.s (mkS v.names) (mkO (v.items.map nV)) := by
  obtain ⟨k, n, e, s, nm, it⟩ := v
  cases it with
  | none => rfl
  | some l => rw [nV, nO, nL_map]; rfl
theorem nV_k (v : V) : (nV v).k = v.k := by rw [nV_eq]; rfl
theorem nV_n (v : V) : (nV v).n = v.n := by rw [nV_eq]; rfl
theorem nV_e (v : V) : (nV v).e = v.e := by rw [nV_eq]; rfl
theorem nV_s (v : V) : (nV v).s = v.s := by rw [nV_eq]; rfl
theorem nV_names (v : V) : (nV v).names = v.names := by rw [nV_eq]; exact mkS_get _
theorem nV_items (v : V) : (nV v).items = v.items.map nV := by rw [nV_eq]; exact mkO_get _
theorem nV_size : ∀ (n : Nat) (v : V), v.sz < n → (nV v).sz = v.sz ∧ (nV v).dep = v.dep
  | 0, v, h => by omega
  | n + 1, v, h => by
    have hi : ∀ x ∈ v.items, (nV x).sz = x.sz ∧ (nV x).dep = x.dep := fun x hx => nV_size n x (by have := V.sz_item hx; omega)
    have hl : ∀ (l : List V), (∀ x ∈ l, (nV x).sz = x.sz ∧ (nV x).dep = x.dep) → szL (l.map nV) = szL l ∧ depL (l.map nV) = depL l := fun l => by
      induction l with
      | nil => intro _; exact ⟨rfl, rfl⟩
      | cons x l ih =>
        intro hx
        obtain ⟨a, b⟩ := hx x (List.mem_cons_self ..)
        obtain ⟨c, d⟩ := ih fun y hy => hx y (List.mem_cons_of_mem _ hy)
        rw [List.map_cons, szL, szL, depL, depL, a, b, c, d]
        exact ⟨rfl, rfl⟩
    obtain ⟨c, d⟩ := hl v.items hi
    rw [V.sz_eq, V.dep_eq (nV v), V.sz_eq v, V.dep_eq v, nV_items, c, d]
    exact ⟨rfl, rfl⟩
theorem hasBagL_mem {l : List V} (h : hasBagL l = false) : ∀ x ∈ l, hasBag x = false := by
  induction l with
  | nil => intro x hx; cases hx
  | cons v l ih =>
    intro x hx
    rw [hasBagL, Bool.or_eq_false_iff] at h
    rcases List.mem_cons.1 hx with rfl | hx
    · exact h.1
    · exact ih h.2 x hx
theorem nobag {v : V} (h : hasBag v = false) : v.k ≠ 11 ∧ ∀ x ∈ v.items, hasBag x = false := by
  rw [hasBag_eq, Bool.or_eq_false_iff] at h
  exact ⟨by simpa using h.1, hasBagL_mem h.2⟩
theorem plainL_zero_of {l : List V} (h : ∀ x ∈ l, plainE x = 0) : plainL l = 0 := by
  induction l with
  | nil => rfl
  | cons v l ih =>
    rw [plainL, h v (List.mem_cons_self ..), if_neg (fun h => h rfl)]
    exact ih fun x hx => h x (List.mem_cons_of_mem _ hx)
theorem nV_plain : ∀ (n : Nat) (v : V), v.sz < n → plainE v = 0 → hasBag v = false → plainE (nV v) = 0
  | 0, v, h, _, _ => by omega
  | n + 1, v, h, hp, hb => by
    obtain ⟨h1, h2⟩ := plain0 hp
    obtain ⟨b1, b2⟩ := nobag hb
    have ho : ownE (nV v) = 0 := (ownE_congr (nV_k v) (nV_n v) (nV_e v) (nV_s v) (nV_names v) (by rw [nV_items, List.length_map]) fun h => absurd ((nV_k v).symm.trans h) b1).trans h1
    rw [plainE_eq, ho, if_neg (fun h => h rfl), nV_items]
    refine plainL_zero_of fun x hx => ?_
    obtain ⟨y, hy, rfl⟩ := List.mem_map.1 hx
    exact nV_plain n y (by have := V.sz_item hy; omega) (h2 y hy) (b2 y hy)
theorem nV_small (v : V) (n : Nat) : smallV (nV v) n = smallV v n := by
  obtain ⟨a, b⟩ := nV_size _ v (Nat.lt_succ_self _)
  rw [Bool.eq_iff_iff, smallV_iff, smallV_iff, a, b]
theorem nV_val (v : V) (h : valE v = 0) (hb : hasBag v = false) : (smallV (nV v) 120 && decide (valE (nV v) = 0)) = true := by
  unfold valE at h
  split at h
  · rename_i hs
    have hs' : smallV (nV v) ((120 : Nat) : Int) = true := (nV_small v 120).trans hs
    have hs' : smallV (nV v) 120 = true := hs'
    rw [hs', Bool.true_and, decide_eq_true_iff]
    unfold valE
    rw [if_pos hs']
    exact nV_plain _ v (Nat.lt_succ_self _) h hb
  · cases h
theorem cmp_nV : ∀ (n : Nat) (v w : V), v.sz < n → cmpV (nV v) w = cmpV v w
  | 0, v, w, h => by omega
  | n + 1, v, w, h => by
    have hl : ∀ (l r : List V), (∀ x ∈ l, ∀ y, cmpV (nV x) y = cmpV x y) → cmpL (l.map nV) r = cmpL l r := fun l => by
      induction l with
      | nil => intro r _; rfl
      | cons x l ih =>
        intro r hx
        cases r with
        | nil => rw [List.map_cons, cmpL, cmpL]
        | cons y r => rw [List.map_cons, cmpL, cmpL, hx x (List.mem_cons_self ..), ih r fun z hz => hx z (List.mem_cons_of_mem _ hz)]
    rw [cmpV_eq, cmpV_eq v w, nV_k, nV_n, nV_e, nV_s, nV_names, nV_items, hl v.items w.items fun x hx y => cmp_nV n x y (by have := V.sz_item hx; omega)]
theorem cmp_self (v : V) : cmpV (nV v) v = 0 := by
  rw [cmp_nV _ v v (Nat.lt_succ_self _)]
  have := cmpV_anti v v
  omega
theorem root_lit {v : V} (h : ownE v = 0) (hk : leafK v.k = true) (ar : Option (List Int)) :
    (0 ≤ (rootV id v.k v.n v.s v.nm).k ∧ (rootV id v.k v.n v.s v.nm).k ≤ 6) ∧ litV ⟨(rootV id v.k v.n v.s v.nm).k, (rootV id v.k v.n v.s v.nm).n, (rootV id v.k v.n v.s v.nm).tx, (rootV id v.k v.n v.s v.nm).nm, ar⟩ = nV v := by
  have ho := own0 h
  have hs := ho.s
  have hn := ho.n
  have hk' := hk
  simp only [leafK, decide_eq_true_eq] at hk'
  have e1 : v.items = [] := ho.it.resolve_left (by omega)
  have e2 : v.names = [] := ho.nm.resolve_left (by omega)
  rw [nV_eq, e1, e2, ho.e]
  show _ ∧ _ = V.mk v.k v.n 0 v.s none none
  unfold rootV
  by_cases k1 : v.k = 1
  · rw [if_pos k1, k1, hs.resolve_left (by omega)]; exact ⟨by constructor <;> simp, rfl⟩
  rw [if_neg k1]
  by_cases k2 : v.k = 2
  · rw [if_pos k2, k2, hs.resolve_left (by omega)]; exact ⟨by constructor <;> simp, rfl⟩
  rw [if_neg k2]
  by_cases k3 : v.k = 3
  · rw [if_pos k3, k3, hn.resolve_left (by omega)]; exact ⟨by constructor <;> simp, rfl⟩
  rw [if_neg k3]
  by_cases k4 : v.k = 4
  · rw [if_pos k4, k4, hn.resolve_left (by omega)]; exact ⟨by constructor <;> simp, rfl⟩
  rw [if_neg k4]
  by_cases k5 : v.k = 5
  · rw [if_pos k5, k5, hn.resolve_left (by omega)]; exact ⟨by constructor <;> simp, rfl⟩
  rw [if_neg k5]
  by_cases k6 : v.k = 6
  · rw [if_pos k6, k6, hn.resolve_left (by omega)]; exact ⟨by constructor <;> simp, rfl⟩
  rw [if_neg k6]
  have k14 : v.k = 14 := by omega
  rw [if_pos k14, k14, hs.resolve_left (by omega)]; exact ⟨by constructor <;> simp, rfl⟩
theorem root14 (k n : Int) (s : ByteArray) (nm) : (rootV id k n s nm).k ≠ 14 := by
  unfold rootV
  repeat' split
  all_goals (intro h; cases h)
def EvAt (ev : Int → Ev) (t : List Nd) (v : V) (m : Nat) : Prop := omitB t (((m + (tm sh id v).length : Nat) : Int) - 1) = false ∧ ev (((m + (tm sh id v).length : Nat) : Int) - 1) = .ok (nV v)
def EvAll (ev : Int → Ev) (t : List Nd) : Nat → List V → Prop
  | _, [] => True
  | p, v :: l => EvAt ev t v p ∧ EvAll ev t (p + (tm sh id v).length) l
theorem rts_all {ev : Int → Ev} {t : List Nd} : ∀ (l : List V) (p : Nat), EvAll ev t p l → allE ev (rts p (l.map (tm sh id))) = .ok (l.map nV)
  | [], _, _ => rfl
  | v :: l, p, h => by
    have h1 := h.1.2
    have h2 := rts_all l _ h.2
    simp only [List.map_cons, rts, allE]
    rw [h1]
    simp only
    rw [h2]
theorem rts_rec {ev : Int → Ev} {t : List Nd} : ∀ (l : List V) (p : Nat) (ns : List ByteArray), ns.length = l.length → EvAll ev t p l → recE ev (omitB t) (rts p (l.map (tm sh id))) ns = .ok (ns, l.map nV)
  | [], _, [], _, _ => rfl
  | [], _, _ :: _, h, _ => by simp at h
  | _ :: _, _, [], h, _ => by simp at h
  | v :: l, p, s :: ns, hn, h => by
    have h1 := h.1.2
    have h2 := rts_rec l _ ns (by simpa using hn) h.2
    simp only [List.map_cons, rts, recE]
    rw [if_neg (by rw [h.1.1]; exact fun h => nomatch h), h1]
    simp only [List.tail_cons, List.headD_cons]
    rw [h2]
theorem tm_last (v : V) (m : Nat) : ∃ ar, ((tm sh id v).map (sh m)).getD ((tm sh id v).length - 1) default = ⟨(rootV id v.k v.n v.s v.nm).k, (rootV id v.k v.n v.s v.nm).n, (rootV id v.k v.n v.s v.nm).tx, (rootV id v.k v.n v.s v.nm).nm, ar⟩ ∧
    ar = mkI (rts m (if leafK v.k = true then [] else v.items.map (tm sh id))) := by
  refine ⟨_, ?_, rfl⟩
  rw [zI8]
  generalize (if leafK v.k = true then [] else v.items.map (tm sh id)) = l
  rw [joinT_sh, joinT_len, List.getD_eq_getElem?_getD, Nat.add_sub_cancel, catP_len sh l 0 m, List.getElem?_append_right (Nat.le_refl _), Nat.sub_self]
  rfl
theorem keptE_nV {v : V} (h1 : v.sz ≤ 120) (h2 : v.dep ≤ 8) (h : ownE v = 0) (a : Int) : keptE (nV v) a = .ok (nV v) := by
  have ho := own0 h
  have hs : smallV (nV v) 120 = true := (nV_small v 120).trans ((smallV_iff v 120).2 ⟨h1, h2⟩)
  have hk : keptB (nV v) = true := by
    unfold keptB
    rw [hs, nV_s, nV_k, nV_items, List.length_map]
    have a1 := ho.big
    have a2 := ho.most
    simp [a1, a2]
  unfold keptE
  rw [if_pos hk]
theorem tm_eval (ap : (Int → Ev) → Nd → Int → Ev) (t : List Nd) (en : List B) : ∀ (n : Nat) (v : V), v.sz < n → plainE v = 0 → hasBag v = false → v.sz ≤ 120 → v.dep ≤ 8 → ∀ (m : Nat), Seg t m ((tm sh id v).map (sh m)) → ∀ N : Nat, m + (tm sh id v).length ≤ N → EvAt (evalF ap t en N) t v m
  | 0, v, hn, _, _, _, _ => by omega
  | n + 1, v, hn, hp, hb, hs, hd => by
    intro m hseg N hN
    obtain ⟨p1, p2⟩ := plain0 hp
    obtain ⟨b1, b2⟩ := nobag hb
    have ho := own0 p1
    have hpos := tm_pos v
    obtain ⟨ar, hlast, har⟩ := tm_last v m
    have hroot : t.getD (m + ((tm sh id v).length - 1)) default = ⟨(rootV id v.k v.n v.s v.nm).k, (rootV id v.k v.n v.s v.nm).n, (rootV id v.k v.n v.s v.nm).tx, (rootV id v.k v.n v.s v.nm).nm, ar⟩ := (hseg _ (by rw [List.length_map]; omega)).2.trans hlast
    have ha : (((m + (tm sh id v).length : Nat) : Int) - 1).toNat = m + ((tm sh id v).length - 1) := by omega
    refine ⟨?_, ?_⟩
    · unfold omitB
      rw [ha, hroot]
      exact decide_eq_false (root14 _ _ _ _)
    · obtain ⟨N, rfl⟩ : ∃ N', N = N' + 1 := ⟨N - 1, by omega⟩
      rw [evalF]
      unfold nodeV
      rw [ha, hroot]
      by_cases hk : leafK v.k = true
      · obtain ⟨k1, k2⟩ := root_lit p1 hk ar
        simp only
        rw [if_pos k1, k2]
      · rw [if_neg hk] at har
        have hargs : ∀ k n t nm, (Nd.mk k n t nm ar).args = rts m (v.items.map (tm sh id)) := fun k n t nm => by
          show ar.getD [] = _
          rw [har, mkI_get]
        have hall : EvAll (evalF ap t en N) t m v.items := by
          have h0 : Seg t m (catP sh m (v.items.map (tm sh id))) := by
            have := hseg
            rw [zI8, if_neg hk, joinT_sh] at this
            exact this.app.1
          have hlen : m + (catP sh m (v.items.map (tm sh id))).length ≤ N := by
            have e := zI8 sh id v
            rw [if_neg hk] at e
            have := joinT_len sh (rootV id v.k v.n v.s v.nm) (v.items.map (tm sh id))
            rw [← e] at this
            rw [catP_len sh _ m 0]
            omega
          have key : ∀ (l : List V) (p : Nat), (∀ x ∈ l, x ∈ v.items) → Seg t p (catP sh p (l.map (tm sh id))) → p + (catP sh p (l.map (tm sh id))).length ≤ N → EvAll (evalF ap t en N) t p l := fun l => by
            induction l with
            | nil => intro p _ _ _; trivial
            | cons x l ih =>
              intro p hx hsg hle
              simp only [List.map_cons, catP] at hsg hle
              rw [List.length_append, List.length_map] at hle
              have hxi := hx x (List.mem_cons_self ..)
              have hz := V.sz_item hxi
              have hdp := depL_mem hxi
              have hde := v.dep_eq
              have hsg2 := hsg.app.2
              rw [List.length_map] at hsg2
              exact ⟨tm_eval ap t en n x (by omega) (p2 x hxi) (b2 x hxi) (by omega) (by omega) p hsg.app.1 N (by omega), ih _ (fun y hy => hx y (List.mem_cons_of_mem _ hy)) hsg2 (by omega)⟩
          exact key v.items m (fun x hx => hx) h0 hlen
        have hnl : ¬ ((1 ≤ v.k ∧ v.k ≤ 6) ∨ v.k = 14) := by simpa [leafK] using hk
        have hkk := ho.kind
        have hkept := keptE_nV hs hd p1
        have hn0 : v.n = 0 := ho.n.resolve_left (by omega)
        have hs0 : v.s = ⟨#[]⟩ := ho.s.resolve_left (by omega)
        have hnv := nV_eq v
        rw [hn0, ho.e, hs0] at hnv
        have hrv : rootV id v.k v.n v.s v.nm = if v.k = 9 then ⟨9, 0, ⟨#[]⟩, id v.nm, none⟩ else if v.k = 12 then ⟨11, 0, ⟨#[]⟩, id v.nm, none⟩ else ⟨10, 0, ⟨#[]⟩, none, none⟩ := by
          unfold rootV
          rw [if_neg (by omega), if_neg (by omega), if_neg (by omega), if_neg (by omega), if_neg (by omega), if_neg (by omega), if_neg (by omega)]
          rfl
        rw [hrv]
        by_cases k9 : v.k = 9
        · rw [if_pos k9]
          simp only
          rw [if_neg (by omega), if_neg (by omega), if_pos (by trivial), hargs]
          have hnames : ∀ k n t, (Nd.mk k n t (id v.nm) ar).names = v.names := fun _ _ _ => rfl
          rw [hnames, rts_rec v.items m v.names (ho.len (.inl k9)) hall]
          simp only
          rw [k9] at hnv
          rw [← hnv]
          exact hkept _
        rw [if_neg k9]
        by_cases k12 : v.k = 12
        · rw [if_pos k12]
          simp only
          rw [if_neg (by omega), if_neg (by omega), if_neg (by omega), if_neg (by omega), if_pos (by trivial), hargs, rts_all v.items m hall]
          simp only
          have hnm : id v.nm = mkS v.names := by
            have q1 := ho.len (.inr k12)
            have q2 := ho.one k12
            have q3 : v.names.length = 1 := by omega
            unfold V.names at q3 ⊢
            cases hv : v.nm with
            | none => rw [hv] at q3; simp at q3
            | some l =>
              rw [hv] at q3
              show some l = mkS l
              unfold mkS
              rw [if_neg]
              rintro rfl
              simp at q3
          rw [hnm]
          rw [k12] at hnv
          rw [← hnv]
          exact hkept _
        rw [if_neg k12]
        have k10 : v.k = 10 := by omega
        simp only
        rw [if_neg (by omega), if_neg (by omega), if_neg (by omega), if_pos (by trivial), hargs, rts_all v.items m hall]
        simp only
        have hnm0 : v.names = [] := ho.nm.resolve_left (by omega)
        rw [k10, hnm0] at hnv
        have e0 : mkS [] = none := rfl
        rw [e0] at hnv
        rw [← hnv]
        exact hkept _
theorem map_sh0 (l : List Nd) : l.map (sh ((0 : Nat) : Int)) = l := by
  calc l.map (sh ((0 : Nat) : Int)) = l.map id := List.map_congr_left fun x _ => by
        cases x with | mk k n t nm ar =>
          cases ar with
          | none => rfl
          | some l => simp [sh]
    _ = _ := List.map_id _
theorem tm_value (ap : (Int → Ev) → Nd → Int → Ev) (en : List B) (v : V) (hv : valE v = 0) (hb : hasBag v = false) : valueE ap (tm sh id v) en = .ok (nV v) := by
  unfold valE at hv
  split at hv
  · rename_i hs
    obtain ⟨h1, h2⟩ := (smallV_iff v 120).1 hs
    have := (tm_eval ap (tm sh id v) en _ v (Nat.lt_succ_self _) hv hb h1 h2 0 (by rw [map_sh0]; exact Seg.self _) (tm sh id v).length (by omega)).2
    rw [Nat.zero_add] at this
    exact this
  · cases hv
#print axioms tm_value
end Go.Proofs.Sx

namespace Go.Proofs.Sx
open Go Go.Proofs Go.Proofs.Am 
variable {gs : List Nat}

theorem pc1084n : PureCall Tryz.prog [0] 59 [.snil] (dRet .snil) := by
  refine zH7 mixed fn1084 (Nat.le_of_ble_eq_true rfl) (Nat.lt_of_succ_le (Nat.le_of_ble_eq_true rfl)) (sfOk .nil) TbOk (lv := lv0) fun I F hI hF => ?_
  refine zE2 fun C hC => ?_
  generalize Q0 : DV.int .i64 0 = Z0
  cbv
  subst Q0
  subst hC
  refine ⟨?_⟩
  simp (maxSteps:=9999999) only [hI, hF, std]
  simp only [smp, smo, lookOk, lookRes, sfOf, ↓reduceIte, Nat.reduceEqDiff, reduceCtorEq, qA, isNeq_eql0, tupA]
  simp; rfl
theorem pc1084 (u : DV) (h : u = .snil) : PureCall Tryz.prog [0] 59 [u] (dRet .snil) := h ▸ pc1084n
open Classical in
noncomputable def e1084 : Ent := ⟨59, fun | [u] => decide (u = DV.snil) | _ => false, fun | [u] => .snil | _ => .inil⟩
open Classical in
theorem zK9 : EntOk Tryz.prog [0] e1084 := fun ds h => by
  unfold e1084 at h ⊢
  simp only at h ⊢
  split at h
  · exact pc1084 _ (of_decide_eq_true h)
  · cases h
theorem pc1084s (l : List Int) (h : l.length ≤ 1048576) : PureCall Tryz.prog [0] 59 [.sim (l.map (DV.int .i64))] (fRet 1 3 (l.map (DV.int .i64))) := by
  refine fr_of_tree mixed fn1084 (Nat.le_of_ble_eq_true rfl) (Nat.lt_of_succ_le (Nat.le_of_ble_eq_true rfl)) (sfOk .nil) TbOk (lv := lv0) fun I F hI hF => ?_
  refine zE2 fun C hC => ?_
  generalize Q0 : DV.sim (l.map (DV.int .i64)) = Z0
  cbv
  subst Q0
  subst hC
  refine ⟨?_⟩
  simp (maxSteps:=9999999) only [hI, hF, std]
  simp only [smp, smo, lookOk, lookRes, sfOf, ↓reduceIte, Nat.reduceEqDiff, reduceCtorEq, qA, isNeq_eql0, zF5, tupA, List.take_nil, List.nil_append, List.length_map]
  have h2 : l.length ≤ 4294967296 := by omega
  have h3 : ∀ v : Int, (DV.int .i64 v).cells.length = 1 := fun v => rfl
  simp [- List.getD_eq_getElem?_getD, h2, h3]
  rfl
open Classical in
noncomputable def f1084 : FEnt := ⟨59, 1, 3, fun | [d] => decide (isIs d ∧ d ≠ .snil) | _ => false, fun | [d] => ((toIs d).getD []).map (DV.int .i64) | _ => []⟩
open Classical in
theorem fk1084 : FEntOk Tryz.prog [0] f1084 := fun ds h => by
  unfold f1084 at h ⊢
  simp only at h ⊢
  split at h
  · rw [decide_eq_true_iff] at h
    obtain ⟨⟨o, rfl, hk⟩, hn⟩ := h
    simp only [zC2]
    cases o with
    | none => exact absurd rfl hn
    | some l =>
      have h2 := pc1084s l hk
      simp only [encIs]
      exact h2
  · cases h
def encTs (o : Option (List (List Nd))) : DV := match o with
  | none => .snil
  | some l => .sim (l.map fun t => encT (some t))
theorem encTs_inj {a b : Option (List (List Nd))} (h : encTs a = encTs b) : a = b := by
  cases a <;> cases b <;> simp [encTs] at h <;> first | rfl | skip
  rename_i l r
  congr
  induction l generalizing r with
  | nil => cases r <;> first | rfl | simp at h
  | cons x l ih => cases r with
    | nil => simp at h
    | cons y r =>
      simp at h
      have := encT_inj h.1
      rw [Option.some.inj this, ih r h.2]
theorem zG6 (o : Option (List (List Nd))) : lstD (encTs o) = (o.getD []).map fun t => encT (some t) := by cases o <;> simp [encTs, lstD]
theorem zG3 (o : Option (List (List Nd))) : isSlD (encTs o) = true := by cases o <;> simp [encTs, isSlD]
theorem get_encTs (l : List (List Nd)) (i : Nat) (h : i < l.length) : (l.map fun t => encT (some t)).getD i .inil = encT (some (l.getD i [])) := by
  simp [List.getD, List.getElem?_map, List.getElem?_eq_getElem h]
theorem mapM_snoc {α β : Type} {f : α → Option β} : ∀ {l : List α} {r : List β} {x : α} {y : β}, l.mapM f = some r → f x = some y → (l ++ [x]).mapM f = some (r ++ [y])
  | [], r, x, y, h, h2 => by
    simp only [List.mapM_nil] at h
    cases h
    simp only [List.nil_append, List.mapM_cons, h2, List.mapM_nil]; rfl
  | a :: l, r, x, y, h, h2 => by
    simp only [List.mapM_cons] at h
    obtain ⟨b, hb, h⟩ := Option.bind_eq_some_iff.1 h
    obtain ⟨q, hq, h⟩ := Option.bind_eq_some_iff.1 h
    cases h
    simp only [List.cons_append, List.mapM_cons, hb, mapM_snoc hq h2]; rfl
theorem frzEls_d (lh : LM) (l : List DV) : frzEls lh (l.map .d) = l.map .d := by
  unfold frzEls; rw [mapM_d]; rfl
theorem frzOk_d (lh : LM) (kept : List Nat) (l : List DV) : frzElsOk lh kept (l.map .d) = true := by
  unfold frzElsOk
  rw [mapM_d]
  simp only [Option.isSome_some, Bool.true_and, List.all_eq_true, List.mem_flatMap, List.mem_map]
  rintro b ⟨x, ⟨d, _, rfl⟩, hb⟩
  cases hb
theorem zK2 {lh : LM} {l : List DV} {e : AV} {d : DV} (h : frz lh.get 8 e = some d) : frzEls lh (l.map .d ++ [e]) = (l ++ [d]).map .d := by
  unfold frzEls
  rw [mapM_snoc (mapM_d _ _ _) h]; rfl
theorem frzOk_one {lh : LM} {kept : List Nat} {l : List DV} {e : AV} {d : DV} (h : frz lh.get 8 e = some d) (hr : ∀ b ∈ reach lh.get 8 e, kept.contains b = false) : frzElsOk lh kept (l.map .d ++ [e]) = true := by
  unfold frzElsOk
  rw [mapM_snoc (mapM_d _ _ _) h]
  simp only [Option.isSome_some, Bool.true_and, List.all_eq_true, List.mem_flatMap, List.mem_append, List.mem_map, List.mem_singleton]
  rintro b ⟨x, ⟨d, _, rfl⟩ | rfl, hb⟩
  · cases hb
  · rw [hr b hb]; rfl
end Go.Proofs.Sx

namespace Go.Proofs.Sx
open Go Go.Proofs Go.Proofs.Am 
variable {gs : List Nat}

def jnS (g : Int → Nd → Nd) (x : Nd) : List Nd → List Int → List (List Nd) → List Nd
  | O, R, [] => O ++ [⟨x.k, x.n, x.tx, x.nm, mkI R⟩]
  | O, R, t :: l => jnS g x (O ++ t.map (g O.length)) (R ++ [((O.length + t.length : Nat) : Int) - 1]) l
theorem jnS_eq (g x) : ∀ (l : List (List Nd)) (O : List Nd) (R : List Int), jnS g x O R l = O ++ catP g O.length l ++ [⟨x.k, x.n, x.tx, x.nm, mkI (R ++ rts O.length l)⟩]
  | [], O, R => by simp [jnS, catP, rts]
  | t :: l, O, R => by
    rw [jnS, jnS_eq g x l]
    simp only [List.length_append, List.length_map, catP, rts, List.append_assoc, List.singleton_append]
theorem jnS_join (g x l) : jnS g x [] [] l = joinT g x l := by
  rw [jnS_eq]; rfl
structure JOk (l : List (List Nd)) : Prop where
  len : l.length ≤ 1048576
  pos : ∀ t ∈ l, t ≠ []
  ok : ∀ t ∈ l, okT (some t)
  ar : ∀ t ∈ l, ∀ y ∈ t, ∀ a ∈ y.args, 0 ≤ a ∧ a ≤ 1048576
def totL : List (List Nd) → Nat
  | [] => 0
  | t :: l => t.length + totL l
def rtA (x : Nd) : Bool → Nat → AV
  | false, _ => .agg [.d (.int .i64 x.k), .d (.int .i64 x.n), .d (.str x.tx), .d (encS x.nm), .d .snil]
  | true, n => .agg [.d (.int .i64 x.k), .d (.int .i64 x.n), .d (.str x.tx), .d (encS x.nm), .slc 2 1 0 n]
def accN (b es : Nat) : Bool → Nat → AV
  | false, _ => .d .snil
  | true, n => .slc b es 0 n
def outJ (g : Int → Nd → Nd) (O t : List Nd) (j : Nat) : List Nd := O ++ (t.take j).map (g O.length)
theorem outJ_len {g} {O t : List Nd} {j : Nat} (h : j ≤ t.length) : (outJ g O t j).length = O.length + j := by
  simp only [outJ, List.length_append, List.length_map, List.length_take]; omega
theorem zJ5 {g} {O t : List Nd} {j : Nat} (h : j < t.length) : outJ g O t (j + 1) = outJ g O t j ++ [g O.length (t.getD j default)] := by
  unfold outJ
  rw [List.take_add_one, List.map_append, List.append_assoc]
  simp [List.getD, List.getElem?_eq_getElem h]
theorem outJ_all (g) (O t : List Nd) : outJ g O t t.length = O ++ t.map (g O.length) := by
  unfold outJ; rw [List.take_length]
theorem outJ_zero (g) (O t : List Nd) : outJ g O t 0 = O := by simp [outJ]
theorem totL_step {l : List (List Nd)} {i : Nat} (h : i < l.length) : totL (l.drop i) = (l.getD i []).length + totL (l.drop (i + 1)) := by
  rw [List.drop_eq_getElem_cons h, totL]
  simp [List.getD, List.getElem?_eq_getElem h]
theorem jnS_step {g x} {O : List Nd} {R : List Int} {l : List (List Nd)} {i : Nat} (h : i < l.length) : jnS g x O R (l.drop i) = jnS g x (O ++ (l.getD i []).map (g O.length)) (R ++ [((O.length + (l.getD i []).length : Nat) : Int) - 1]) (l.drop (i + 1)) := by
  rw [List.drop_eq_getElem_cons h, jnS]
  simp [List.getD, List.getElem?_eq_getElem h]
theorem memN {l : List Nd} {i : Nat} (h : i < l.length) : l.getD i default ∈ l := by
  simp [List.getD, List.getElem?_eq_getElem h]
theorem memT {l : List (List Nd)} {i : Nat} (h : i < l.length) : l.getD i [] ∈ l := by
  simp [List.getD, List.getElem?_eq_getElem h]
def mapK (f : Nat) (l : List Int) (k : Nat) : List Int := (l.take k).map (· + (f : Int)) ++ l.drop k
theorem zK6 (f : Nat) (l : List Int) (k : Nat) : (mapK f l k).length = l.length := by
  simp only [mapK, List.length_append, List.length_map, List.length_take, List.length_drop]; omega
theorem mapK_get {f : Nat} {l : List Int} {k : Nat} (h : k < l.length) : (mapK f l k).getD k 0 = l.getD k 0 := by
  simp only [mapK, List.getD_eq_getElem?_getD]
  rw [List.getElem?_append_right (by simp; omega)]
  simp only [List.length_map, List.length_take, Nat.min_eq_left (Nat.le_of_lt h), Nat.sub_self, List.getElem?_drop, Nat.add_zero]
theorem mapK_set {f : Nat} {l : List Int} {k : Nat} (h : k < l.length) : (mapK f l k).set k (l.getD k 0 + (f : Int)) = mapK f l (k + 1) := by
  apply List.ext_getElem
  · rw [List.length_set, zK6, zK6]
  · intro j h1 h2
    rw [List.getElem_set]
    have hj : j < l.length := by rw [zK6] at h2; exact h2
    have e1 : ∀ q (hq : j < (mapK f l q).length), (mapK f l q)[j] = if j < q then l[j] + (f : Int) else l[j] := fun q hq => by
      simp only [mapK]
      by_cases hjq : j < q
      · rw [List.getElem_append_left (by simp; omega), if_pos hjq]; simp
      · rw [List.getElem_append_right (by simp; omega), if_neg hjq]
        simp only [List.length_map, List.length_take, List.getElem_drop]
        congr 1
        omega
    rw [e1, e1]
    by_cases hk : k = j
    · subst hk
      rw [if_pos rfl, if_pos (by omega)]
      simp [List.getD, List.getElem?_eq_getElem h]
    · rw [if_neg hk]
      by_cases hjk : j < k
      · rw [if_pos hjk, if_pos (by omega)]
      · rw [if_neg hjk, if_neg (by omega)]
theorem mapK_all (f : Nat) (l : List Int) : mapK f l l.length = l.map (· + (f : Int)) := by
  simp [mapK]
def accI (l : List Int) : List AV := l.map (AV.d ∘ DV.int .i64)
theorem zH0 (l : List Int) : (accI l).length = l.length := by simp [accI]
theorem accI_getD {l : List Int} {k : Nat} (h : k < l.length) : (accI l).getD k .undef = .d (.int .i64 (l.getD k 0)) := by
  simp [accI, List.getD, List.getElem?_eq_getElem h]
theorem accI_get {l : List Int} {k : Nat} (h : k < l.length) : dgetA (accI l) k = .int .i64 (l.getD k 0) := by
  unfold dgetA; rw [accI_getD h]
theorem accI_set (l : List Int) (k : Nat) (a : Int) : (accI l).set k (.d (.int .i64 a)) = accI (l.set k a) := by
  simp [accI, List.map_set]
theorem accI_bel (m : Nat) (l : List Int) : (accI l).all (bel m 8) = true := by
  simp [accI, bel]
theorem memJ {l : List Int} {i : Nat} (h : i < l.length) : l.getD i 0 ∈ l := by
  simp [List.getD, List.getElem?_eq_getElem h]
theorem frz_nd {lh : LM} {b ty n : Nat} {l : List Int} (hb : lh.get b = some ⟨accI l, 1, ty, true, true⟩) (hn : l.length = n) (h : n ≤ 1048576) (k m : Int) (s : ByteArray) (nm : Option (List ByteArray)) :
    frz lh.get 8 (.agg [.d (.int .i64 k), .d (.int .i64 m), .d (.str s), .d (encS nm), .slc b 1 0 n]) = some (encN ⟨k, m, s, nm, some l⟩) ∧ reach lh.get 8 (.agg [.d (.int .i64 k), .d (.int .i64 m), .d (.str s), .d (encS nm), .slc b 1 0 n]) = [b] := by
  have e : accI l = (l.map (DV.int .i64)).map .d := by simp [accI]
  constructor
  · have hl : 0 + n ≤ (accI l).length ∧ n ≤ big := ⟨by rw [zH0]; omega, by unfold big; omega⟩
    have h2 : frz lh.get 7 (.slc b 1 0 n) = some (.sim (l.map (DV.int .i64))) := by
      simp only [frz, hb, if_pos hl, List.drop_zero]
      rw [List.take_of_length_le (by rw [zH0]; omega), e, mapM_d]; rfl
    rw [show frz lh.get 8 (.agg [.d (.int .i64 k), .d (.int .i64 m), .d (.str s), .d (encS nm), .slc b 1 0 n]) = ([AV.d (.int .i64 k), .d (.int .i64 m), .d (.str s), .d (encS nm), .slc b 1 0 n].mapM (frz lh.get 7)).map DV.agg from rfl]
    simp only [List.mapM_cons, h2, List.mapM_nil]
    rfl
  · have hr : (accI l).flatMap (reach lh.get 6) = [] := by
      rw [e]
      apply List.flatMap_eq_nil_iff.2
      intro x hx
      obtain ⟨d, _, rfl⟩ := List.mem_map.1 hx
      rfl
    have h2 : reach lh.get 7 (.slc b 1 0 n) = [b] := by
      simp only [reach, hb, hr]
    rw [show reach lh.get 8 (.agg [.d (.int .i64 k), .d (.int .i64 m), .d (.str s), .d (encS nm), .slc b 1 0 n]) = [AV.d (.int .i64 k), .d (.int .i64 m), .d (.str s), .d (encS nm), .slc b 1 0 n].flatMap (reach lh.get 7) from rfl]
    simp only [List.flatMap_cons, List.flatMap_nil, h2, List.append_nil]
    rfl
theorem frz_nd7 {lh : LM} {b ty n : Nat} {l : List Int} (hb : lh.get b = some ⟨accI l, 1, ty, true, true⟩) (hn : l.length = n) (h : n ≤ 1048576) (k m : Int) (s : ByteArray) (nm : Option (List ByteArray)) :
    frz lh.get 7 (.agg [.d (.int .i64 k), .d (.int .i64 m), .d (.str s), .d (encS nm), .slc b 1 0 n]) = some (encN ⟨k, m, s, nm, some l⟩) ∧ reach lh.get 7 (.agg [.d (.int .i64 k), .d (.int .i64 m), .d (.str s), .d (encS nm), .slc b 1 0 n]) = [b] := by
  have e : accI l = (l.map (DV.int .i64)).map .d := by simp [accI]
  constructor
  · have hl : 0 + n ≤ (accI l).length ∧ n ≤ big := ⟨by rw [zH0]; omega, by unfold big; omega⟩
    have h2 : frz lh.get 6 (.slc b 1 0 n) = some (.sim (l.map (DV.int .i64))) := by
      simp only [frz, hb, if_pos hl, List.drop_zero]
      rw [List.take_of_length_le (by rw [zH0]; omega), e, mapM_d]; rfl
    rw [show frz lh.get 7 (.agg [.d (.int .i64 k), .d (.int .i64 m), .d (.str s), .d (encS nm), .slc b 1 0 n]) = ([AV.d (.int .i64 k), .d (.int .i64 m), .d (.str s), .d (encS nm), .slc b 1 0 n].mapM (frz lh.get 6)).map DV.agg from rfl]
    simp only [List.mapM_cons, h2, List.mapM_nil]
    rfl
  · have hr : (accI l).flatMap (reach lh.get 5) = [] := by
      rw [e]
      apply List.flatMap_eq_nil_iff.2
      intro x hx
      obtain ⟨d, _, rfl⟩ := List.mem_map.1 hx
      rfl
    have h2 : reach lh.get 6 (.slc b 1 0 n) = [b] := by
      simp only [reach, hb, hr]
    rw [show reach lh.get 7 (.agg [.d (.int .i64 k), .d (.int .i64 m), .d (.str s), .d (encS nm), .slc b 1 0 n]) = [AV.d (.int .i64 k), .d (.int .i64 m), .d (.str s), .d (encS nm), .slc b 1 0 n].flatMap (reach lh.get 6) from rfl]
    simp only [List.flatMap_cons, List.flatMap_nil, h2, List.append_nil]
    rfl
theorem frz_row2 {lh : LM} {b ty n : Nat} {L : List Nd} {e : AV} {d : Nd} (hb : lh.get b = some ⟨(L.map encN).map .d ++ [e], 5, ty, true, true⟩) (hn : n = L.length + 1) (hle : n ≤ 1048576) (he : frz lh.get 7 e = some (encN d)) :
    frz lh.get 8 (.slc b 5 0 n) = some (encT (some (L ++ [d]))) := by
  have hl : 0 + n ≤ ((L.map encN).map AV.d ++ [e]).length ∧ n ≤ big := ⟨by simp; omega, by unfold big; omega⟩
  simp only [frz, hb, if_pos hl, List.drop_zero]
  rw [List.take_of_length_le (by simp; omega), mapM_snoc (mapM_d _ _ _) he]
  simp [encT]
theorem jnS_end {g x} {O : List Nd} {R : List Int} {l : List (List Nd)} : jnS g x O R (l.drop l.length) = O ++ [⟨x.k, x.n, x.tx, x.nm, mkI R⟩] := by
  rw [List.drop_length, jnS]
theorem zJ8 {lh : LM} (k m : Int) (s : ByteArray) (nm : Option (List ByteArray)) :
    frz lh.get 8 (.agg [.d (.int .i64 k), .d (.int .i64 m), .d (.str s), .d (encS nm), .d .snil]) = some (encN ⟨k, m, s, nm, none⟩) ∧ reach lh.get 8 (.agg [.d (.int .i64 k), .d (.int .i64 m), .d (.str s), .d (encS nm), .d .snil]) = [] := ⟨rfl, rfl⟩
theorem frzEls_sing {lh : LM} {e : AV} {d : DV} (h : frz lh.get 8 e = some d) : frzEls lh [e] = [.d d] := zK2 (l := []) h
theorem frzOk_sing {lh : LM} {kept : List Nat} {e : AV} {d : DV} (h : frz lh.get 8 e = some d) (hr : ∀ b ∈ reach lh.get 8 e, kept.contains b = false) : frzElsOk lh kept [e] = true := frzOk_one (l := []) h hr
theorem okN_sh {x : Nd} (d : Int) (h : okN x) : okN (sh d x) := by
  refine ⟨h.1, h.2.1, ?_⟩
  have := h.2.2
  cases x with | mk k n t nm ar =>
    cases ar with
    | none => exact this
    | some l => show (l.map (· + d)).length ≤ 1048576; rw [List.length_map]; exact this
def TbJ75T : BT := (.node 1000000 ⟨none, .other, [], none⟩ .nil (.node 4000059 ⟨none, .other, [], none⟩ .nil (.node 5000944 ⟨none, .other, [], none⟩ .nil (.node 5000945 ⟨none, .other, [], none⟩ .nil .nil))))
def TbJ75 : Nat → Option TRow := orT TbJ75T.get Tb
theorem zJ3 : TabOk Tryz.prog TbJ75 := tabOk_or (zI2 (by kernel_rfl)) TbOk
def lv3042 : Nat → List Nat × List Nat
  | 4 => ([2, 5, 13, 14, 15, 61], [500000, 10005, 10061])
  | 8 => ([2, 5, 8, 13, 14, 15, 21, 22, 23, 61], [0, 2, 10005, 1000005])
  | 12 => ([2, 5, 8, 10, 13, 14, 15, 21, 22, 23, 37, 38, 61], [0, 2, 3, 4, 10])
  | _ => ([], [])
set_option maxHeartbeats 4000000 in
theorem pc3042 (x : Nd) (o : Option (List (List Nd))) (hx : okN x) (ho : JOk (o.getD [])) (ht : totL (o.getD []) ≤ 1000000) :
    PureCall Tryz.prog [0] 42 [encN x, encTs o] (dRet (encT (some (joinT sh x (o.getD []))))) := by
  have hl := ho.len
  refine zH7 mixed fn3042 (Nat.le_of_ble_eq_true rfl) (Nat.lt_of_succ_le (Nat.le_of_ble_eq_true rfl)) (sfOkF (.cons ok54 (.cons zK9 (.cons zK9 .nil))) .nil (.cons fk1084 .nil)) zJ3 (lv := lv3042) fun I F hI hF => ?_
  refine zE2 fun C hC => ?_
  generalize Q0 : encN x = Z0
  generalize Q1 : encTs o = Z1
  cbv
  subst Q0 Q1
  subst hC
  refine ⟨?_⟩
  simp (maxSteps:=9999999) only [hI, hF, std]
  simp only [smp, smo, lookPn, lookPd, sfOfP, lookFo, lookFra, lookFrn, lookFes, lookFty, sfOfF, lookOk, lookRes, sfOf, sgOf, hOk, hRes, hOut, ↓reduceIte, Nat.reduceEqDiff, reduceCtorEq, qA, qB, zG6, zG3, List.length_map]
  refine ⟨rfl, rfl, ?_⟩
  refine zE1 (kend := fun I => kEnd I TbJ75 [.tmp 4]) hI hF (sfOkF (.cons ok54 (.cons zK9 (.cons zK9 .nil))) .nil (.cons fk1084 .nil)) zJ3 (by exact fun Bk e s h => endR zJ3 Bk e s h) (lv := lv3042) 0 (fun i : {i : Bool × Nat × List Nd × List Int // i.2.1 ≤ (o.getD []).length ∧ (i.1 = true ↔ 0 < i.2.1) ∧ (i.1 = true → i.2.2.1 ≠ []) ∧ (i.1 = false → i.2.2.1 = [] ∧ i.2.2.2 = []) ∧ i.2.2.1.length + totL ((o.getD []).drop i.2.1) ≤ 1000000 ∧ i.2.2.2.length = i.2.1 ∧ (∀ y ∈ i.2.2.1, okN y) ∧ jnS sh x i.2.2.1 i.2.2.2 ((o.getD []).drop i.2.1) = joinT sh x (o.getD [])} => [.loc 0 5 0 0, accN 1 5 i.1.1 i.1.2.2.1.length, .d (encTs o), .d (.int .i64 ((o.getD []).length : Int)), .d (.int .i64 (i.1.2.1 : Int)), accU 2 1 i.1.1 i.1.2.2.2.length]) (fun i : {i : Bool × Nat × List Nd × List Int // i.2.1 ≤ (o.getD []).length ∧ (i.1 = true ↔ 0 < i.2.1) ∧ (i.1 = true → i.2.2.1 ≠ []) ∧ (i.1 = false → i.2.2.1 = [] ∧ i.2.2.2 = []) ∧ i.2.2.1.length + totL ((o.getD []).drop i.2.1) ≤ 1000000 ∧ i.2.2.2.length = i.2.1 ∧ (∀ y ∈ i.2.2.1, okN y) ∧ jnS sh x i.2.2.1 i.2.2.2 ((o.getD []).drop i.2.1) = joinT sh x (o.getD [])} => [(0, some ⟨[rtA x i.1.1 i.1.2.2.2.length], 5, 54, true, true⟩), (1, accB 5 54 (i.1.2.2.1.map (AV.d ∘ encN)) i.1.1), (2, accB 1 3 (i.1.2.2.2.map (AV.d ∘ DV.int .i64)) i.1.1)]) (fun i : {i : Bool × Nat × List Nd × List Int // i.2.1 ≤ (o.getD []).length ∧ (i.1 = true ↔ 0 < i.2.1) ∧ (i.1 = true → i.2.2.1 ≠ []) ∧ (i.1 = false → i.2.2.1 = [] ∧ i.2.2.2 = []) ∧ i.2.2.1.length + totL ((o.getD []).drop i.2.1) ≤ 1000000 ∧ i.2.2.2.length = i.2.1 ∧ (∀ y ∈ i.2.2.1, okN y) ∧ jnS sh x i.2.2.1 i.2.2.2 ((o.getD []).drop i.2.1) = joinT sh x (o.getD [])} => (o.getD []).length - i.1.2.1) [500000, 10005, 10061] (⟨(false, 0, [], []), by simp, by simp, by simp, by simp, by simpa using ht, rfl, by simp, by simpa using jnS_join sh x _⟩ : {i : Bool × Nat × List Nd × List Int // i.2.1 ≤ (o.getD []).length ∧ (i.1 = true ↔ 0 < i.2.1) ∧ (i.1 = true → i.2.2.1 ≠ []) ∧ (i.1 = false → i.2.2.1 = [] ∧ i.2.2.2 = []) ∧ i.2.2.1.length + totL ((o.getD []).drop i.2.1) ≤ 1000000 ∧ i.2.2.2.length = i.2.1 ∧ (∀ y ∈ i.2.2.1, okN y) ∧ jnS sh x i.2.2.1 i.2.2.2 ((o.getD []).drop i.2.1) = joinT sh x (o.getD [])}) (by rfl) (by rfl) ?_ ?_ fun i => ?_
  · simp only [qB, qA, zG6, smp, smo, lookPn, lookPd, sfOfP, lookFo, lookFra, lookFrn, lookFes, lookFty, sfOfF, lookOk, lookRes, sfOf, sgOf, hOk, hRes, hOut, ↓reduceIte, Nat.reduceEqDiff, reduceCtorEq, List.length_map]; rfl
  · simp only [qB, qA, smp, smo, lookPn, lookPd, sfOfP, lookFo, lookFra, lookFrn, lookFes, lookFty, sfOfF, lookOk, lookRes, sfOf, sgOf, hOk, hRes, hOut, ↓reduceIte, Nat.reduceEqDiff, reduceCtorEq]; rfl
  obtain ⟨⟨b, m, O, R⟩, o1, o2, o3, o4, o5, o6, o7, o8⟩ := i
  have hi1 : m ≤ (o.getD []).length := o1
  have hi2 : b = true ↔ 0 < m := o2
  have hi3 : b = true → O ≠ [] := o3
  have hi4 : b = false → O = [] ∧ R = [] := o4
  have hi5 : O.length + totL ((o.getD []).drop m) ≤ 1000000 := o5
  have hi6 : R.length = m := o6
  have hi7 : ∀ y ∈ O, okN y := o7
  have hi8 : jnS sh x O R ((o.getD []).drop m) = joinT sh x (o.getD []) := o8
  have w3 := zE6 (n := m) (by omega)
  cases b with
  | false =>
    rw [show accN 1 5 false O.length = .d .snil from rfl, show accU 2 1 false R.length = .undef from rfl, show rtA x false R.length = .agg [.d (.int .i64 x.k), .d (.int .i64 x.n), .d (.str x.tx), .d (encS x.nm), .d .snil] from rfl, show accB 5 54 (O.map (AV.d ∘ encN)) false = none from rfl, show accB 1 3 (R.map (AV.d ∘ DV.int .i64)) false = none from rfl]
    refine zE2 fun C hC => ?_
    generalize Q0 : DV.int .i64 x.k = Z0
    generalize Q1 : DV.int .i64 x.n = Z1
    generalize Q2 : DV.str x.tx = Z2
    generalize Q3 : encS x.nm = Z3
    generalize Q4 : encTs o = Z4
    generalize Q5 : DV.int .i64 ((o.getD []).length : Int) = Z5
    generalize Q6 : DV.int .i64 (m : Int) = Z6
    cbv
    subst Q0 Q1 Q2 Q3 Q4 Q5 Q6
    subst hC
    refine ⟨?_⟩
    simp (maxSteps:=9999999) only [hI, hF, std]
    by_cases hlt : m < (o.getD []).length
    · have g1 := get_encTs _ _ hlt
      have ht1 := memT hlt
      have ht2 := totL_step hlt
      have ht3 := jnS_step (g := sh) (x := x) (O := O) (R := R) hlt
      obtain ⟨hO, hR⟩ := hi4 rfl
      have hm0 : m = 0 := by rw [hR] at hi6; exact hi6.symm
      simp only [smp, smo, lookPn, lookPd, sfOfP, lookFo, lookFra, lookFrn, lookFes, lookFty, sfOfF, lookOk, lookRes, sfOf, sgOf, hOk, hRes, hOut, ↓reduceIte, Nat.reduceEqDiff, reduceCtorEq, qA, qB, zG6, zG3, List.length_map, g1]
      simp [- List.getD_eq_getElem?_getD, - Subtype.exists, - Prod.exists, - Bool.exists_bool, hlt, qB, qA]
      generalize htd : (o.getD []).getD m [] = t at ht1 ht2 ht3
      have hto := ho.ok t ht1
      have htl : t.length ≤ 1048576 := hto.1
      refine zE1 (kend := fun I => kEnd I TbJ75 [.tmp 4]) hI hF (sfOkF (.cons ok54 (.cons zK9 (.cons zK9 .nil))) .nil (.cons fk1084 .nil)) zJ3 (by exact fun Bk e s h => endR zJ3 Bk e s h) (lv := lv3042) 2 (fun i : {i : Bool × Nat // i.2 ≤ t.length ∧ (i.1 = true ↔ (0 < m ∨ 0 < i.2))} => [.loc 0 5 0 0, accN 3 5 i.1.1 (O.length + i.1.2), .d (.int .i64 (O.length : Int)), .d (encTs o), .d (.int .i64 ((o.getD []).length : Int)), .d (.int .i64 (m : Int)), .d (encT (some t)), .d (.int .i64 (t.length : Int)), .d (.int .i64 (i.1.2 : Int)), accU 2 1 false R.length]) (fun i : {i : Bool × Nat // i.2 ≤ t.length ∧ (i.1 = true ↔ (0 < m ∨ 0 < i.2))} => [(0, some ⟨[rtA x false R.length], 5, 54, true, true⟩), (2, accB 1 3 (R.map (AV.d ∘ DV.int .i64)) false), (3, accB 5 54 ((outJ sh O t i.1.2).map (AV.d ∘ encN)) i.1.1)]) (fun i : {i : Bool × Nat // i.2 ≤ t.length ∧ (i.1 = true ↔ (0 < m ∨ 0 < i.2))} => t.length - i.1.2) [0, 2, 10005, 1000005] (⟨(false, 0), by simp, by simp [hm0]⟩ : {i : Bool × Nat // i.2 ≤ t.length ∧ (i.1 = true ↔ (0 < m ∨ 0 < i.2))}) (by rfl) (by rfl) ?_ ?_ fun i => ?_
      · subst hO hR; simp only [qB, qA, smp, smo, lookPn, lookPd, sfOfP, lookFo, lookFra, lookFrn, lookFes, lookFty, sfOfF, lookOk, lookRes, sfOf, sgOf, hOk, hRes, hOut, ↓reduceIte, Nat.reduceEqDiff, reduceCtorEq, List.length_map]; rfl
      · subst hO hR; simp only [qB, qA, smp, smo, lookPn, lookPd, sfOfP, lookFo, lookFra, lookFrn, lookFes, lookFty, sfOfF, lookOk, lookRes, sfOf, sgOf, hOk, hRes, hOut, ↓reduceIte, Nat.reduceEqDiff, reduceCtorEq]; rfl
      obtain ⟨⟨c, j⟩, p1, p2⟩ := i
      have hj1 : j ≤ t.length := p1
      have hj2 : c = true ↔ (0 < m ∨ 0 < j) := p2
      have w4 := zE6 (n := j) (by omega)
      have hol := outJ_len (g := sh) (O := O) hj1
      cases c with
      | false =>
        rw [show accN 3 5 false (O.length + j) = .d .snil from rfl, show accU 2 1 false R.length = .undef from rfl, show rtA x false R.length = .agg [.d (.int .i64 x.k), .d (.int .i64 x.n), .d (.str x.tx), .d (encS x.nm), .d .snil] from rfl, show accB 5 54 ((outJ sh O t j).map (AV.d ∘ encN)) false = none from rfl, show accB 1 3 (R.map (AV.d ∘ DV.int .i64)) false = none from rfl]
        refine zE2 fun C hC => ?_
        generalize Q0 : DV.int .i64 x.k = Z0
        generalize Q1 : DV.int .i64 x.n = Z1
        generalize Q2 : DV.str x.tx = Z2
        generalize Q3 : encS x.nm = Z3
        generalize Q4 : encTs o = Z4
        generalize Q5 : DV.int .i64 ((o.getD []).length : Int) = Z5
        generalize Q6 : DV.int .i64 (m : Int) = Z6
        generalize Q7 : encT (some t) = Z7
        generalize Q8 : DV.int .i64 (t.length : Int) = Z8
        generalize Q9 : DV.int .i64 (j : Int) = Z9
        generalize Q10 : DV.int .i64 (O.length : Int) = Z10
        cbv
        subst Q0 Q1 Q2 Q3 Q4 Q5 Q6 Q7 Q8 Q9 Q10
        subst hC
        refine ⟨?_⟩
        simp (maxSteps:=9999999) only [hI, hF, std]
        by_cases hlj : j < t.length
        · have g2 := zI4 _ _ hlj
          have hy := okT_get hto hlj
          simp only [Option.getD_some] at hy
          generalize hyd : t.getD j default = y at g2 hy
          simp only [smp, smo, lookPn, lookPd, sfOfP, lookFo, lookFra, lookFrn, lookFes, lookFty, sfOfF, lookOk, lookRes, sfOf, sgOf, hOk, hRes, hOut, ↓reduceIte, Nat.reduceEqDiff, reduceCtorEq, qA, qB, zG6, zG3, List.length_map, g2, e54, e1084, f1084, Option.getD_some]
          simp [- List.getD_eq_getElem?_getD, - Subtype.exists, - Prod.exists, - Bool.exists_bool, hlj, qB, qA, g2, hy.2.1, hy.2.2]
          have hal : ∀ a ∈ y.args, 0 ≤ a ∧ a ≤ 1048576 := ho.ar t ht1 y (by rw [← hyd]; exact memN hlj)
          cases har : y.ar with
          | none =>
            refine ⟨fun h => absurd rfl h, fun _ => ?_⟩
            refine ⟨rfl, ?_⟩
            repeat' (first | (refine And.intro ?_ ?_) | exact fun _ _ => rfl | rfl)
            refine zE1 (kend := fun I => kEnd I TbJ75 [.tmp 4]) hI hF (sfOkF (.cons ok54 (.cons zK9 (.cons zK9 .nil))) .nil (.cons fk1084 .nil)) zJ3 (by exact fun Bk e s h => endR zJ3 Bk e s h) (lv := lv3042) 4 (fun i : Unit => [.loc 0 5 0 0, .d .snil, .d (.int .i64 (O.length : Int)), .loc 4 5 0 0, .d (encTs o), .d (.int .i64 ((o.getD []).length : Int)), .d (.int .i64 (m : Int)), .d (encT (some t)), .d (.int .i64 (t.length : Int)), .d (.int .i64 (j : Int)), .d (.int .i64 0), .d (.int .i64 0), .undef]) (fun i : Unit => [(0, some ⟨[.agg [.d (.int .i64 x.k), .d (.int .i64 x.n), .d (.str x.tx), .d (encS x.nm), .d .snil]], 5, 54, true, true⟩), (2, none), (3, none), (4, some ⟨[.agg [.d (.int .i64 y.k), .d (.int .i64 y.n), .d (.str y.tx), .d (encS y.nm), .d .snil]], 5, 54, true, true⟩), (10, none)]) (fun i : Unit => 0) [0, 2, 3, 4, 10] (() : Unit) (by rfl) (by rfl) ?_ ?_ fun i => ?_
            · rfl
            · rfl
            refine zE2 fun C hC => ?_
            generalize Q0 : DV.int .i64 x.k = Z0
            generalize Q1 : DV.int .i64 x.n = Z1
            generalize Q2 : DV.str x.tx = Z2
            generalize Q3 : encS x.nm = Z3
            generalize Q4 : encTs o = Z4
            generalize Q5 : DV.int .i64 ((o.getD []).length : Int) = Z5
            generalize Q6 : DV.int .i64 (m : Int) = Z6
            generalize Q7 : encT (some t) = Z7
            generalize Q8 : DV.int .i64 (t.length : Int) = Z8
            generalize Q9 : DV.int .i64 (j : Int) = Z9
            generalize Q10 : DV.int .i64 (O.length : Int) = Z10
            generalize Q11 : DV.int .i64 y.k = Z11
            generalize Q12 : DV.int .i64 y.n = Z12
            generalize Q13 : DV.str y.tx = Z13
            generalize Q14 : encS y.nm = Z14
            cbv
            subst Q0 Q1 Q2 Q3 Q4 Q5 Q6 Q7 Q8 Q9 Q10 Q11 Q12 Q13 Q14
            subst hC
            refine ⟨?_⟩
            simp (maxSteps:=9999999) only [hI, hF, std]
            simp only [smp, smo, lookPn, lookPd, sfOfP, lookFo, lookFra, lookFrn, lookFes, lookFty, sfOfF, lookOk, lookRes, sfOf, sgOf, hOk, hRes, hOut, ↓reduceIte, Nat.reduceEqDiff, reduceCtorEq, qA, qB, zF5]
            simp [- List.getD_eq_getElem?_getD, - Subtype.exists, - Prod.exists, - Bool.exists_bool, qB, qA]
            rw [frzOk_sing (zJ8 y.k y.n y.tx y.nm).1 (by rw [(zJ8 y.k y.n y.tx y.nm).2]; simp), frzEls_sing (zJ8 y.k y.n y.tx y.nm).1]
            refine ⟨rfl, fun z hz => ?_, ?_⟩
            · rw [List.mem_singleton.1 hz]; rfl
            · rw [zH3 (by decide), zJ1]
              have hm1 : ¬ (0 < m ∨ 0 < j) := fun h => by cases hj2.2 h
              have hO0 : O.length = 0 := by rw [hO]; rfl
              have ho0 : outJ sh O t j = [] := List.length_eq_zero_iff.1 (by omega)
              refine ⟨⟨(true, j + 1), by show j + 1 ≤ t.length; omega, by simp⟩, by show t.length - (j + 1) < t.length - j; omega, ?_, ?_⟩
              · simp [accN, w4]; omega
              · simp [- List.getD_eq_getElem?_getD, accB, zJ5 hlj, hyd, ho0, sh, har]
          | some la =>
            have hla : ∀ a ∈ la, 0 ≤ a ∧ a ≤ 1048576 := fun a ha => hal a (by show a ∈ y.ar.getD []; rw [har]; exact ha)
            have hlal : la.length ≤ 1048576 := by have := hy.2.2; rw [har] at this; exact this
            refine ⟨fun _ => ?_, fun h => by cases h⟩
            repeat' (first | (refine And.intro ?_ ?_) | exact fun _ _ => rfl | rfl)
            refine zE1 (kend := fun I => kEnd I TbJ75 [.tmp 4]) hI hF (sfOkF (.cons ok54 (.cons zK9 (.cons zK9 .nil))) .nil (.cons fk1084 .nil)) zJ3 (by exact fun Bk e s h => endR zJ3 Bk e s h) (lv := lv3042) 4 (fun i : {i : Nat // i ≤ la.length} => [.loc 0 5 0 0, .d .snil, .d (.int .i64 (O.length : Int)), .loc 4 5 0 0, .d (encTs o), .d (.int .i64 ((o.getD []).length : Int)), .d (.int .i64 (m : Int)), .d (encT (some t)), .d (.int .i64 (t.length : Int)), .d (.int .i64 (j : Int)), .d (.int .i64 (la.length : Int)), .d (.int .i64 (i.1 : Int)), .undef]) (fun i : {i : Nat // i ≤ la.length} => [(0, some ⟨[.agg [.d (.int .i64 x.k), .d (.int .i64 x.n), .d (.str x.tx), .d (encS x.nm), .d .snil]], 5, 54, true, true⟩), (2, none), (3, none), (4, some ⟨[.agg [.d (.int .i64 y.k), .d (.int .i64 y.n), .d (.str y.tx), .d (encS y.nm), .slc 10 1 0 la.length]], 5, 54, true, true⟩), (10, some ⟨accI (mapK O.length la i.1), 1, 3, true, true⟩)]) (fun i : {i : Nat // i ≤ la.length} => la.length - i.1) [0, 2, 3, 4, 10] (⟨0, by omega⟩ : {i : Nat // i ≤ la.length}) (by rfl) (by rfl) ?_ ?_ fun i => ?_
            · rfl
            · rfl
            obtain ⟨k, hk⟩ := i
            have hk : k ≤ la.length := hk
            have w5 := zE6 (n := k) (by omega)
            refine zE2 fun C hC => ?_
            generalize Q0 : DV.int .i64 x.k = Z0
            generalize Q1 : DV.int .i64 x.n = Z1
            generalize Q2 : DV.str x.tx = Z2
            generalize Q3 : encS x.nm = Z3
            generalize Q4 : encTs o = Z4
            generalize Q5 : DV.int .i64 ((o.getD []).length : Int) = Z5
            generalize Q6 : DV.int .i64 (m : Int) = Z6
            generalize Q7 : encT (some t) = Z7
            generalize Q8 : DV.int .i64 (t.length : Int) = Z8
            generalize Q9 : DV.int .i64 (j : Int) = Z9
            generalize Q10 : DV.int .i64 (O.length : Int) = Z10
            generalize Q11 : DV.int .i64 y.k = Z11
            generalize Q12 : DV.int .i64 y.n = Z12
            generalize Q13 : DV.str y.tx = Z13
            generalize Q14 : encS y.nm = Z14
            generalize Q15 : DV.int .i64 (la.length : Int) = Z15
            generalize Q16 : DV.int .i64 (k : Int) = Z16
            generalize Q17 : accI (mapK O.length la k) = Z17
            generalize Q18 : la.length = Z18
            cbv
            subst Q0 Q1 Q2 Q3 Q4 Q5 Q6 Q7 Q8 Q9 Q10 Q11 Q12 Q13 Q14 Q15 Q16 Q17 Q18
            subst hC
            refine ⟨?_⟩
            simp (maxSteps:=9999999) only [hI, hF, std]
            by_cases hlk : k < la.length
            · have hlk2 : k < (mapK O.length la k).length := by rw [zK6]; exact hlk
              have g5 := accI_get hlk2
              have g6 := accI_getD hlk2
              have g7 := hla _ (memJ hlk)
              have w6 : IntKind.i64.wrap (la.getD k 0 + (O.length : Int)) = la.getD k 0 + (O.length : Int) := zJ4 (by omega) (by omega)
              rw [mapK_get hlk] at g5 g6
              simp only [smp, smo, lookPn, lookPd, sfOfP, lookFo, lookFra, lookFrn, lookFes, lookFty, sfOfF, lookOk, lookRes, sfOf, sgOf, hOk, hRes, hOut, ↓reduceIte, Nat.reduceEqDiff, reduceCtorEq, qA, qB, g5, g6, zH0, zK6]
              simp [- List.getD_eq_getElem?_getD, - Subtype.exists, - Prod.exists, - Bool.exists_bool, hlk, w5, w6, accI_set, mapK_set hlk, accI_bel, isDatA]
              exact ⟨rfl, rfl, ⟨k + 1, by omega⟩, by show la.length - (k + 1) < la.length - k; omega, by simp, rfl⟩
            · simp only [smp, smo, lookPn, lookPd, sfOfP, lookFo, lookFra, lookFrn, lookFes, lookFty, sfOfF, lookOk, lookRes, sfOf, sgOf, hOk, hRes, hOut, ↓reduceIte, Nat.reduceEqDiff, reduceCtorEq, qA, qB, zH0, zK6, zF5]
              simp [- List.getD_eq_getElem?_getD, - Subtype.exists, - Prod.exists, - Bool.exists_bool, hlk, qB, qA]
              have hka : k = la.length := by omega
              subst hka
              rw [mapK_all]
              have f1 : ∀ {L : LM}, L.get 10 = some ⟨accI (la.map (· + (O.length : Int))), 1, 3, true, true⟩ → _ := fun {L} h => frz_nd (lh := L) h (by rw [List.length_map]) hlal y.k y.n y.tx y.nm
              rw [frzOk_sing (f1 rfl).1 (by rw [(f1 rfl).2]; simp), frzEls_sing (f1 rfl).1]
              refine ⟨rfl, fun z hz => ?_, ?_⟩
              · rw [List.mem_singleton.1 hz]; rfl
              · rw [zH3 (by decide), zJ1]
                have hm1 : ¬ (0 < m ∨ 0 < j) := fun h => by cases hj2.2 h
                have hO0 : O.length = 0 := by rw [hO]; rfl
                have ho0 : outJ sh O t j = [] := List.length_eq_zero_iff.1 (by omega)
                refine ⟨⟨(true, j + 1), by show j + 1 ≤ t.length; omega, by simp⟩, by show t.length - (j + 1) < t.length - j; omega, ?_, ?_⟩
                · simp [accN, w4]; omega
                · simp [- List.getD_eq_getElem?_getD, accB, zJ5 hlj, hyd, ho0, sh, har]
        · exfalso
          have hm1 : ¬ (0 < m ∨ 0 < j) := fun h => by cases hj2.2 h
          exact ho.pos t ht1 (List.length_eq_zero_iff.1 (by omega))
      | true =>
        rw [show accN 3 5 true (O.length + j) = .slc 3 5 0 (O.length + j) from rfl, show accU 2 1 false R.length = .undef from rfl, show rtA x false R.length = .agg [.d (.int .i64 x.k), .d (.int .i64 x.n), .d (.str x.tx), .d (encS x.nm), .d .snil] from rfl, show accB 5 54 ((outJ sh O t j).map (AV.d ∘ encN)) true = some ⟨(outJ sh O t j).map (AV.d ∘ encN), 5, 54, true, true⟩ from rfl, show accB 1 3 (R.map (AV.d ∘ DV.int .i64)) false = none from rfl]
        refine zE2 fun C hC => ?_
        generalize Q0 : DV.int .i64 x.k = Z0
        generalize Q1 : DV.int .i64 x.n = Z1
        generalize Q2 : DV.str x.tx = Z2
        generalize Q3 : encS x.nm = Z3
        generalize Q4 : encTs o = Z4
        generalize Q5 : DV.int .i64 ((o.getD []).length : Int) = Z5
        generalize Q6 : DV.int .i64 (m : Int) = Z6
        generalize Q7 : encT (some t) = Z7
        generalize Q8 : DV.int .i64 (t.length : Int) = Z8
        generalize Q9 : DV.int .i64 (j : Int) = Z9
        generalize Q10 : DV.int .i64 (O.length : Int) = Z10
        generalize Q11 : (outJ sh O t j).map (AV.d ∘ encN) = Z11
        generalize Q12 : O.length + j = Z12
        cbv
        subst Q0 Q1 Q2 Q3 Q4 Q5 Q6 Q7 Q8 Q9 Q10 Q11 Q12
        subst hC
        refine ⟨?_⟩
        simp (maxSteps:=9999999) only [hI, hF, std]
        by_cases hlj : j < t.length
        · have g2 := zI4 _ _ hlj
          have hy := okT_get hto hlj
          simp only [Option.getD_some] at hy
          generalize hyd : t.getD j default = y at g2 hy
          simp only [smp, smo, lookPn, lookPd, sfOfP, lookFo, lookFra, lookFrn, lookFes, lookFty, sfOfF, lookOk, lookRes, sfOf, sgOf, hOk, hRes, hOut, ↓reduceIte, Nat.reduceEqDiff, reduceCtorEq, qA, qB, zG6, zG3, List.length_map, g2, e54, e1084, f1084, Option.getD_some]
          simp [- List.getD_eq_getElem?_getD, - Subtype.exists, - Prod.exists, - Bool.exists_bool, hlj, qB, qA, g2, hy.2.1, hy.2.2]
          have hal : ∀ a ∈ y.args, 0 ≤ a ∧ a ≤ 1048576 := ho.ar t ht1 y (by rw [← hyd]; exact memN hlj)
          cases har : y.ar with
          | none =>
            refine ⟨fun h => absurd rfl h, fun _ => ?_⟩
            refine ⟨rfl, ?_⟩
            repeat' (first | (refine And.intro ?_ ?_) | exact fun _ _ => rfl | rfl)
            refine zE1 (kend := fun I => kEnd I TbJ75 [.tmp 4]) hI hF (sfOkF (.cons ok54 (.cons zK9 (.cons zK9 .nil))) .nil (.cons fk1084 .nil)) zJ3 (by exact fun Bk e s h => endR zJ3 Bk e s h) (lv := lv3042) 4 (fun i : Unit => [.loc 0 5 0 0, .slc 3 5 0 (O.length + j), .d (.int .i64 (O.length : Int)), .loc 4 5 0 0, .d (encTs o), .d (.int .i64 ((o.getD []).length : Int)), .d (.int .i64 (m : Int)), .d (encT (some t)), .d (.int .i64 (t.length : Int)), .d (.int .i64 (j : Int)), .d (.int .i64 0), .d (.int .i64 0), .undef]) (fun i : Unit => [(0, some ⟨[.agg [.d (.int .i64 x.k), .d (.int .i64 x.n), .d (.str x.tx), .d (encS x.nm), .d .snil]], 5, 54, true, true⟩), (2, none), (3, some ⟨(outJ sh O t j).map (AV.d ∘ encN), 5, 54, true, true⟩), (4, some ⟨[.agg [.d (.int .i64 y.k), .d (.int .i64 y.n), .d (.str y.tx), .d (encS y.nm), .d .snil]], 5, 54, true, true⟩), (10, none)]) (fun i : Unit => 0) [0, 2, 3, 4, 10] (() : Unit) (by rfl) (by rfl) ?_ ?_ fun i => ?_
            · rfl
            · rfl
            refine zE2 fun C hC => ?_
            generalize Q0 : DV.int .i64 x.k = Z0
            generalize Q1 : DV.int .i64 x.n = Z1
            generalize Q2 : DV.str x.tx = Z2
            generalize Q3 : encS x.nm = Z3
            generalize Q4 : encTs o = Z4
            generalize Q5 : DV.int .i64 ((o.getD []).length : Int) = Z5
            generalize Q6 : DV.int .i64 (m : Int) = Z6
            generalize Q7 : encT (some t) = Z7
            generalize Q8 : DV.int .i64 (t.length : Int) = Z8
            generalize Q9 : DV.int .i64 (j : Int) = Z9
            generalize Q10 : DV.int .i64 (O.length : Int) = Z10
            generalize Q11 : DV.int .i64 y.k = Z11
            generalize Q12 : DV.int .i64 y.n = Z12
            generalize Q13 : DV.str y.tx = Z13
            generalize Q14 : encS y.nm = Z14
            generalize Q15 : (outJ sh O t j).map (AV.d ∘ encN) = Z15
            generalize Q16 : O.length + j = Z16
            cbv
            subst Q0 Q1 Q2 Q3 Q4 Q5 Q6 Q7 Q8 Q9 Q10 Q11 Q12 Q13 Q14 Q15 Q16
            subst hC
            refine ⟨?_⟩
            simp (maxSteps:=9999999) only [hI, hF, std]
            simp only [smp, smo, lookPn, lookPd, sfOfP, lookFo, lookFra, lookFrn, lookFes, lookFty, sfOfF, lookOk, lookRes, sfOf, sgOf, hOk, hRes, hOut, ↓reduceIte, Nat.reduceEqDiff, reduceCtorEq, qA, qB, zF5]
            simp [- List.getD_eq_getElem?_getD, - Subtype.exists, - Prod.exists, - Bool.exists_bool, qB, qA]
            rw [List.take_of_length_le (by rw [List.length_map, hol]; omega), ← List.map_map, frzOk_one (zJ8 y.k y.n y.tx y.nm).1 (by rw [(zJ8 y.k y.n y.tx y.nm).2]; simp), zK2 (zJ8 y.k y.n y.tx y.nm).1]
            refine ⟨⟨by rw [← List.length.eq_def]; simp [hol], by omega⟩, rfl, fun z hz => ?_, ?_⟩
            · obtain ⟨d, _, rfl⟩ := List.mem_map.1 hz; rfl
            · rw [zH3 (by decide), zJ1]
              refine ⟨⟨(true, j + 1), by show j + 1 ≤ t.length; omega, by simp⟩, by show t.length - (j + 1) < t.length - j; omega, ?_, ?_⟩
              · simp [accN, w4]; omega
              · simp [- List.getD_eq_getElem?_getD, accB, zJ5 hlj, hyd, sh, har]
          | some la =>
            have hla : ∀ a ∈ la, 0 ≤ a ∧ a ≤ 1048576 := fun a ha => hal a (by show a ∈ y.ar.getD []; rw [har]; exact ha)
            have hlal : la.length ≤ 1048576 := by have := hy.2.2; rw [har] at this; exact this
            refine ⟨fun _ => ?_, fun h => by cases h⟩
            repeat' (first | (refine And.intro ?_ ?_) | exact fun _ _ => rfl | rfl)
            refine zE1 (kend := fun I => kEnd I TbJ75 [.tmp 4]) hI hF (sfOkF (.cons ok54 (.cons zK9 (.cons zK9 .nil))) .nil (.cons fk1084 .nil)) zJ3 (by exact fun Bk e s h => endR zJ3 Bk e s h) (lv := lv3042) 4 (fun i : {i : Nat // i ≤ la.length} => [.loc 0 5 0 0, .slc 3 5 0 (O.length + j), .d (.int .i64 (O.length : Int)), .loc 4 5 0 0, .d (encTs o), .d (.int .i64 ((o.getD []).length : Int)), .d (.int .i64 (m : Int)), .d (encT (some t)), .d (.int .i64 (t.length : Int)), .d (.int .i64 (j : Int)), .d (.int .i64 (la.length : Int)), .d (.int .i64 (i.1 : Int)), .undef]) (fun i : {i : Nat // i ≤ la.length} => [(0, some ⟨[.agg [.d (.int .i64 x.k), .d (.int .i64 x.n), .d (.str x.tx), .d (encS x.nm), .d .snil]], 5, 54, true, true⟩), (2, none), (3, some ⟨(outJ sh O t j).map (AV.d ∘ encN), 5, 54, true, true⟩), (4, some ⟨[.agg [.d (.int .i64 y.k), .d (.int .i64 y.n), .d (.str y.tx), .d (encS y.nm), .slc 10 1 0 la.length]], 5, 54, true, true⟩), (10, some ⟨accI (mapK O.length la i.1), 1, 3, true, true⟩)]) (fun i : {i : Nat // i ≤ la.length} => la.length - i.1) [0, 2, 3, 4, 10] (⟨0, by omega⟩ : {i : Nat // i ≤ la.length}) (by rfl) (by rfl) ?_ ?_ fun i => ?_
            · rfl
            · rfl
            obtain ⟨k, hk⟩ := i
            have hk : k ≤ la.length := hk
            have w5 := zE6 (n := k) (by omega)
            refine zE2 fun C hC => ?_
            generalize Q0 : DV.int .i64 x.k = Z0
            generalize Q1 : DV.int .i64 x.n = Z1
            generalize Q2 : DV.str x.tx = Z2
            generalize Q3 : encS x.nm = Z3
            generalize Q4 : encTs o = Z4
            generalize Q5 : DV.int .i64 ((o.getD []).length : Int) = Z5
            generalize Q6 : DV.int .i64 (m : Int) = Z6
            generalize Q7 : encT (some t) = Z7
            generalize Q8 : DV.int .i64 (t.length : Int) = Z8
            generalize Q9 : DV.int .i64 (j : Int) = Z9
            generalize Q10 : DV.int .i64 (O.length : Int) = Z10
            generalize Q11 : DV.int .i64 y.k = Z11
            generalize Q12 : DV.int .i64 y.n = Z12
            generalize Q13 : DV.str y.tx = Z13
            generalize Q14 : encS y.nm = Z14
            generalize Q15 : DV.int .i64 (la.length : Int) = Z15
            generalize Q16 : DV.int .i64 (k : Int) = Z16
            generalize Q17 : accI (mapK O.length la k) = Z17
            generalize Q18 : la.length = Z18
            generalize Q19 : (outJ sh O t j).map (AV.d ∘ encN) = Z19
            generalize Q20 : O.length + j = Z20
            cbv
            subst Q0 Q1 Q2 Q3 Q4 Q5 Q6 Q7 Q8 Q9 Q10 Q11 Q12 Q13 Q14 Q15 Q16 Q17 Q18 Q19 Q20
            subst hC
            refine ⟨?_⟩
            simp (maxSteps:=9999999) only [hI, hF, std]
            by_cases hlk : k < la.length
            · have hlk2 : k < (mapK O.length la k).length := by rw [zK6]; exact hlk
              have g5 := accI_get hlk2
              have g6 := accI_getD hlk2
              have g7 := hla _ (memJ hlk)
              have w6 : IntKind.i64.wrap (la.getD k 0 + (O.length : Int)) = la.getD k 0 + (O.length : Int) := zJ4 (by omega) (by omega)
              rw [mapK_get hlk] at g5 g6
              simp only [smp, smo, lookPn, lookPd, sfOfP, lookFo, lookFra, lookFrn, lookFes, lookFty, sfOfF, lookOk, lookRes, sfOf, sgOf, hOk, hRes, hOut, ↓reduceIte, Nat.reduceEqDiff, reduceCtorEq, qA, qB, g5, g6, zH0, zK6]
              simp [- List.getD_eq_getElem?_getD, - Subtype.exists, - Prod.exists, - Bool.exists_bool, hlk, w5, w6, accI_set, mapK_set hlk, accI_bel, isDatA]
              refine ⟨rfl, ?_, ⟨k + 1, by omega⟩, by show la.length - (k + 1) < la.length - k; omega, by simp, rfl⟩
              repeat' (first | (refine And.intro ?_ ?_) | exact fun _ _ => rfl | rfl)
            · simp only [smp, smo, lookPn, lookPd, sfOfP, lookFo, lookFra, lookFrn, lookFes, lookFty, sfOfF, lookOk, lookRes, sfOf, sgOf, hOk, hRes, hOut, ↓reduceIte, Nat.reduceEqDiff, reduceCtorEq, qA, qB, zH0, zK6, zF5]
              simp [- List.getD_eq_getElem?_getD, - Subtype.exists, - Prod.exists, - Bool.exists_bool, hlk, qB, qA]
              have hka : k = la.length := by omega
              subst hka
              rw [mapK_all]
              have f1 : ∀ {L : LM}, L.get 10 = some ⟨accI (la.map (· + (O.length : Int))), 1, 3, true, true⟩ → _ := fun {L} h => frz_nd (lh := L) h (by rw [List.length_map]) hlal y.k y.n y.tx y.nm
              rw [List.take_of_length_le (by rw [List.length_map, hol]; omega), ← List.map_map, frzOk_one (f1 rfl).1 (by rw [(f1 rfl).2]; simp), zK2 (f1 rfl).1]
              refine ⟨⟨by rw [← List.length.eq_def]; simp [hol], by omega⟩, rfl, fun z hz => ?_, ?_⟩
              · obtain ⟨d, _, rfl⟩ := List.mem_map.1 hz; rfl
              · rw [zH3 (by decide), zJ1]
                refine ⟨⟨(true, j + 1), by show j + 1 ≤ t.length; omega, by simp⟩, by show t.length - (j + 1) < t.length - j; omega, ?_, ?_⟩
                · simp [accN, w4]; omega
                · simp [- List.getD_eq_getElem?_getD, accB, zJ5 hlj, hyd, sh, har]
        · have hjt : j = t.length := by omega
          subst hjt
          have w7 : IntKind.i64.wrap ((O.length : Int) + (t.length : Int) - 1) = (O.length : Int) + (t.length : Int) - 1 := zJ4 (by omega) (by omega)
          simp only [smp, smo, lookPn, lookPd, sfOfP, lookFo, lookFra, lookFrn, lookFes, lookFty, sfOfF, lookOk, lookRes, sfOf, sgOf, hOk, hRes, hOut, ↓reduceIte, Nat.reduceEqDiff, reduceCtorEq, qA, qB, zF5]
          simp [- List.getD_eq_getElem?_getD, - Subtype.exists, - Prod.exists, - Bool.exists_bool, qB, qA, w7]
          rw [outJ_all]
          refine ⟨fun _ _ => rfl, ?_⟩
          rw [zH3 (by decide), zJ1]
          have htp : 0 < t.length := List.length_pos_iff.2 (ho.pos t ht1)
          have q3 : O ++ t.map (sh O.length) ≠ [] := fun h => ho.pos t ht1 (List.map_eq_nil_iff.1 (List.append_eq_nil_iff.1 h).2)
          have q5 : (O ++ t.map (sh O.length)).length + totL ((o.getD []).drop (m + 1)) ≤ 1000000 := by rw [List.length_append, List.length_map]; omega
          have q6 : (R ++ [((O.length + t.length : Nat) : Int) - 1]).length = m + 1 := by rw [List.length_append, hi6]; rfl
          have q7 : ∀ z ∈ O ++ t.map (sh O.length), okN z := fun z hz => by
            rcases List.mem_append.1 hz with hz | hz
            · exact hi7 z hz
            · obtain ⟨w, hw, rfl⟩ := List.mem_map.1 hz
              exact okN_sh _ (hto.2 w hw)
          refine ⟨⟨(true, m + 1, O ++ t.map (sh O.length), R ++ [((O.length + t.length : Nat) : Int) - 1]), by show m + 1 ≤ (o.getD []).length; omega, by simp, fun _ => q3, (fun h => by cases h), q5, q6, q7, ht3.symm.trans hi8⟩, by show (o.getD []).length - (m + 1) < (o.getD []).length - m; omega, ?_, ?_⟩
          · simp [accN, accU, w3, hR]
          · simp [- List.getD_eq_getElem?_getD, accB, rtA, hR]
    · have hml : m = (o.getD []).length := by omega
      subst hml
      simp only [smp, smo, lookPn, lookPd, sfOfP, lookFo, lookFra, lookFrn, lookFes, lookFty, sfOfF, lookOk, lookRes, sfOf, sgOf, hOk, hRes, hOut, ↓reduceIte, Nat.reduceEqDiff, reduceCtorEq, qA, qB, zF5, List.length_map]
      simp [- List.getD_eq_getElem?_getD, - Subtype.exists, - Prod.exists, - Bool.exists_bool, qB, qA]
      obtain ⟨hO, hR⟩ := hi4 rfl
      have hi8 := hi8
      rw [jnS_end, hO, hR] at hi8
      rw [← hi8]
      exact frz_row2 (L := []) (by rfl) rfl (by omega) rfl
  | true =>
    rw [show accN 1 5 true O.length = .slc 1 5 0 O.length from rfl, show accU 2 1 true R.length = .slc 2 1 0 R.length from rfl, show rtA x true R.length = .agg [.d (.int .i64 x.k), .d (.int .i64 x.n), .d (.str x.tx), .d (encS x.nm), .slc 2 1 0 R.length] from rfl, show accB 5 54 (O.map (AV.d ∘ encN)) true = some ⟨O.map (AV.d ∘ encN), 5, 54, true, true⟩ from rfl, show accB 1 3 (R.map (AV.d ∘ DV.int .i64)) true = some ⟨R.map (AV.d ∘ DV.int .i64), 1, 3, true, true⟩ from rfl]
    refine zE2 fun C hC => ?_
    generalize Q0 : DV.int .i64 x.k = Z0
    generalize Q1 : DV.int .i64 x.n = Z1
    generalize Q2 : DV.str x.tx = Z2
    generalize Q3 : encS x.nm = Z3
    generalize Q4 : encTs o = Z4
    generalize Q5 : DV.int .i64 ((o.getD []).length : Int) = Z5
    generalize Q6 : DV.int .i64 (m : Int) = Z6
    generalize Q7 : O.map (AV.d ∘ encN) = Z7
    generalize Q8 : O.length = Z8
    generalize Q9 : R.map (AV.d ∘ DV.int .i64) = Z9
    generalize Q10 : R.length = Z10
    cbv
    subst Q0 Q1 Q2 Q3 Q4 Q5 Q6 Q7 Q8 Q9 Q10
    subst hC
    refine ⟨?_⟩
    simp (maxSteps:=9999999) only [hI, hF, std]
    by_cases hlt : m < (o.getD []).length
    · have g1 := get_encTs _ _ hlt
      have ht1 := memT hlt
      have ht2 := totL_step hlt
      have ht3 := jnS_step (g := sh) (x := x) (O := O) (R := R) hlt
      have hm0 : 0 < m := hi2.1 rfl
      simp only [smp, smo, lookPn, lookPd, sfOfP, lookFo, lookFra, lookFrn, lookFes, lookFty, sfOfF, lookOk, lookRes, sfOf, sgOf, hOk, hRes, hOut, ↓reduceIte, Nat.reduceEqDiff, reduceCtorEq, qA, qB, zG6, zG3, List.length_map, g1]
      simp [- List.getD_eq_getElem?_getD, - Subtype.exists, - Prod.exists, - Bool.exists_bool, hlt, qB, qA]
      rw [← List.map_map, frzOk_d, frzEls_d, List.map_map]
      refine ⟨rfl, ?_⟩
      repeat' (first | (refine And.intro ?_ ?_) | exact fun _ _ => rfl | (exact fun z hz => by obtain ⟨w, _, rfl⟩ := List.mem_map.1 hz; rfl) | rfl)
      generalize htd : (o.getD []).getD m [] = t at ht1 ht2 ht3
      have hto := ho.ok t ht1
      have htl : t.length ≤ 1048576 := hto.1
      refine zE1 (kend := fun I => kEnd I TbJ75 [.tmp 4]) hI hF (sfOkF (.cons ok54 (.cons zK9 (.cons zK9 .nil))) .nil (.cons fk1084 .nil)) zJ3 (by exact fun Bk e s h => endR zJ3 Bk e s h) (lv := lv3042) 2 (fun i : {i : Bool × Nat // i.2 ≤ t.length ∧ (i.1 = true ↔ (0 < m ∨ 0 < i.2))} => [.loc 0 5 0 0, accN 3 5 i.1.1 (O.length + i.1.2), .d (.int .i64 (O.length : Int)), .d (encTs o), .d (.int .i64 ((o.getD []).length : Int)), .d (.int .i64 (m : Int)), .d (encT (some t)), .d (.int .i64 (t.length : Int)), .d (.int .i64 (i.1.2 : Int)), accU 2 1 true R.length]) (fun i : {i : Bool × Nat // i.2 ≤ t.length ∧ (i.1 = true ↔ (0 < m ∨ 0 < i.2))} => [(0, some ⟨[rtA x true R.length], 5, 54, true, true⟩), (2, accB 1 3 (R.map (AV.d ∘ DV.int .i64)) true), (3, accB 5 54 ((outJ sh O t i.1.2).map (AV.d ∘ encN)) i.1.1)]) (fun i : {i : Bool × Nat // i.2 ≤ t.length ∧ (i.1 = true ↔ (0 < m ∨ 0 < i.2))} => t.length - i.1.2) [0, 2, 10005, 1000005] (⟨(true, 0), by simp, by simp [hm0]⟩ : {i : Bool × Nat // i.2 ≤ t.length ∧ (i.1 = true ↔ (0 < m ∨ 0 < i.2))}) (by rfl) (by rfl) ?_ ?_ fun i => ?_
      · rfl
      · simp only [outJ_zero]; rfl
      obtain ⟨⟨c, j⟩, p1, p2⟩ := i
      have hj1 : j ≤ t.length := p1
      have hj2 : c = true ↔ (0 < m ∨ 0 < j) := p2
      have w4 := zE6 (n := j) (by omega)
      have hol := outJ_len (g := sh) (O := O) hj1
      cases c with
      | false =>
        exact absurd (hj2.2 (.inl hm0)) (by decide)
      | true =>
        rw [show accN 3 5 true (O.length + j) = .slc 3 5 0 (O.length + j) from rfl, show accU 2 1 true R.length = .slc 2 1 0 R.length from rfl, show rtA x true R.length = .agg [.d (.int .i64 x.k), .d (.int .i64 x.n), .d (.str x.tx), .d (encS x.nm), .slc 2 1 0 R.length] from rfl, show accB 5 54 ((outJ sh O t j).map (AV.d ∘ encN)) true = some ⟨(outJ sh O t j).map (AV.d ∘ encN), 5, 54, true, true⟩ from rfl, show accB 1 3 (R.map (AV.d ∘ DV.int .i64)) true = some ⟨R.map (AV.d ∘ DV.int .i64), 1, 3, true, true⟩ from rfl]
        refine zE2 fun C hC => ?_
        generalize Q0 : DV.int .i64 x.k = Z0
        generalize Q1 : DV.int .i64 x.n = Z1
        generalize Q2 : DV.str x.tx = Z2
        generalize Q3 : encS x.nm = Z3
        generalize Q4 : encTs o = Z4
        generalize Q5 : DV.int .i64 ((o.getD []).length : Int) = Z5
        generalize Q6 : DV.int .i64 (m : Int) = Z6
        generalize Q7 : encT (some t) = Z7
        generalize Q8 : DV.int .i64 (t.length : Int) = Z8
        generalize Q9 : DV.int .i64 (j : Int) = Z9
        generalize Q10 : DV.int .i64 (O.length : Int) = Z10
        generalize Q11 : (outJ sh O t j).map (AV.d ∘ encN) = Z11
        generalize Q12 : O.length + j = Z12
        generalize Q13 : R.map (AV.d ∘ DV.int .i64) = Z13
        generalize Q14 : R.length = Z14
        cbv
        subst Q0 Q1 Q2 Q3 Q4 Q5 Q6 Q7 Q8 Q9 Q10 Q11 Q12 Q13 Q14
        subst hC
        refine ⟨?_⟩
        simp (maxSteps:=9999999) only [hI, hF, std]
        by_cases hlj : j < t.length
        · have g2 := zI4 _ _ hlj
          have hy := okT_get hto hlj
          simp only [Option.getD_some] at hy
          generalize hyd : t.getD j default = y at g2 hy
          simp only [smp, smo, lookPn, lookPd, sfOfP, lookFo, lookFra, lookFrn, lookFes, lookFty, sfOfF, lookOk, lookRes, sfOf, sgOf, hOk, hRes, hOut, ↓reduceIte, Nat.reduceEqDiff, reduceCtorEq, qA, qB, zG6, zG3, List.length_map, g2, e54, e1084, f1084, Option.getD_some]
          simp [- List.getD_eq_getElem?_getD, - Subtype.exists, - Prod.exists, - Bool.exists_bool, hlj, qB, qA, g2, hy.2.1, hy.2.2]
          have hal : ∀ a ∈ y.args, 0 ≤ a ∧ a ≤ 1048576 := ho.ar t ht1 y (by rw [← hyd]; exact memN hlj)
          cases har : y.ar with
          | none =>
            refine ⟨fun h => absurd rfl h, fun _ => ?_⟩
            refine ⟨rfl, ?_⟩
            repeat' (first | (refine And.intro ?_ ?_) | exact fun _ _ => rfl | rfl)
            refine zE1 (kend := fun I => kEnd I TbJ75 [.tmp 4]) hI hF (sfOkF (.cons ok54 (.cons zK9 (.cons zK9 .nil))) .nil (.cons fk1084 .nil)) zJ3 (by exact fun Bk e s h => endR zJ3 Bk e s h) (lv := lv3042) 4 (fun i : Unit => [.loc 0 5 0 0, .slc 3 5 0 (O.length + j), .d (.int .i64 (O.length : Int)), .loc 4 5 0 0, .d (encTs o), .d (.int .i64 ((o.getD []).length : Int)), .d (.int .i64 (m : Int)), .d (encT (some t)), .d (.int .i64 (t.length : Int)), .d (.int .i64 (j : Int)), .d (.int .i64 0), .d (.int .i64 0), .slc 2 1 0 R.length]) (fun i : Unit => [(0, some ⟨[.agg [.d (.int .i64 x.k), .d (.int .i64 x.n), .d (.str x.tx), .d (encS x.nm), .slc 2 1 0 R.length]], 5, 54, true, true⟩), (2, some ⟨R.map (AV.d ∘ DV.int .i64), 1, 3, true, true⟩), (3, some ⟨(outJ sh O t j).map (AV.d ∘ encN), 5, 54, true, true⟩), (4, some ⟨[.agg [.d (.int .i64 y.k), .d (.int .i64 y.n), .d (.str y.tx), .d (encS y.nm), .d .snil]], 5, 54, true, true⟩), (10, none)]) (fun i : Unit => 0) [0, 2, 3, 4, 10] (() : Unit) (by rfl) (by rfl) ?_ ?_ fun i => ?_
            · rfl
            · rfl
            refine zE2 fun C hC => ?_
            generalize Q0 : DV.int .i64 x.k = Z0
            generalize Q1 : DV.int .i64 x.n = Z1
            generalize Q2 : DV.str x.tx = Z2
            generalize Q3 : encS x.nm = Z3
            generalize Q4 : encTs o = Z4
            generalize Q5 : DV.int .i64 ((o.getD []).length : Int) = Z5
            generalize Q6 : DV.int .i64 (m : Int) = Z6
            generalize Q7 : encT (some t) = Z7
            generalize Q8 : DV.int .i64 (t.length : Int) = Z8
            generalize Q9 : DV.int .i64 (j : Int) = Z9
            generalize Q10 : DV.int .i64 (O.length : Int) = Z10
            generalize Q11 : DV.int .i64 y.k = Z11
            generalize Q12 : DV.int .i64 y.n = Z12
            generalize Q13 : DV.str y.tx = Z13
            generalize Q14 : encS y.nm = Z14
            generalize Q15 : (outJ sh O t j).map (AV.d ∘ encN) = Z15
            generalize Q16 : O.length + j = Z16
            generalize Q17 : R.map (AV.d ∘ DV.int .i64) = Z17
            generalize Q18 : R.length = Z18
            cbv
            subst Q0 Q1 Q2 Q3 Q4 Q5 Q6 Q7 Q8 Q9 Q10 Q11 Q12 Q13 Q14 Q15 Q16 Q17 Q18
            subst hC
            refine ⟨?_⟩
            simp (maxSteps:=9999999) only [hI, hF, std]
            simp only [smp, smo, lookPn, lookPd, sfOfP, lookFo, lookFra, lookFrn, lookFes, lookFty, sfOfF, lookOk, lookRes, sfOf, sgOf, hOk, hRes, hOut, ↓reduceIte, Nat.reduceEqDiff, reduceCtorEq, qA, qB, zF5]
            simp [- List.getD_eq_getElem?_getD, - Subtype.exists, - Prod.exists, - Bool.exists_bool, qB, qA]
            rw [List.take_of_length_le (by rw [List.length_map, hol]; omega), ← List.map_map, frzOk_one (zJ8 y.k y.n y.tx y.nm).1 (by rw [(zJ8 y.k y.n y.tx y.nm).2]; simp), zK2 (zJ8 y.k y.n y.tx y.nm).1]
            refine ⟨⟨by rw [← List.length.eq_def]; simp [hol], by omega⟩, rfl, ⟨⟨rfl, fun _ _ => rfl⟩, fun z hz => ?_⟩, ?_⟩
            · obtain ⟨d, _, rfl⟩ := List.mem_map.1 hz; rfl
            · rw [zH3 (by decide), zJ1]
              refine ⟨⟨(true, j + 1), by show j + 1 ≤ t.length; omega, by simp⟩, by show t.length - (j + 1) < t.length - j; omega, ?_, ?_⟩
              · simp [accN, w4]; omega
              · simp [- List.getD_eq_getElem?_getD, accB, zJ5 hlj, hyd, sh, har]
          | some la =>
            have hla : ∀ a ∈ la, 0 ≤ a ∧ a ≤ 1048576 := fun a ha => hal a (by show a ∈ y.ar.getD []; rw [har]; exact ha)
            have hlal : la.length ≤ 1048576 := by have := hy.2.2; rw [har] at this; exact this
            refine ⟨fun _ => ?_, fun h => by cases h⟩
            repeat' (first | (refine And.intro ?_ ?_) | exact fun _ _ => rfl | rfl)
            refine zE1 (kend := fun I => kEnd I TbJ75 [.tmp 4]) hI hF (sfOkF (.cons ok54 (.cons zK9 (.cons zK9 .nil))) .nil (.cons fk1084 .nil)) zJ3 (by exact fun Bk e s h => endR zJ3 Bk e s h) (lv := lv3042) 4 (fun i : {i : Nat // i ≤ la.length} => [.loc 0 5 0 0, .slc 3 5 0 (O.length + j), .d (.int .i64 (O.length : Int)), .loc 4 5 0 0, .d (encTs o), .d (.int .i64 ((o.getD []).length : Int)), .d (.int .i64 (m : Int)), .d (encT (some t)), .d (.int .i64 (t.length : Int)), .d (.int .i64 (j : Int)), .d (.int .i64 (la.length : Int)), .d (.int .i64 (i.1 : Int)), .slc 2 1 0 R.length]) (fun i : {i : Nat // i ≤ la.length} => [(0, some ⟨[.agg [.d (.int .i64 x.k), .d (.int .i64 x.n), .d (.str x.tx), .d (encS x.nm), .slc 2 1 0 R.length]], 5, 54, true, true⟩), (2, some ⟨R.map (AV.d ∘ DV.int .i64), 1, 3, true, true⟩), (3, some ⟨(outJ sh O t j).map (AV.d ∘ encN), 5, 54, true, true⟩), (4, some ⟨[.agg [.d (.int .i64 y.k), .d (.int .i64 y.n), .d (.str y.tx), .d (encS y.nm), .slc 10 1 0 la.length]], 5, 54, true, true⟩), (10, some ⟨accI (mapK O.length la i.1), 1, 3, true, true⟩)]) (fun i : {i : Nat // i ≤ la.length} => la.length - i.1) [0, 2, 3, 4, 10] (⟨0, by omega⟩ : {i : Nat // i ≤ la.length}) (by rfl) (by rfl) ?_ ?_ fun i => ?_
            · rfl
            · rfl
            obtain ⟨k, hk⟩ := i
            have hk : k ≤ la.length := hk
            have w5 := zE6 (n := k) (by omega)
            refine zE2 fun C hC => ?_
            generalize Q0 : DV.int .i64 x.k = Z0
            generalize Q1 : DV.int .i64 x.n = Z1
            generalize Q2 : DV.str x.tx = Z2
            generalize Q3 : encS x.nm = Z3
            generalize Q4 : encTs o = Z4
            generalize Q5 : DV.int .i64 ((o.getD []).length : Int) = Z5
            generalize Q6 : DV.int .i64 (m : Int) = Z6
            generalize Q7 : encT (some t) = Z7
            generalize Q8 : DV.int .i64 (t.length : Int) = Z8
            generalize Q9 : DV.int .i64 (j : Int) = Z9
            generalize Q10 : DV.int .i64 (O.length : Int) = Z10
            generalize Q11 : DV.int .i64 y.k = Z11
            generalize Q12 : DV.int .i64 y.n = Z12
            generalize Q13 : DV.str y.tx = Z13
            generalize Q14 : encS y.nm = Z14
            generalize Q15 : DV.int .i64 (la.length : Int) = Z15
            generalize Q16 : DV.int .i64 (k : Int) = Z16
            generalize Q17 : accI (mapK O.length la k) = Z17
            generalize Q18 : la.length = Z18
            generalize Q19 : (outJ sh O t j).map (AV.d ∘ encN) = Z19
            generalize Q20 : O.length + j = Z20
            generalize Q21 : R.map (AV.d ∘ DV.int .i64) = Z21
            generalize Q22 : R.length = Z22
            cbv
            subst Q0 Q1 Q2 Q3 Q4 Q5 Q6 Q7 Q8 Q9 Q10 Q11 Q12 Q13 Q14 Q15 Q16 Q17 Q18 Q19 Q20 Q21 Q22
            subst hC
            refine ⟨?_⟩
            simp (maxSteps:=9999999) only [hI, hF, std]
            by_cases hlk : k < la.length
            · have hlk2 : k < (mapK O.length la k).length := by rw [zK6]; exact hlk
              have g5 := accI_get hlk2
              have g6 := accI_getD hlk2
              have g7 := hla _ (memJ hlk)
              have w6 : IntKind.i64.wrap (la.getD k 0 + (O.length : Int)) = la.getD k 0 + (O.length : Int) := zJ4 (by omega) (by omega)
              rw [mapK_get hlk] at g5 g6
              simp only [smp, smo, lookPn, lookPd, sfOfP, lookFo, lookFra, lookFrn, lookFes, lookFty, sfOfF, lookOk, lookRes, sfOf, sgOf, hOk, hRes, hOut, ↓reduceIte, Nat.reduceEqDiff, reduceCtorEq, qA, qB, g5, g6, zH0, zK6]
              simp [- List.getD_eq_getElem?_getD, - Subtype.exists, - Prod.exists, - Bool.exists_bool, hlk, w5, w6, accI_set, mapK_set hlk, accI_bel, isDatA]
              refine ⟨rfl, ?_, ⟨k + 1, by omega⟩, by show la.length - (k + 1) < la.length - k; omega, by simp, rfl⟩
              repeat' (first | (refine And.intro ?_ ?_) | exact fun _ _ => rfl | rfl)
            · simp only [smp, smo, lookPn, lookPd, sfOfP, lookFo, lookFra, lookFrn, lookFes, lookFty, sfOfF, lookOk, lookRes, sfOf, sgOf, hOk, hRes, hOut, ↓reduceIte, Nat.reduceEqDiff, reduceCtorEq, qA, qB, zH0, zK6, zF5]
              simp [- List.getD_eq_getElem?_getD, - Subtype.exists, - Prod.exists, - Bool.exists_bool, hlk, qB, qA]
              have hka : k = la.length := by omega
              subst hka
              rw [mapK_all]
              have f1 : ∀ {L : LM}, L.get 10 = some ⟨accI (la.map (· + (O.length : Int))), 1, 3, true, true⟩ → _ := fun {L} h => frz_nd (lh := L) h (by rw [List.length_map]) hlal y.k y.n y.tx y.nm
              rw [List.take_of_length_le (by rw [List.length_map, hol]; omega), ← List.map_map, frzOk_one (f1 rfl).1 (by rw [(f1 rfl).2]; simp), zK2 (f1 rfl).1]
              refine ⟨⟨by rw [← List.length.eq_def]; simp [hol], by omega⟩, rfl, ⟨⟨rfl, fun _ _ => rfl⟩, fun z hz => ?_⟩, ?_⟩
              · obtain ⟨d, _, rfl⟩ := List.mem_map.1 hz; rfl
              · rw [zH3 (by decide), zJ1]
                refine ⟨⟨(true, j + 1), by show j + 1 ≤ t.length; omega, by simp⟩, by show t.length - (j + 1) < t.length - j; omega, ?_, ?_⟩
                · simp [accN, w4]; omega
                · simp [- List.getD_eq_getElem?_getD, accB, zJ5 hlj, hyd, sh, har]
        · have hjt : j = t.length := by omega
          subst hjt
          have w7 : IntKind.i64.wrap ((O.length : Int) + (t.length : Int) - 1) = (O.length : Int) + (t.length : Int) - 1 := zJ4 (by omega) (by omega)
          simp only [smp, smo, lookPn, lookPd, sfOfP, lookFo, lookFra, lookFrn, lookFes, lookFty, sfOfF, lookOk, lookRes, sfOf, sgOf, hOk, hRes, hOut, ↓reduceIte, Nat.reduceEqDiff, reduceCtorEq, qA, qB, zF5]
          simp [- List.getD_eq_getElem?_getD, - Subtype.exists, - Prod.exists, - Bool.exists_bool, qB, qA, w7]
          rw [outJ_all]
          rw [List.take_of_length_le (by simp)]
          refine ⟨⟨by rw [← List.length.eq_def]; simp, by omega⟩, ?_⟩
          repeat' (first | (refine And.intro ?_ ?_) | exact fun _ _ => rfl | (exact fun z hz => by obtain ⟨w, _, rfl⟩ := List.mem_map.1 hz; rfl) | rfl)
          rw [zH3 (by decide), zJ1]
          have htp : 0 < t.length := List.length_pos_iff.2 (ho.pos t ht1)
          have q3 : O ++ t.map (sh O.length) ≠ [] := fun h => ho.pos t ht1 (List.map_eq_nil_iff.1 (List.append_eq_nil_iff.1 h).2)
          have q5 : (O ++ t.map (sh O.length)).length + totL ((o.getD []).drop (m + 1)) ≤ 1000000 := by rw [List.length_append, List.length_map]; omega
          have q6 : (R ++ [((O.length + t.length : Nat) : Int) - 1]).length = m + 1 := by rw [List.length_append, hi6]; rfl
          have q7 : ∀ z ∈ O ++ t.map (sh O.length), okN z := fun z hz => by
            rcases List.mem_append.1 hz with hz | hz
            · exact hi7 z hz
            · obtain ⟨w, hw, rfl⟩ := List.mem_map.1 hz
              exact okN_sh _ (hto.2 w hw)
          refine ⟨⟨(true, m + 1, O ++ t.map (sh O.length), R ++ [((O.length + t.length : Nat) : Int) - 1]), by show m + 1 ≤ (o.getD []).length; omega, by simp, fun _ => q3, (fun h => by cases h), q5, q6, q7, ht3.symm.trans hi8⟩, by show (o.getD []).length - (m + 1) < (o.getD []).length - m; omega, ?_, ?_⟩
          · simp [accN, accU, w3]
          · simp [- List.getD_eq_getElem?_getD, accB, rtA]
    · have hml : m = (o.getD []).length := by omega
      subst hml
      simp only [smp, smo, lookPn, lookPd, sfOfP, lookFo, lookFra, lookFrn, lookFes, lookFty, sfOfF, lookOk, lookRes, sfOf, sgOf, hOk, hRes, hOut, ↓reduceIte, Nat.reduceEqDiff, reduceCtorEq, qA, qB, zF5, List.length_map]
      simp [- List.getD_eq_getElem?_getD, - Subtype.exists, - Prod.exists, - Bool.exists_bool, qB, qA]
      have hR : R ≠ [] := fun h => by rw [h] at hi6; have := hi2.1 rfl; simp at hi6; omega
      have hi8 := hi8
      rw [jnS_end] at hi8
      rw [← hi8, List.take_of_length_le (by simp)]
      have hmk : mkI R = some R := by unfold mkI; rw [if_neg hR]
      rw [hmk]
      refine ⟨⟨by rw [← List.length.eq_def]; simp, by omega⟩, ?_⟩
      have e1 : O.map (AV.d ∘ encN) = (O.map encN).map AV.d := by rw [List.map_map]
      rw [e1]
      refine frz_row2 (by rfl) rfl (by omega) ?_
      exact (frz_nd7 (l := R) (by rfl) rfl (by omega) x.k x.n x.tx x.nm).1
end Go.Proofs.Sx

namespace Go.Proofs.Sx
open Go Go.Proofs Go.Proofs.Am 
variable {gs : List Nat}

theorem tm_args (v : V) : ∀ x ∈ tm sh id v, ∀ a ∈ x.args, 0 ≤ a ∧ a < (tm sh id v).length := by
  have h := tm_root _ v (Nat.lt_succ_self _) 0 [] []
  have e0 : (tm sh id v).map (sh ((0 : Nat) : Int)) = tm sh id v := by
    calc (tm sh id v).map (sh ((0 : Nat) : Int)) = (tm sh id v).map id := List.map_congr_left fun x _ => by
          cases x with | mk k n t nm ar =>
            cases ar with
            | none => rfl
            | some l => simp [sh]
      _ = _ := List.map_id _
  rw [e0, List.append_nil] at h
  intro x hx a ha
  obtain ⟨j, hj, rfl⟩ := List.mem_iff_getElem.1 hx
  have hl : Low ([] : List Int) 0 := fun y hy => by cases hy
  have := rootsF_low _ _ _ _ hl (h.trans (by rw [rootsF])) j hj a (by simpa [List.getD, List.getElem?_eq_getElem hj] using ha)
  omega
theorem rootV_ok {v : V} (hv : v.ok) (l : List Int) (hl : l.length ≤ 1048576) : okN ⟨(rootV id v.k v.n v.s v.nm).k, (rootV id v.k v.n v.s v.nm).n, (rootV id v.k v.n v.s v.nm).tx, (rootV id v.k v.n v.s v.nm).nm, mkI l⟩ := by
  have h0 : (⟨#[]⟩ : ByteArray).size ≤ 1048576 := by decide
  have h1 : okIs (mkI l) := by show ((mkI l).getD []).length ≤ 1048576; rw [mkI_get]; exact hl
  have h2 := V.ok_s hv
  have h3 : okS0 v.nm := V.ok_nm hv
  have h4 : okS0 none := ⟨by decide, fun x hx => by cases hx⟩
  unfold rootV
  repeat' split
  all_goals first | exact ⟨h0, h4, h1⟩ | exact ⟨h2, h4, h1⟩ | exact ⟨h0, h3, h1⟩
theorem tm_okN : ∀ (n : Nat) (v : V), v.sz < n → v.ok → ∀ x ∈ tm sh id v, okN x
  | 0, v, hn, _ => by omega
  | n + 1, v, hn, hv => by
    intro x hx
    rw [zI8, joinT] at hx
    rcases List.mem_append.1 hx with hx | hx
    · refine catP_all (P := okN) (fun d x h => okN_sh d h) _ _ (fun t ht y hy => ?_) x hx
      split at ht
      · cases ht
      · obtain ⟨w, hw, rfl⟩ := List.mem_map.1 ht
        exact tm_okN n w (by have := V.sz_item hw; omega) (V.ok_i hv _ hw) y hy
    · rw [List.mem_singleton] at hx
      subst hx
      refine rootV_ok hv _ ?_
      rw [rts_len]
      have := V.ok_il hv
      split
      · simp
      · rw [List.length_map]; exact this
theorem tot_map (g h) : ∀ (l : List V), totL (l.map (tm g h)) ≤ szL l
  | [] => Nat.le_refl _
  | v :: l => by
    have h1 := tm_len g h _ v (Nat.lt_succ_self _)
    have h2 := tot_map g h l
    rw [List.map_cons, totL, szL]
    omega
theorem own_mem {g h} (hg : ∀ d x, ownN (g d x) = sh d (ownN x)) (hh : ∀ o, (h o).getD [] = o.getD []) {v : V} {y : Nd} (hy : y ∈ tm g h v) : ∃ z ∈ tm sh id v, ownN z = ownN y := by
  have := List.mem_map_of_mem (f := ownN) hy
  rw [tm_own g h hg hh _ v (Nat.lt_succ_self _)] at this
  exact List.mem_map.1 this
theorem own_parts {z y : Nd} (h : ownN z = ownN y) : (okN z → okN y) ∧ z.args = y.args := by
  simp only [ownN, Nd.mk.injEq, Option.some.injEq] at h
  obtain ⟨h1, h2, h3, h4, h5⟩ := h
  refine ⟨fun hz => ⟨by rw [← h3]; exact hz.1, ?_, ?_⟩, h5⟩
  · have := hz.2.1
    show (y.names).length ≤ 1048576 ∧ ∀ x ∈ y.names, x.size ≤ 1048576
    rw [← h4]; exact this
  · show y.args.length ≤ 1048576
    rw [← h5]; exact hz.2.2
theorem tm_okT {g h} (hg : ∀ d x, ownN (g d x) = sh d (ownN x)) (hh : ∀ o, (h o).getD [] = o.getD []) {v : V} (hv : v.ok) (hs : v.sz ≤ 1000) : okT (some (tm g h v)) := by
  refine ⟨?_, fun y hy => ?_⟩
  · have := tm_len g h _ v (Nat.lt_succ_self _)
    show (tm g h v).length ≤ 1048576
    omega
  · obtain ⟨z, hz, hq⟩ := own_mem hg hh hy
    exact (own_parts hq).1 (tm_okN _ v (Nat.lt_succ_self _) hv z hz)
theorem tm_JOk {g h} (hg : ∀ d x, ownN (g d x) = sh d (ownN x)) (hh : ∀ o, (h o).getD [] = o.getD []) {v : V} (hv : v.ok) (hs : v.sz ≤ 1000) : JOk (v.items.map (tm g h)) := by
  have hi : ∀ x ∈ v.items, x.sz ≤ 1000 := fun x hx => by have := V.sz_item hx; omega
  refine ⟨?_, fun t ht => ?_, fun t ht => ?_, fun t ht y hy a ha => ?_⟩
  · rw [List.length_map]; exact V.ok_il hv
  · obtain ⟨w, hw, rfl⟩ := List.mem_map.1 ht
    intro h0
    have := joinT_len g (rootV h w.k w.n w.s w.nm) (if leafK w.k = true then [] else w.items.map (tm g h))
    rw [← zI8, h0] at this
    simp at this
  · obtain ⟨w, hw, rfl⟩ := List.mem_map.1 ht
    exact tm_okT hg hh (V.ok_i hv _ hw) (hi w hw)
  · obtain ⟨w, hw, rfl⟩ := List.mem_map.1 ht
    obtain ⟨z, hz, hq⟩ := own_mem hg hh hy
    rw [← (own_parts hq).2] at ha
    have h1 := tm_args w z hz a ha
    have h2 := tm_len sh id _ w (Nat.lt_succ_self _)
    have h3 := hi w hw
    omega
theorem tm_tot {g h} {v : V} (hs : v.sz ≤ 1000) : totL (v.items.map (tm g h)) ≤ 1000000 := by
  have := tot_map g h v.items
  have := v.sz_eq
  omega
theorem id_hh : ∀ o : Option (List ByteArray), (id o).getD [] = o.getD [] := fun _ => rfl
open Classical in
noncomputable def toTs (d : DV) : Option (List (List Nd)) := if h : ∃ v, d = encTs v then Classical.choose h else none
theorem toTs_enc (v : Option (List (List Nd))) : toTs (encTs v) = v := by
  have h : ∃ w, encTs v = encTs w := ⟨v, rfl⟩
  unfold toTs
  rw [dif_pos h]
  exact encTs_inj (Classical.choose_spec h).symm
def isJ (a b : DV) : Prop := ∃ x o, a = encN x ∧ b = encTs o ∧ okN x ∧ JOk (o.getD []) ∧ totL (o.getD []) ≤ 1000000
theorem isJ_enc (x : Nd) (o : Option (List (List Nd))) : isJ (encN x) (encTs o) = (okN x ∧ JOk (o.getD []) ∧ totL (o.getD []) ≤ 1000000) := by
  apply propext
  constructor
  · rintro ⟨y, p, h1, h2, h3⟩; rw [encN_inj h1, encTs_inj h2]; exact h3
  · intro h; exact ⟨x, o, rfl, rfl, h⟩
open Classical in
noncomputable def e3042 : Ent := ⟨42, fun | [a, b] => decide (isJ a b) | _ => false, fun | [a, b] => encT (some (joinT sh (toN a) ((toTs b).getD []))) | _ => .inil⟩
open Classical in
theorem ok3042 : EntOk Tryz.prog [0] e3042 := fun ds h => by
  unfold e3042 at h ⊢
  simp only at h ⊢
  split at h
  · rw [decide_eq_true_iff] at h
    obtain ⟨x, o, rfl, rfl, h1, h2, h3⟩ := h
    simp only [zC8, toTs_enc]
    exact pc3042 x o h1 h2 h3
  · cases h
theorem zI7 : JOk [] := ⟨by simp, fun t ht => (by cases ht), fun t ht => (by cases ht), fun t ht => (by cases ht)⟩
def tmA (g : Int → Nd → Nd) (h : Option (List ByteArray) → Option (List ByteArray)) (l : List V) (i : Nat) : List DV := (l.take i).map fun w => encT (some (tm g h w))
theorem tmA_len {g h} {l : List V} {i : Nat} (hi : i ≤ l.length) : (tmA g h l i).length = i := by simp [tmA]; omega
theorem tmA_succ {g h} {l : List V} {i : Nat} (hi : i < l.length) : tmA g h l (i + 1) = tmA g h l i ++ [encT (some (tm g h (l.getD i default)))] := by
  unfold tmA
  rw [List.take_add_one, List.map_append]
  simp [List.getD, hi]
theorem tmA_all (g h) (l : List V) : DV.sim (tmA g h l l.length) = encTs (some (l.map (tm g h))) := by
  simp [tmA, encTs]
end Go.Proofs.Sx

namespace Go.Proofs.Sx
open Go Go.Proofs Go.Proofs.Am 
variable {gs : List Nat}

theorem own_sz : ∀ (n : Nat) (v : V), v.sz < n → (ownV v).sz = v.sz
  | 0, v, h => by omega
  | n + 1, v, h => by
    have hi : ∀ x ∈ v.items, (ownV x).sz = x.sz := fun x hx => own_sz n x (by have := V.sz_item hx; omega)
    have hl : ∀ (l : List V), (∀ x ∈ l, (ownV x).sz = x.sz) → szL (l.map ownV) = szL l := fun l => by
      induction l with
      | nil => intro _; rfl
      | cons x l ih =>
        intro hx
        rw [List.map_cons, szL, szL, hx x (List.mem_cons_self ..), ih fun y hy => hx y (List.mem_cons_of_mem _ hy)]
    rw [V.sz_eq, V.sz_eq v, own_items, hl v.items hi]
theorem own_bag : ∀ (n : Nat) (v : V), v.sz < n → hasBag (ownV v) = hasBag v
  | 0, v, h => by omega
  | n + 1, v, h => by
    have hi : ∀ x ∈ v.items, hasBag (ownV x) = hasBag x := fun x hx => own_bag n x (by have := V.sz_item hx; omega)
    have hl : ∀ (l : List V), (∀ x ∈ l, hasBag (ownV x) = hasBag x) → hasBagL (l.map ownV) = hasBagL l := fun l => by
      induction l with
      | nil => intro _; rfl
      | cons x l ih =>
        intro hx
        rw [List.map_cons, hasBagL, hasBagL, hx x (List.mem_cons_self ..), ih fun y hy => hx y (List.mem_cons_of_mem _ hy)]
    rw [hasBag_eq, hasBag_eq v, own_k, own_items, hl v.items hi]
theorem cmp_ownV : ∀ (n : Nat) (v w : V), v.sz < n → cmpV (ownV v) w = cmpV v w
  | 0, v, w, h => by omega
  | n + 1, v, w, h => by
    have hl : ∀ (l r : List V), (∀ x ∈ l, ∀ y, cmpV (ownV x) y = cmpV x y) → cmpL (l.map ownV) r = cmpL l r := fun l => by
      induction l with
      | nil => intro r _; rfl
      | cons x l ih =>
        intro r hx
        cases r with
        | nil => rw [List.map_cons, cmpL, cmpL]
        | cons y r => rw [List.map_cons, cmpL, cmpL, hx x (List.mem_cons_self ..), ih r fun z hz => hx z (List.mem_cons_of_mem _ hz)]
    rw [cmpV_eq, cmpV_eq v w, own_k, own_n, own_e, own_s, own_names, own_items, hl v.items w.items fun x hx y => cmp_ownV n x y (by have := V.sz_item hx; omega)]
theorem tm_ownV : ∀ (n : Nat) (v : V), v.sz < n → (tm sh id (ownV v)).map ownN = (tm sh id v).map ownN
  | 0, v, h => by omega
  | n + 1, v, h => by
    have hi : ∀ x ∈ v.items, (tm sh id (ownV x)).map ownN = (tm sh id x).map ownN := fun x hx => tm_ownV n x (by have := V.sz_item hx; omega)
    rw [zI8 sh id, zI8 sh id v, own_k, own_n, own_s, own_items]
    have hl : (if leafK v.k = true then [] else (v.items.map ownV).map (tm sh id)).map (List.map ownN) = (if leafK v.k = true then [] else v.items.map (tm sh id)).map (List.map ownN) := by
      split
      · rfl
      · rw [List.map_map, List.map_map, List.map_map]; exact List.map_congr_left fun x hx => hi x hx
    obtain ⟨c1, c2⟩ := catP_own sh ownN_sh _ _ 0 hl
    have hr : ∀ ar, ownN ⟨(rootV id v.k v.n v.s (ownV v).nm).k, (rootV id v.k v.n v.s (ownV v).nm).n, (rootV id v.k v.n v.s (ownV v).nm).tx, (rootV id v.k v.n v.s (ownV v).nm).nm, ar⟩ = ownN ⟨(rootV id v.k v.n v.s v.nm).k, (rootV id v.k v.n v.s v.nm).n, (rootV id v.k v.n v.s v.nm).tx, (rootV id v.k v.n v.s v.nm).nm, ar⟩ := fun ar => by
      have hn : (ownV v).nm.getD [] = v.nm.getD [] := own_names v
      unfold rootV
      repeat' split
      all_goals first | rfl | simp only [ownN, Nd.names, Nd.args, id, hn]
    simp only [joinT, List.map_append, c1, c2, List.map_cons, List.map_nil, hr]
theorem writes_same (v : V) : SameTm (tm sh id (ownV v)) (tm shR hR v) := by
  have h := (tm_ownV _ v (Nat.lt_succ_self _)).trans (tm_own shR hR ownN_shR hR_hh _ v (Nat.lt_succ_self _)).symm
  have hlen : (tm sh id (ownV v)).length = (tm shR hR v).length := by have := congrArg List.length h; simpa using this
  refine ⟨hlen, fun j hj => sameN_own ?_⟩
  have e := congrArg (fun l => l.getD j default) h
  simp only [List.getD_eq_getElem?_getD, List.getElem?_map] at e ⊢
  rw [List.getElem?_eq_getElem hj, List.getElem?_eq_getElem (by omega)] at e ⊢
  simpa using e
theorem nV_ok : ∀ (n : Nat) (v : V), v.sz < n → v.ok → (nV v).ok
  | 0, v, h, _ => by omega
  | n + 1, v, h, hv => by
    have hi : ∀ x ∈ v.items, (nV x).ok := fun x hx => nV_ok n x (by have := V.sz_item hx; omega) (V.ok_i hv _ hx)
    rw [nV_eq]
    refine okV_mk (V.ok_s hv) ?_ ?_
    · have := V.ok_nm hv
      exact ⟨by rw [mkS_get]; exact this.1, by rw [mkS_get]; exact this.2⟩
    · unfold mkO
      split
      · trivial
      · refine ⟨by rw [List.length_map]; exact V.ok_il hv, okL_all fun w hw => ?_⟩
        obtain ⟨x, hx, rfl⟩ := List.mem_map.1 hw
        exact hi x hx
def ap0 : (Int → Ev) → Nd → Int → Ev := fun _ _ _ => .error (0, 1)
theorem tm_no8 (v : V) (hp : plainE v = 0) : ∀ x ∈ tm sh id v, x.k ≠ 8 := fun x hx => by
  have := (tm_good _ v (Nat.lt_succ_self _) hp x hx).k
  omega
theorem envE_nil : envE [] = (0, 0) := by
  unfold envE
  rw [if_neg (by simp)]; rfl
theorem ops0 {t : Option (List Nd)} {en : Option (List B)} (h : ∀ x ∈ t.getD [], x.k ≠ 8) : Ops ap0 t en ∧ OpsNz ap0 (t.getD []) (en.getD []) := by
  refine ⟨fun N a _ ha hk _ => absurd hk (h _ (memN ha)), fun N a _ ha hk _ => absurd hk (h _ (memN ha))⟩
theorem pc16z (t : Option (List Nd)) (ht : okT t) (h : ∀ x ∈ t.getD [], x.k ≠ 8) : PureCall Tryz.prog [0] 11 [.snil, encT t] (dRet (valR (t.getD []) [] (valueE ap0 (t.getD []) []))) := by
  have := pc16v ap0 t none ht ⟨by simp, by simp⟩ (fun _ b hb => by simp at hb) fun _ _ => ops0 h
  exact this
def is16 (a b : DV) : Prop := a = .snil ∧ ∃ o, b = encT o ∧ okT o ∧ ∀ x ∈ o.getD [], x.k ≠ 8
theorem is16_enc (o : Option (List Nd)) : is16 .snil (encT o) = (okT o ∧ ∀ x ∈ o.getD [], x.k ≠ 8) := by
  apply propext
  constructor
  · rintro ⟨_, p, h1, h2⟩; rw [encT_inj h1]; exact h2
  · intro h; exact ⟨rfl, o, rfl, h⟩
open Classical in
noncomputable def e16z : Ent := ⟨11, fun | [a, b] => decide (is16 a b) | _ => false, fun | [a, b] => valR ((toT b).getD []) [] (valueE ap0 ((toT b).getD []) []) | _ => .inil⟩
open Classical in
theorem ok16z : EntOk Tryz.prog [0] e16z := fun ds h => by
  unfold e16z at h ⊢
  simp only at h ⊢
  split at h
  · rw [decide_eq_true_iff] at h
    obtain ⟨rfl, o, rfl, h1, h2⟩ := h
    simp only [zC9]
    exact pc16z o h1 h2
  · cases h
theorem writes_value (v : V) (hv : valE v = 0) (hl : (tm sh id (ownV v)).length ≤ 200) (hb : hasBag v = false) : valR (tm sh id (ownV v)) [] (valueE ap0 (tm sh id (ownV v)) []) = .tup [(nV (ownV v)).enc, .int .i64 0, .int .i64 0] ∧
    (smallV (nV (ownV v)) 120 && decide (valE (nV (ownV v)) = 0)) = true ∧ cmpV (nV (ownV v)) v = 0 := by
  have hv' : valE (ownV v) = 0 := (valE_own v).trans hv
  have hb' : hasBag (ownV v) = false := (own_bag _ v (Nat.lt_succ_self _)).trans hb
  have hp : plainE (ownV v) = 0 := by
    unfold valE at hv'
    split at hv'
    · exact hv'
    · cases hv'
  refine ⟨?_, nV_val _ hv' hb', ?_⟩
  · rw [tm_value ap0 [] (ownV v) hv' hb']
    unfold valR
    rw [envE_nil, if_neg (by simp), tm_right _ hp hl, if_neg (by simp)]
    rfl
  · rw [cmp_nV _ (ownV v) v (Nat.lt_succ_self _), cmp_ownV _ v v (Nat.lt_succ_self _)]
    have := cmpV_anti v v
    omega
theorem valR_tup (t : List Nd) (e : Ev) : ∃ w i c, valR t [] e = .tup [V.enc w, .int .i64 i, .int .i64 c] := by
  unfold valR
  split
  · exact ⟨_, _, _, rfl⟩
  · split
    · exact ⟨_, _, _, rfl⟩
    · cases e with
      | ok v => exact ⟨v, 0, 0, rfl⟩
      | error p => exact ⟨zeroV, p.1, p.2, rfl⟩
end Go.Proofs.Sx

namespace Go.Proofs.Sx
open Go Go.Proofs Go.Proofs.Am 
variable {gs : List Nat}

def xR (x : Nd) : Nd := ⟨x.k, x.n, x.tx, some x.names, none⟩
def takK (f : Nat) (l : List Int) (k : Nat) : List Int := (l.take k).map fun a => a + (f : Int)
theorem takK_len {f : Nat} {l : List Int} {k : Nat} (h : k ≤ l.length) : (takK f l k).length = k := by simp [takK]; omega
theorem takK_succ {f : Nat} {l : List Int} {k : Nat} (h : k < l.length) : takK f l (k + 1) = takK f l k ++ [l.getD k 0 + (f : Int)] := by
  unfold takK
  rw [List.take_add_one, List.map_append]
  simp [List.getD, List.getElem?_eq_getElem h]
theorem takK_all (f : Nat) (l : List Int) : takK f l l.length = l.map fun a => a + (f : Int) := by simp [takK]
def rtY (y : Nd) : Bool → Nat → AV
  | false, _ => .agg [.d (.int .i64 y.k), .d (.int .i64 y.n), .d (.str y.tx), .d (encS (some y.names)), .d .snil]
  | true, n => .agg [.d (.int .i64 y.k), .d (.int .i64 y.n), .d (.str y.tx), .d (encS (some y.names)), .slc 5 1 0 n]
theorem yar (y : Nd) : y.ar.getD [] = y.args := rfl
def lv32 : Nat → List Nat × List Nat
  | 4 => ([1, 2, 5, 6, 86], [500000, 10005, 10086])
  | 8 => ([1, 2, 5, 6, 7, 8, 86], [0, 2, 10005, 1000005])
  | 13 => ([1, 2, 5, 6, 7, 8, 9, 10, 74, 86], [0, 2, 3, 500004, 10074])
  | _ => ([], [])
set_option maxHeartbeats 8000000 in
theorem pc32 (x : Nd) (o : Option (List (List Nd))) (hx : okN x) (ho : JOk (o.getD [])) (ht : totL (o.getD []) ≤ 1000000) :
    PureCall Tryz.prog [0] 37 [encN x, encTs o] (dRet (encT (some (joinT shR (xR x) (o.getD []))))) := by
  have hl := ho.len
  refine zH7 mixed fn32 (Nat.le_of_ble_eq_true rfl) (Nat.lt_of_succ_le (Nat.le_of_ble_eq_true rfl)) (sfOk (.cons ok29 .nil)) TbOk (lv := lv32) fun I F hI hF => ?_
  refine zE2 fun C hC => ?_
  generalize Q0 : encN x = Z0
  generalize Q1 : encTs o = Z1
  cbv
  subst Q0 Q1
  subst hC
  refine ⟨?_⟩
  simp (maxSteps:=9999999) only [hI, hF, std]
  simp only [smp, smo, lookOk, lookRes, sfOf, ↓reduceIte, Nat.reduceEqDiff, reduceCtorEq, qA, qB, e29, zG6, zG3, List.length_map]
  simp [- List.getD_eq_getElem?_getD, - Subtype.exists, - Prod.exists, - Bool.exists_bool, qA, qB, hx.2.1]
  refine zE1 (kend := fun I => kEnd I Tb [.tmp 4]) hI hF (sfOk (.cons ok29 .nil)) TbOk (by exact fun Bk e s h => endR TbOk Bk e s h) (lv := lv32) 0 (fun i : {i : Bool × Nat × List Nd × List Int // i.2.1 ≤ (o.getD []).length ∧ (i.1 = true ↔ 0 < i.2.1) ∧ (i.1 = true → i.2.2.1 ≠ []) ∧ (i.1 = false → i.2.2.1 = [] ∧ i.2.2.2 = []) ∧ i.2.2.1.length + totL ((o.getD []).drop i.2.1) ≤ 1000000 ∧ i.2.2.2.length = i.2.1 ∧ jnS shR (xR x) i.2.2.1 i.2.2.2 ((o.getD []).drop i.2.1) = joinT shR (xR x) (o.getD [])} => [.d (encTs o), .loc 0 5 0 0, accN 1 5 i.1.1 i.1.2.2.1.length, .d (.int .i64 (i.1.2.1 : Int)), accU 2 1 i.1.1 i.1.2.2.2.length]) (fun i : {i : Bool × Nat × List Nd × List Int // i.2.1 ≤ (o.getD []).length ∧ (i.1 = true ↔ 0 < i.2.1) ∧ (i.1 = true → i.2.2.1 ≠ []) ∧ (i.1 = false → i.2.2.1 = [] ∧ i.2.2.2 = []) ∧ i.2.2.1.length + totL ((o.getD []).drop i.2.1) ≤ 1000000 ∧ i.2.2.2.length = i.2.1 ∧ jnS shR (xR x) i.2.2.1 i.2.2.2 ((o.getD []).drop i.2.1) = joinT shR (xR x) (o.getD [])} => [(0, some ⟨[rtA (xR x) i.1.1 i.1.2.2.2.length], 5, 54, true, true⟩), (1, accB 5 54 (i.1.2.2.1.map (AV.d ∘ encN)) i.1.1), (2, accB 1 3 (i.1.2.2.2.map (AV.d ∘ DV.int .i64)) i.1.1)]) (fun i : {i : Bool × Nat × List Nd × List Int // i.2.1 ≤ (o.getD []).length ∧ (i.1 = true ↔ 0 < i.2.1) ∧ (i.1 = true → i.2.2.1 ≠ []) ∧ (i.1 = false → i.2.2.1 = [] ∧ i.2.2.2 = []) ∧ i.2.2.1.length + totL ((o.getD []).drop i.2.1) ≤ 1000000 ∧ i.2.2.2.length = i.2.1 ∧ jnS shR (xR x) i.2.2.1 i.2.2.2 ((o.getD []).drop i.2.1) = joinT shR (xR x) (o.getD [])} => (o.getD []).length - i.1.2.1) [500000, 10005, 10086] (⟨(false, 0, [], []), by simp, by simp, by simp, by simp, by simpa using ht, rfl, by simpa using jnS_join shR (xR x) _⟩ : {i : Bool × Nat × List Nd × List Int // i.2.1 ≤ (o.getD []).length ∧ (i.1 = true ↔ 0 < i.2.1) ∧ (i.1 = true → i.2.2.1 ≠ []) ∧ (i.1 = false → i.2.2.1 = [] ∧ i.2.2.2 = []) ∧ i.2.2.1.length + totL ((o.getD []).drop i.2.1) ≤ 1000000 ∧ i.2.2.2.length = i.2.1 ∧ jnS shR (xR x) i.2.2.1 i.2.2.2 ((o.getD []).drop i.2.1) = joinT shR (xR x) (o.getD [])}) (by rfl) (by rfl) ?_ ?_ fun i => ?_
  · rfl
  · rfl
  obtain ⟨⟨b, m, O, R⟩, o1, o2, o3, o4, o5, o6, o8⟩ := i
  have hi1 : m ≤ (o.getD []).length := o1
  have hi2 : b = true ↔ 0 < m := o2
  have hi3 : b = true → O ≠ [] := o3
  have hi4 : b = false → O = [] ∧ R = [] := o4
  have hi5 : O.length + totL ((o.getD []).drop m) ≤ 1000000 := o5
  have hi6 : R.length = m := o6
  have hi8 : jnS shR (xR x) O R ((o.getD []).drop m) = joinT shR (xR x) (o.getD []) := o8
  have w3 := zE6 (n := m) (by omega)
  cases b with
  | false =>
    rw [show accN 1 5 false O.length = .d .snil from rfl, show accU 2 1 false R.length = .undef from rfl, show rtA (xR x) false R.length = .agg [.d (.int .i64 x.k), .d (.int .i64 x.n), .d (.str x.tx), .d (encS (some x.names)), .d .snil] from rfl, show accB 5 54 (O.map (AV.d ∘ encN)) false = none from rfl, show accB 1 3 (R.map (AV.d ∘ DV.int .i64)) false = none from rfl]
    refine zE2 fun C hC => ?_
    generalize Q0 : DV.int .i64 x.k = Z0
    generalize Q1 : DV.int .i64 x.n = Z1
    generalize Q2 : DV.str x.tx = Z2
    generalize Q3 : encS (some x.names) = Z3
    generalize Q4 : encTs o = Z4
    generalize Q5 : DV.int .i64 (m : Int) = Z5
    cbv
    subst Q0 Q1 Q2 Q3 Q4 Q5
    subst hC
    refine ⟨?_⟩
    simp (maxSteps:=9999999) only [hI, hF, std]
    by_cases hlt : m < (o.getD []).length
    · have g1 := get_encTs _ _ hlt
      have ht1 := memT hlt
      have ht2 := totL_step hlt
      have ht3 := jnS_step (g := shR) (x := xR x) (O := O) (R := R) hlt
      obtain ⟨hO, hR⟩ := hi4 rfl
      have hm0 : m = 0 := by rw [hR] at hi6; exact hi6.symm
      simp only [smp, smo, lookOk, lookRes, sfOf, ↓reduceIte, Nat.reduceEqDiff, reduceCtorEq, qA, qB, zG6, zG3, List.length_map, g1]
      simp [- List.getD_eq_getElem?_getD, - Subtype.exists, - Prod.exists, - Bool.exists_bool, hlt, qB, qA]
      generalize htd : (o.getD []).getD m [] = t at g1 ht1 ht2 ht3
      have hto := ho.ok t ht1
      have htl : t.length ≤ 1048576 := hto.1
      refine zE1 (kend := fun I => kEnd I Tb [.tmp 4]) hI hF (sfOk (.cons ok29 .nil)) TbOk (by exact fun Bk e s h => endR TbOk Bk e s h) (lv := lv32) 2 (fun i : {i : Bool × Nat // i.2 ≤ t.length ∧ (i.1 = true ↔ (0 < m ∨ 0 < i.2))} => [.d (encTs o), .loc 0 5 0 0, accN 3 5 i.1.1 (O.length + i.1.2), .d (.int .i64 (m : Int)), .d (.int .i64 (O.length : Int)), .d (.int .i64 (i.1.2 : Int)), accU 2 1 false R.length]) (fun i : {i : Bool × Nat // i.2 ≤ t.length ∧ (i.1 = true ↔ (0 < m ∨ 0 < i.2))} => [(0, some ⟨[rtA (xR x) false R.length], 5, 54, true, true⟩), (2, accB 1 3 (R.map (AV.d ∘ DV.int .i64)) false), (3, accB 5 54 ((outJ shR O t i.1.2).map (AV.d ∘ encN)) i.1.1)]) (fun i : {i : Bool × Nat // i.2 ≤ t.length ∧ (i.1 = true ↔ (0 < m ∨ 0 < i.2))} => t.length - i.1.2) [0, 2, 10005, 1000005] (⟨(false, 0), by simp, by simp [hm0]⟩ : {i : Bool × Nat // i.2 ≤ t.length ∧ (i.1 = true ↔ (0 < m ∨ 0 < i.2))}) (by rfl) (by rfl) ?_ ?_ fun i => ?_
      · subst hO hR; simp only [qB, qA, smp, smo, lookOk, lookRes, sfOf, ↓reduceIte, Nat.reduceEqDiff, reduceCtorEq, List.length_map]; rfl
      · subst hO hR; simp only [qB, qA, smp, smo, lookOk, lookRes, sfOf, ↓reduceIte, Nat.reduceEqDiff, reduceCtorEq]; rfl
      obtain ⟨⟨c, j⟩, p1, p2⟩ := i
      have hj1 : j ≤ t.length := p1
      have hj2 : c = true ↔ (0 < m ∨ 0 < j) := p2
      have w4 := zE6 (n := j) (by omega)
      have hol := outJ_len (g := shR) (O := O) hj1
      cases c with
      | false =>
        rw [show accN 3 5 false (O.length + j) = .d .snil from rfl, show accU 2 1 false R.length = .undef from rfl, show rtA (xR x) false R.length = .agg [.d (.int .i64 x.k), .d (.int .i64 x.n), .d (.str x.tx), .d (encS (some x.names)), .d .snil] from rfl, show accB 5 54 ((outJ shR O t j).map (AV.d ∘ encN)) false = none from rfl, show accB 1 3 (R.map (AV.d ∘ DV.int .i64)) false = none from rfl]
        refine zE2 fun C hC => ?_
        generalize Q0 : DV.int .i64 x.k = Z0
        generalize Q1 : DV.int .i64 x.n = Z1
        generalize Q2 : DV.str x.tx = Z2
        generalize Q3 : encS (some x.names) = Z3
        generalize Q4 : encTs o = Z4
        generalize Q5 : DV.int .i64 (m : Int) = Z5
        generalize Q6 : DV.int .i64 (j : Int) = Z6
        generalize Q7 : DV.int .i64 (O.length : Int) = Z7
        cbv
        subst Q0 Q1 Q2 Q3 Q4 Q5 Q6 Q7
        subst hC
        refine ⟨?_⟩
        simp (maxSteps:=9999999) only [hI, hF, std]
        by_cases hlj : j < t.length
        · have g2 := zI4 _ _ hlj
          have hy := okT_get hto hlj
          simp only [Option.getD_some] at hy
          generalize hyd : t.getD j default = y at g2 hy
          simp only [smp, smo, lookOk, lookRes, sfOf, ↓reduceIte, Nat.reduceEqDiff, reduceCtorEq, qA, qB, zG6, zG3, List.length_map, g1, g2, e29, Option.getD_some]
          simp [- List.getD_eq_getElem?_getD, - Subtype.exists, - Prod.exists, - Bool.exists_bool, hlt, hlj, qB, qA, g1, g2, hy.2.1, hy.2.2]
          have hal : ∀ a ∈ y.args, 0 ≤ a ∧ a ≤ 1048576 := ho.ar t ht1 y (by rw [← hyd]; exact memN hlj)
          have hyl : y.args.length ≤ 1048576 := hy.2.2
          refine zE1 (kend := fun I => kEnd I Tb [.tmp 4]) hI hF (sfOk (.cons ok29 .nil)) TbOk (by exact fun Bk e s h => endR TbOk Bk e s h) (lv := lv32) 4 (fun i : {i : Bool × Nat // i.2 ≤ y.args.length ∧ (i.1 = true ↔ 0 < i.2)} => [.d (encTs o), .loc 0 5 0 0, .d .snil, .d (.int .i64 (m : Int)), .d (.int .i64 (O.length : Int)), .d (.int .i64 (j : Int)), .loc 4 5 0 0, .d (.int .i64 (i.1.2 : Int)), accU 5 1 i.1.1 i.1.2, .undef]) (fun i : {i : Bool × Nat // i.2 ≤ y.args.length ∧ (i.1 = true ↔ 0 < i.2)} => [(0, some ⟨[.agg [.d (.int .i64 x.k), .d (.int .i64 x.n), .d (.str x.tx), .d (encS (some x.names)), .d .snil]], 5, 54, true, true⟩), (2, none), (3, none), (4, some ⟨[rtY y i.1.1 i.1.2], 5, 54, true, true⟩), (5, accB 1 3 (accI (takK O.length y.args i.1.2)) i.1.1)]) (fun i : {i : Bool × Nat // i.2 ≤ y.args.length ∧ (i.1 = true ↔ 0 < i.2)} => y.args.length - i.1.2) [0, 2, 3, 500004, 10074] (⟨(false, 0), by simp, by simp⟩ : {i : Bool × Nat // i.2 ≤ y.args.length ∧ (i.1 = true ↔ 0 < i.2)}) (by rfl) (by rfl) ?_ ?_ fun i => ?_
          · rfl
          · rfl
          obtain ⟨⟨e, k⟩, r1, r2⟩ := i
          have hk1 : k ≤ y.args.length := r1
          have hk2 : e = true ↔ 0 < k := r2
          have w5 := zE6 (n := k) (by omega)
          have hkl := takK_len (f := O.length) hk1
          cases e with
          | false =>
            rw [show accU 5 1 false k = .undef from rfl, show rtY y false k = .agg [.d (.int .i64 y.k), .d (.int .i64 y.n), .d (.str y.tx), .d (encS (some y.names)), .d .snil] from rfl, show accB 1 3 (accI (takK O.length y.args k)) false = none from rfl]
            refine zE2 fun C hC => ?_
            generalize Q0 : DV.int .i64 x.k = Z0
            generalize Q1 : DV.int .i64 x.n = Z1
            generalize Q2 : DV.str x.tx = Z2
            generalize Q3 : encS (some x.names) = Z3
            generalize Q4 : encTs o = Z4
            generalize Q5 : DV.int .i64 (m : Int) = Z5
            generalize Q6 : DV.int .i64 (j : Int) = Z6
            generalize Q7 : DV.int .i64 (O.length : Int) = Z7
            generalize Q8 : DV.int .i64 y.k = Z8
            generalize Q9 : DV.int .i64 y.n = Z9
            generalize Q10 : DV.str y.tx = Z10
            generalize Q11 : encS (some y.names) = Z11
            generalize Q12 : DV.int .i64 (k : Int) = Z12
            cbv
            subst Q0 Q1 Q2 Q3 Q4 Q5 Q6 Q7 Q8 Q9 Q10 Q11 Q12
            subst hC
            refine ⟨?_⟩
            simp (maxSteps:=9999999) only [hI, hF, std]
            by_cases hlk : k < y.args.length
            · have g5 := zI0 _ _ hlk
              have g7 := hal _ (memJ hlk)
              have w6 : IntKind.i64.wrap (y.args.getD k 0 + (O.length : Int)) = y.args.getD k 0 + (O.length : Int) := zJ4 (by omega) (by omega)
              simp only [smp, smo, lookOk, lookRes, sfOf, ↓reduceIte, Nat.reduceEqDiff, reduceCtorEq, qA, qB, zG6, zG3, List.length_map, g1, g2, yar, g5, zH0, Option.getD_some, zF5]
              simp [- List.getD_eq_getElem?_getD, - Subtype.exists, - Prod.exists, - Bool.exists_bool, hlt, hlj, hlk, qB, qA, g1, g2, w5, w6, accI_bel, g5]
              have hk0 : k = 0 := by have := mt hk2.2; simp at this; omega
              repeat' (first | (refine And.intro ?_ ?_) | exact fun _ _ => rfl | (exact fun z hz => by obtain ⟨w, _, rfl⟩ := List.mem_map.1 hz; rfl) | rfl)
              refine ⟨⟨(true, k + 1), by show k + 1 ≤ y.args.length; omega, by simp⟩, by show y.args.length - (k + 1) < y.args.length - k; omega, ⟨by simp, by show AV.slc 5 1 0 1 = AV.slc 5 1 0 (k + 1); rw [hk0]⟩, by show AV.agg [.d (.int .i64 y.k), .d (.int .i64 y.n), .d (.str y.tx), .d (encS (some y.names)), .slc 5 1 0 1] = AV.agg [.d (.int .i64 y.k), .d (.int .i64 y.n), .d (.str y.tx), .d (encS (some y.names)), .slc 5 1 0 (k + 1)]; rw [hk0], ?_⟩
              show _ = some (LB.mk (accI (takK O.length y.args (k + 1))) 1 3 true true)
              have ht0 : takK O.length y.args k = [] := List.length_eq_zero_iff.1 (by omega)
              rw [takK_succ hlk, ht0]; rfl
            · simp only [smp, smo, lookOk, lookRes, sfOf, ↓reduceIte, Nat.reduceEqDiff, reduceCtorEq, qA, qB, zG6, zG3, List.length_map, g1, g2, yar, zH0, Option.getD_some, zF5]
              simp [- List.getD_eq_getElem?_getD, - Subtype.exists, - Prod.exists, - Bool.exists_bool, hlt, hlj, hlk, qB, qA, g1, g2]
              have hke : k = y.args.length := by omega
              have hya : y.args = [] := List.length_eq_zero_iff.1 (by have := mt hk2.2; simp at this; omega)
              have hmy : mkI (y.args.map fun a => a + (O.length : Int)) = none := by rw [hya]; rfl
              rw [frzOk_sing (zJ8 y.k y.n y.tx (some y.names)).1 (by rw [(zJ8 y.k y.n y.tx (some y.names)).2]; simp), frzEls_sing (zJ8 y.k y.n y.tx (some y.names)).1]
              refine ⟨rfl, fun z hz => ?_, ?_⟩
              · rw [List.mem_singleton.1 hz]; rfl
              · rw [zH3 (by decide), zJ1]
                have hm1 : ¬ (0 < m ∨ 0 < j) := fun h => by cases hj2.2 h
                have hO0 : O.length = 0 := by rw [hO]; rfl
                have ho0 : outJ shR O t j = [] := List.length_eq_zero_iff.1 (by omega)
                refine ⟨⟨(true, j + 1), by show j + 1 ≤ t.length; omega, by simp⟩, by show t.length - (j + 1) < t.length - j; omega, ?_, ?_⟩
                · simp [accN, w4]; omega
                · simp [- List.getD_eq_getElem?_getD, accB, ho0, zJ5 hlj, hyd, shR, hmy]
          | true =>
            rw [show accU 5 1 true k = .slc 5 1 0 k from rfl, show rtY y true k = .agg [.d (.int .i64 y.k), .d (.int .i64 y.n), .d (.str y.tx), .d (encS (some y.names)), .slc 5 1 0 k] from rfl, show accB 1 3 (accI (takK O.length y.args k)) true = some ⟨accI (takK O.length y.args k), 1, 3, true, true⟩ from rfl]
            refine zE2 fun C hC => ?_
            generalize Q0 : DV.int .i64 x.k = Z0
            generalize Q1 : DV.int .i64 x.n = Z1
            generalize Q2 : DV.str x.tx = Z2
            generalize Q3 : encS (some x.names) = Z3
            generalize Q4 : encTs o = Z4
            generalize Q5 : DV.int .i64 (m : Int) = Z5
            generalize Q6 : DV.int .i64 (j : Int) = Z6
            generalize Q7 : DV.int .i64 (O.length : Int) = Z7
            generalize Q8 : DV.int .i64 y.k = Z8
            generalize Q9 : DV.int .i64 y.n = Z9
            generalize Q10 : DV.str y.tx = Z10
            generalize Q11 : encS (some y.names) = Z11
            generalize Q12 : DV.int .i64 (k : Int) = Z12
            generalize Q13 : accI (takK O.length y.args k) = Z13
            generalize Q14 : k = Z14
            cbv
            subst Q0 Q1 Q2 Q3 Q4 Q5 Q6 Q7 Q8 Q9 Q10 Q11 Q12 Q13 Q14
            subst hC
            refine ⟨?_⟩
            simp (maxSteps:=9999999) only [hI, hF, std]
            by_cases hlk : k < y.args.length
            · have g5 := zI0 _ _ hlk
              have g7 := hal _ (memJ hlk)
              have w6 : IntKind.i64.wrap (y.args.getD k 0 + (O.length : Int)) = y.args.getD k 0 + (O.length : Int) := zJ4 (by omega) (by omega)
              simp only [smp, smo, lookOk, lookRes, sfOf, ↓reduceIte, Nat.reduceEqDiff, reduceCtorEq, qA, qB, zG6, zG3, List.length_map, g1, g2, yar, g5, zH0, Option.getD_some, zF5]
              simp [- List.getD_eq_getElem?_getD, - Subtype.exists, - Prod.exists, - Bool.exists_bool, hlt, hlj, hlk, qB, qA, g1, g2, w5, w6, accI_bel, g5]
              rw [List.take_of_length_le (by rw [zH0, hkl]; omega)]
              have q2 : accI (takK O.length y.args k) ++ [AV.d (.int .i64 (y.args.getD k 0 + (O.length : Int)))] = accI (takK O.length y.args (k + 1)) := by rw [takK_succ hlk]; simp [accI]
              rw [q2]
              repeat' (first | (refine And.intro ?_ ?_) | exact fun _ _ => rfl | (exact fun z hz => by obtain ⟨w, _, rfl⟩ := List.mem_map.1 hz; rfl) | rfl)
              · rw [← List.length.eq_def]; have := zH0 (takK O.length y.args k); omega
              · omega
              · exact ⟨⟨(true, k + 1), by show k + 1 ≤ y.args.length; omega, by simp⟩, by show y.args.length - (k + 1) < y.args.length - k; omega, ⟨by simp, rfl⟩, rfl, rfl⟩
            · simp only [smp, smo, lookOk, lookRes, sfOf, ↓reduceIte, Nat.reduceEqDiff, reduceCtorEq, qA, qB, zG6, zG3, List.length_map, g1, g2, yar, zH0, Option.getD_some, zF5]
              simp [- List.getD_eq_getElem?_getD, - Subtype.exists, - Prod.exists, - Bool.exists_bool, hlt, hlj, hlk, qB, qA, g1, g2]
              have hke : k = y.args.length := by omega
              have hya : takK O.length y.args k = y.args.map fun a => a + (O.length : Int) := by rw [hke]; exact takK_all _ _
              have hmy : mkI (y.args.map fun a => a + (O.length : Int)) = some (y.args.map fun a => a + (O.length : Int)) := by unfold mkI; rw [if_neg]; intro h; have h3 := List.map_eq_nil_iff.1 h; rw [h3] at hke; have h4 := hk2.1 rfl; rw [List.length_nil] at hke; omega
              rw [hya]
              have f1 : ∀ {L : LM}, L.get 5 = some ⟨accI (y.args.map fun a => a + (O.length : Int)), 1, 3, true, true⟩ → _ := fun {L} h => frz_nd (lh := L) (n := k) h (by rw [List.length_map]; exact hke.symm) (by rw [hke]; exact hyl) y.k y.n y.tx (some y.names)
              rw [frzOk_sing (f1 rfl).1 (by rw [(f1 rfl).2]; simp), frzEls_sing (f1 rfl).1]
              refine ⟨rfl, fun z hz => ?_, ?_⟩
              · rw [List.mem_singleton.1 hz]; rfl
              · rw [zH3 (by decide), zJ1]
                have hm1 : ¬ (0 < m ∨ 0 < j) := fun h => by cases hj2.2 h
                have hO0 : O.length = 0 := by rw [hO]; rfl
                have ho0 : outJ shR O t j = [] := List.length_eq_zero_iff.1 (by omega)
                refine ⟨⟨(true, j + 1), by show j + 1 ≤ t.length; omega, by simp⟩, by show t.length - (j + 1) < t.length - j; omega, ?_, ?_⟩
                · simp [accN, w4]; omega
                · simp [- List.getD_eq_getElem?_getD, accB, ho0, zJ5 hlj, hyd, shR, hmy]
        · exfalso
          have hm1 : ¬ (0 < m ∨ 0 < j) := fun h => by cases hj2.2 h
          exact ho.pos t ht1 (List.length_eq_zero_iff.1 (by omega))
      | true =>
        rw [show accN 3 5 true (O.length + j) = .slc 3 5 0 (O.length + j) from rfl, show accU 2 1 false R.length = .undef from rfl, show rtA (xR x) false R.length = .agg [.d (.int .i64 x.k), .d (.int .i64 x.n), .d (.str x.tx), .d (encS (some x.names)), .d .snil] from rfl, show accB 5 54 ((outJ shR O t j).map (AV.d ∘ encN)) true = some ⟨(outJ shR O t j).map (AV.d ∘ encN), 5, 54, true, true⟩ from rfl, show accB 1 3 (R.map (AV.d ∘ DV.int .i64)) false = none from rfl]
        refine zE2 fun C hC => ?_
        generalize Q0 : DV.int .i64 x.k = Z0
        generalize Q1 : DV.int .i64 x.n = Z1
        generalize Q2 : DV.str x.tx = Z2
        generalize Q3 : encS (some x.names) = Z3
        generalize Q4 : encTs o = Z4
        generalize Q5 : DV.int .i64 (m : Int) = Z5
        generalize Q6 : DV.int .i64 (j : Int) = Z6
        generalize Q7 : DV.int .i64 (O.length : Int) = Z7
        generalize Q8 : (outJ shR O t j).map (AV.d ∘ encN) = Z8
        generalize Q9 : O.length + j = Z9
        cbv
        subst Q0 Q1 Q2 Q3 Q4 Q5 Q6 Q7 Q8 Q9
        subst hC
        refine ⟨?_⟩
        simp (maxSteps:=9999999) only [hI, hF, std]
        by_cases hlj : j < t.length
        · have g2 := zI4 _ _ hlj
          have hy := okT_get hto hlj
          simp only [Option.getD_some] at hy
          generalize hyd : t.getD j default = y at g2 hy
          simp only [smp, smo, lookOk, lookRes, sfOf, ↓reduceIte, Nat.reduceEqDiff, reduceCtorEq, qA, qB, zG6, zG3, List.length_map, g1, g2, e29, Option.getD_some]
          simp [- List.getD_eq_getElem?_getD, - Subtype.exists, - Prod.exists, - Bool.exists_bool, hlt, hlj, qB, qA, g1, g2, hy.2.1, hy.2.2]
          have hal : ∀ a ∈ y.args, 0 ≤ a ∧ a ≤ 1048576 := ho.ar t ht1 y (by rw [← hyd]; exact memN hlj)
          have hyl : y.args.length ≤ 1048576 := hy.2.2
          repeat' (first | (refine And.intro ?_ ?_) | exact fun _ _ => rfl | (exact fun z hz => by obtain ⟨w, _, rfl⟩ := List.mem_map.1 hz; rfl) | rfl)
          refine zE1 (kend := fun I => kEnd I Tb [.tmp 4]) hI hF (sfOk (.cons ok29 .nil)) TbOk (by exact fun Bk e s h => endR TbOk Bk e s h) (lv := lv32) 4 (fun i : {i : Bool × Nat // i.2 ≤ y.args.length ∧ (i.1 = true ↔ 0 < i.2)} => [.d (encTs o), .loc 0 5 0 0, .slc 3 5 0 (O.length + j), .d (.int .i64 (m : Int)), .d (.int .i64 (O.length : Int)), .d (.int .i64 (j : Int)), .loc 4 5 0 0, .d (.int .i64 (i.1.2 : Int)), accU 5 1 i.1.1 i.1.2, .undef]) (fun i : {i : Bool × Nat // i.2 ≤ y.args.length ∧ (i.1 = true ↔ 0 < i.2)} => [(0, some ⟨[.agg [.d (.int .i64 x.k), .d (.int .i64 x.n), .d (.str x.tx), .d (encS (some x.names)), .d .snil]], 5, 54, true, true⟩), (2, none), (3, some ⟨(outJ shR O t j).map (AV.d ∘ encN), 5, 54, true, true⟩), (4, some ⟨[rtY y i.1.1 i.1.2], 5, 54, true, true⟩), (5, accB 1 3 (accI (takK O.length y.args i.1.2)) i.1.1)]) (fun i : {i : Bool × Nat // i.2 ≤ y.args.length ∧ (i.1 = true ↔ 0 < i.2)} => y.args.length - i.1.2) [0, 2, 3, 500004, 10074] (⟨(false, 0), by simp, by simp⟩ : {i : Bool × Nat // i.2 ≤ y.args.length ∧ (i.1 = true ↔ 0 < i.2)}) (by rfl) (by rfl) ?_ ?_ fun i => ?_
          · rfl
          · rfl
          obtain ⟨⟨e, k⟩, r1, r2⟩ := i
          have hk1 : k ≤ y.args.length := r1
          have hk2 : e = true ↔ 0 < k := r2
          have w5 := zE6 (n := k) (by omega)
          have hkl := takK_len (f := O.length) hk1
          cases e with
          | false =>
            rw [show accU 5 1 false k = .undef from rfl, show rtY y false k = .agg [.d (.int .i64 y.k), .d (.int .i64 y.n), .d (.str y.tx), .d (encS (some y.names)), .d .snil] from rfl, show accB 1 3 (accI (takK O.length y.args k)) false = none from rfl]
            refine zE2 fun C hC => ?_
            generalize Q0 : DV.int .i64 x.k = Z0
            generalize Q1 : DV.int .i64 x.n = Z1
            generalize Q2 : DV.str x.tx = Z2
            generalize Q3 : encS (some x.names) = Z3
            generalize Q4 : encTs o = Z4
            generalize Q5 : DV.int .i64 (m : Int) = Z5
            generalize Q6 : DV.int .i64 (j : Int) = Z6
            generalize Q7 : DV.int .i64 (O.length : Int) = Z7
            generalize Q8 : DV.int .i64 y.k = Z8
            generalize Q9 : DV.int .i64 y.n = Z9
            generalize Q10 : DV.str y.tx = Z10
            generalize Q11 : encS (some y.names) = Z11
            generalize Q12 : DV.int .i64 (k : Int) = Z12
            generalize Q13 : (outJ shR O t j).map (AV.d ∘ encN) = Z13
            generalize Q14 : O.length + j = Z14
            cbv
            subst Q0 Q1 Q2 Q3 Q4 Q5 Q6 Q7 Q8 Q9 Q10 Q11 Q12 Q13 Q14
            subst hC
            refine ⟨?_⟩
            simp (maxSteps:=9999999) only [hI, hF, std]
            by_cases hlk : k < y.args.length
            · have g5 := zI0 _ _ hlk
              have g7 := hal _ (memJ hlk)
              have w6 : IntKind.i64.wrap (y.args.getD k 0 + (O.length : Int)) = y.args.getD k 0 + (O.length : Int) := zJ4 (by omega) (by omega)
              simp only [smp, smo, lookOk, lookRes, sfOf, ↓reduceIte, Nat.reduceEqDiff, reduceCtorEq, qA, qB, zG6, zG3, List.length_map, g1, g2, yar, g5, zH0, Option.getD_some, zF5]
              simp [- List.getD_eq_getElem?_getD, - Subtype.exists, - Prod.exists, - Bool.exists_bool, hlt, hlj, hlk, qB, qA, g1, g2, w5, w6, accI_bel, g5]
              have hk0 : k = 0 := by have := mt hk2.2; simp at this; omega
              repeat' (first | (refine And.intro ?_ ?_) | exact fun _ _ => rfl | (exact fun z hz => by obtain ⟨w, _, rfl⟩ := List.mem_map.1 hz; rfl) | rfl)
              refine ⟨⟨(true, k + 1), by show k + 1 ≤ y.args.length; omega, by simp⟩, by show y.args.length - (k + 1) < y.args.length - k; omega, ⟨by simp, by show AV.slc 5 1 0 1 = AV.slc 5 1 0 (k + 1); rw [hk0]⟩, by show AV.agg [.d (.int .i64 y.k), .d (.int .i64 y.n), .d (.str y.tx), .d (encS (some y.names)), .slc 5 1 0 1] = AV.agg [.d (.int .i64 y.k), .d (.int .i64 y.n), .d (.str y.tx), .d (encS (some y.names)), .slc 5 1 0 (k + 1)]; rw [hk0], ?_⟩
              show _ = some (LB.mk (accI (takK O.length y.args (k + 1))) 1 3 true true)
              have ht0 : takK O.length y.args k = [] := List.length_eq_zero_iff.1 (by omega)
              rw [takK_succ hlk, ht0]; rfl
            · simp only [smp, smo, lookOk, lookRes, sfOf, ↓reduceIte, Nat.reduceEqDiff, reduceCtorEq, qA, qB, zG6, zG3, List.length_map, g1, g2, yar, zH0, Option.getD_some, zF5]
              simp [- List.getD_eq_getElem?_getD, - Subtype.exists, - Prod.exists, - Bool.exists_bool, hlt, hlj, hlk, qB, qA, g1, g2]
              have hke : k = y.args.length := by omega
              have hya : y.args = [] := List.length_eq_zero_iff.1 (by have := mt hk2.2; simp at this; omega)
              have hmy : mkI (y.args.map fun a => a + (O.length : Int)) = none := by rw [hya]; rfl
              rw [List.take_of_length_le (by rw [List.length_map, hol]; omega), ← List.map_map (l := outJ shR O t j), frzOk_one (zJ8 y.k y.n y.tx (some y.names)).1 (by rw [(zJ8 y.k y.n y.tx (some y.names)).2]; simp), zK2 (zJ8 y.k y.n y.tx (some y.names)).1]
              refine ⟨⟨by rw [← List.length.eq_def]; simp [hol], by omega⟩, rfl, fun z hz => ?_, ?_⟩
              · obtain ⟨d, _, rfl⟩ := List.mem_map.1 hz; rfl
              · rw [zH3 (by decide), zJ1]
                refine ⟨⟨(true, j + 1), by show j + 1 ≤ t.length; omega, by simp⟩, by show t.length - (j + 1) < t.length - j; omega, ?_, ?_⟩
                · simp [accN, w4]; omega
                · simp [- List.getD_eq_getElem?_getD, accB, zJ5 hlj, hyd, shR, hmy]
          | true =>
            rw [show accU 5 1 true k = .slc 5 1 0 k from rfl, show rtY y true k = .agg [.d (.int .i64 y.k), .d (.int .i64 y.n), .d (.str y.tx), .d (encS (some y.names)), .slc 5 1 0 k] from rfl, show accB 1 3 (accI (takK O.length y.args k)) true = some ⟨accI (takK O.length y.args k), 1, 3, true, true⟩ from rfl]
            refine zE2 fun C hC => ?_
            generalize Q0 : DV.int .i64 x.k = Z0
            generalize Q1 : DV.int .i64 x.n = Z1
            generalize Q2 : DV.str x.tx = Z2
            generalize Q3 : encS (some x.names) = Z3
            generalize Q4 : encTs o = Z4
            generalize Q5 : DV.int .i64 (m : Int) = Z5
            generalize Q6 : DV.int .i64 (j : Int) = Z6
            generalize Q7 : DV.int .i64 (O.length : Int) = Z7
            generalize Q8 : DV.int .i64 y.k = Z8
            generalize Q9 : DV.int .i64 y.n = Z9
            generalize Q10 : DV.str y.tx = Z10
            generalize Q11 : encS (some y.names) = Z11
            generalize Q12 : DV.int .i64 (k : Int) = Z12
            generalize Q13 : accI (takK O.length y.args k) = Z13
            generalize Q14 : k = Z14
            generalize Q15 : (outJ shR O t j).map (AV.d ∘ encN) = Z15
            generalize Q16 : O.length + j = Z16
            cbv
            subst Q0 Q1 Q2 Q3 Q4 Q5 Q6 Q7 Q8 Q9 Q10 Q11 Q12 Q13 Q14 Q15 Q16
            subst hC
            refine ⟨?_⟩
            simp (maxSteps:=9999999) only [hI, hF, std]
            by_cases hlk : k < y.args.length
            · have g5 := zI0 _ _ hlk
              have g7 := hal _ (memJ hlk)
              have w6 : IntKind.i64.wrap (y.args.getD k 0 + (O.length : Int)) = y.args.getD k 0 + (O.length : Int) := zJ4 (by omega) (by omega)
              simp only [smp, smo, lookOk, lookRes, sfOf, ↓reduceIte, Nat.reduceEqDiff, reduceCtorEq, qA, qB, zG6, zG3, List.length_map, g1, g2, yar, g5, zH0, Option.getD_some, zF5]
              simp [- List.getD_eq_getElem?_getD, - Subtype.exists, - Prod.exists, - Bool.exists_bool, hlt, hlj, hlk, qB, qA, g1, g2, w5, w6, accI_bel, g5]
              rw [List.take_of_length_le (by rw [zH0, hkl]; omega)]
              have q2 : accI (takK O.length y.args k) ++ [AV.d (.int .i64 (y.args.getD k 0 + (O.length : Int)))] = accI (takK O.length y.args (k + 1)) := by rw [takK_succ hlk]; simp [accI]
              rw [q2]
              repeat' (first | (refine And.intro ?_ ?_) | exact fun _ _ => rfl | (exact fun z hz => by obtain ⟨w, _, rfl⟩ := List.mem_map.1 hz; rfl) | rfl)
              · rw [← List.length.eq_def]; have := zH0 (takK O.length y.args k); omega
              · omega
              · exact ⟨⟨(true, k + 1), by show k + 1 ≤ y.args.length; omega, by simp⟩, by show y.args.length - (k + 1) < y.args.length - k; omega, ⟨by simp, rfl⟩, rfl, rfl⟩
            · simp only [smp, smo, lookOk, lookRes, sfOf, ↓reduceIte, Nat.reduceEqDiff, reduceCtorEq, qA, qB, zG6, zG3, List.length_map, g1, g2, yar, zH0, Option.getD_some, zF5]
              simp [- List.getD_eq_getElem?_getD, - Subtype.exists, - Prod.exists, - Bool.exists_bool, hlt, hlj, hlk, qB, qA, g1, g2]
              have hke : k = y.args.length := by omega
              have hya : takK O.length y.args k = y.args.map fun a => a + (O.length : Int) := by rw [hke]; exact takK_all _ _
              have hmy : mkI (y.args.map fun a => a + (O.length : Int)) = some (y.args.map fun a => a + (O.length : Int)) := by unfold mkI; rw [if_neg]; intro h; have h3 := List.map_eq_nil_iff.1 h; rw [h3] at hke; have h4 := hk2.1 rfl; rw [List.length_nil] at hke; omega
              rw [hya]
              have f1 : ∀ {L : LM}, L.get 5 = some ⟨accI (y.args.map fun a => a + (O.length : Int)), 1, 3, true, true⟩ → _ := fun {L} h => frz_nd (lh := L) (n := k) h (by rw [List.length_map]; exact hke.symm) (by rw [hke]; exact hyl) y.k y.n y.tx (some y.names)
              rw [List.take_of_length_le (by rw [List.length_map, hol]; omega), ← List.map_map (l := outJ shR O t j), frzOk_one (f1 rfl).1 (by rw [(f1 rfl).2]; simp), zK2 (f1 rfl).1]
              refine ⟨⟨by rw [← List.length.eq_def]; simp [hol], by omega⟩, rfl, fun z hz => ?_, ?_⟩
              · obtain ⟨d, _, rfl⟩ := List.mem_map.1 hz; rfl
              · rw [zH3 (by decide), zJ1]
                refine ⟨⟨(true, j + 1), by show j + 1 ≤ t.length; omega, by simp⟩, by show t.length - (j + 1) < t.length - j; omega, ?_, ?_⟩
                · simp [accN, w4]; omega
                · simp [- List.getD_eq_getElem?_getD, accB, zJ5 hlj, hyd, shR, hmy]
        · have hjt : j = t.length := by omega
          subst hjt
          have w7 : IntKind.i64.wrap ((O.length : Int) + (t.length : Int) - 1) = (O.length : Int) + (t.length : Int) - 1 := zJ4 (by omega) (by omega)
          simp only [smp, smo, lookOk, lookRes, sfOf, ↓reduceIte, Nat.reduceEqDiff, reduceCtorEq, qA, qB, zG6, zG3, List.length_map, g1, Option.getD_some, zF5]
          simp [- List.getD_eq_getElem?_getD, - Subtype.exists, - Prod.exists, - Bool.exists_bool, hlt, qB, qA, w7]
          rw [outJ_all]
          refine ⟨fun _ _ => rfl, ?_⟩
          rw [zH3 (by decide), zJ1]
          have htp : 0 < t.length := List.length_pos_iff.2 (ho.pos t ht1)
          have q3 : O ++ t.map (shR O.length) ≠ [] := fun h => ho.pos t ht1 (List.map_eq_nil_iff.1 (List.append_eq_nil_iff.1 h).2)
          have q5 : (O ++ t.map (shR O.length)).length + totL ((o.getD []).drop (m + 1)) ≤ 1000000 := by rw [List.length_append, List.length_map]; omega
          have q6 : (R ++ [((O.length + t.length : Nat) : Int) - 1]).length = m + 1 := by rw [List.length_append, hi6]; rfl
          refine ⟨⟨(true, m + 1, O ++ t.map (shR O.length), R ++ [((O.length + t.length : Nat) : Int) - 1]), by show m + 1 ≤ (o.getD []).length; omega, by simp, fun _ => q3, (fun h => by cases h), q5, q6, ht3.symm.trans hi8⟩, by show (o.getD []).length - (m + 1) < (o.getD []).length - m; omega, ?_, ?_⟩
          · simp [accN, accU, w3, hR]
          · simp [- List.getD_eq_getElem?_getD, accB, rtA, xR, hR]
    · have hml : m = (o.getD []).length := by omega
      subst hml
      simp only [smp, smo, lookOk, lookRes, sfOf, ↓reduceIte, Nat.reduceEqDiff, reduceCtorEq, qA, qB, zG6, zG3, zF5, List.length_map]
      simp [- List.getD_eq_getElem?_getD, - Subtype.exists, - Prod.exists, - Bool.exists_bool, qB, qA]
      obtain ⟨hO, hR⟩ := hi4 rfl
      have hi8 := hi8
      rw [jnS_end, hO, hR] at hi8
      rw [← hi8]
      exact frz_row2 (L := []) (by rfl) rfl (by omega) rfl
  | true =>
    rw [show accN 1 5 true O.length = .slc 1 5 0 O.length from rfl, show accU 2 1 true R.length = .slc 2 1 0 R.length from rfl, show rtA (xR x) true R.length = .agg [.d (.int .i64 x.k), .d (.int .i64 x.n), .d (.str x.tx), .d (encS (some x.names)), .slc 2 1 0 R.length] from rfl, show accB 5 54 (O.map (AV.d ∘ encN)) true = some ⟨O.map (AV.d ∘ encN), 5, 54, true, true⟩ from rfl, show accB 1 3 (R.map (AV.d ∘ DV.int .i64)) true = some ⟨R.map (AV.d ∘ DV.int .i64), 1, 3, true, true⟩ from rfl]
    refine zE2 fun C hC => ?_
    generalize Q0 : DV.int .i64 x.k = Z0
    generalize Q1 : DV.int .i64 x.n = Z1
    generalize Q2 : DV.str x.tx = Z2
    generalize Q3 : encS (some x.names) = Z3
    generalize Q4 : encTs o = Z4
    generalize Q5 : DV.int .i64 (m : Int) = Z5
    generalize Q6 : O.map (AV.d ∘ encN) = Z6
    generalize Q7 : O.length = Z7
    generalize Q8 : R.map (AV.d ∘ DV.int .i64) = Z8
    generalize Q9 : R.length = Z9
    cbv
    subst Q0 Q1 Q2 Q3 Q4 Q5 Q6 Q7 Q8 Q9
    subst hC
    refine ⟨?_⟩
    simp (maxSteps:=9999999) only [hI, hF, std]
    by_cases hlt : m < (o.getD []).length
    · have g1 := get_encTs _ _ hlt
      have ht1 := memT hlt
      have ht2 := totL_step hlt
      have ht3 := jnS_step (g := shR) (x := xR x) (O := O) (R := R) hlt
      have hm0 : 0 < m := hi2.1 rfl
      simp only [smp, smo, lookOk, lookRes, sfOf, ↓reduceIte, Nat.reduceEqDiff, reduceCtorEq, qA, qB, zG6, zG3, List.length_map, g1]
      simp [- List.getD_eq_getElem?_getD, - Subtype.exists, - Prod.exists, - Bool.exists_bool, hlt, qB, qA]
      rw [← List.map_map (l := O), frzOk_d, frzEls_d, List.map_map (l := O)]
      refine ⟨rfl, ?_⟩
      repeat' (first | (refine And.intro ?_ ?_) | exact fun _ _ => rfl | (exact fun z hz => by obtain ⟨w, _, rfl⟩ := List.mem_map.1 hz; rfl) | rfl)
      generalize htd : (o.getD []).getD m [] = t at g1 ht1 ht2 ht3
      have hto := ho.ok t ht1
      have htl : t.length ≤ 1048576 := hto.1
      refine zE1 (kend := fun I => kEnd I Tb [.tmp 4]) hI hF (sfOk (.cons ok29 .nil)) TbOk (by exact fun Bk e s h => endR TbOk Bk e s h) (lv := lv32) 2 (fun i : {i : Bool × Nat // i.2 ≤ t.length ∧ (i.1 = true ↔ (0 < m ∨ 0 < i.2))} => [.d (encTs o), .loc 0 5 0 0, accN 3 5 i.1.1 (O.length + i.1.2), .d (.int .i64 (m : Int)), .d (.int .i64 (O.length : Int)), .d (.int .i64 (i.1.2 : Int)), accU 2 1 true R.length]) (fun i : {i : Bool × Nat // i.2 ≤ t.length ∧ (i.1 = true ↔ (0 < m ∨ 0 < i.2))} => [(0, some ⟨[rtA (xR x) true R.length], 5, 54, true, true⟩), (2, accB 1 3 (R.map (AV.d ∘ DV.int .i64)) true), (3, accB 5 54 ((outJ shR O t i.1.2).map (AV.d ∘ encN)) i.1.1)]) (fun i : {i : Bool × Nat // i.2 ≤ t.length ∧ (i.1 = true ↔ (0 < m ∨ 0 < i.2))} => t.length - i.1.2) [0, 2, 10005, 1000005] (⟨(true, 0), by simp, by simp [hm0]⟩ : {i : Bool × Nat // i.2 ≤ t.length ∧ (i.1 = true ↔ (0 < m ∨ 0 < i.2))}) (by rfl) (by rfl) ?_ ?_ fun i => ?_
      · rfl
      · simp only [outJ_zero]; rfl
      obtain ⟨⟨c, j⟩, p1, p2⟩ := i
      have hj1 : j ≤ t.length := p1
      have hj2 : c = true ↔ (0 < m ∨ 0 < j) := p2
      have w4 := zE6 (n := j) (by omega)
      have hol := outJ_len (g := shR) (O := O) hj1
      cases c with
      | false =>
        exact absurd (hj2.2 (.inl hm0)) (by decide)
      | true =>
        rw [show accN 3 5 true (O.length + j) = .slc 3 5 0 (O.length + j) from rfl, show accU 2 1 true R.length = .slc 2 1 0 R.length from rfl, show rtA (xR x) true R.length = .agg [.d (.int .i64 x.k), .d (.int .i64 x.n), .d (.str x.tx), .d (encS (some x.names)), .slc 2 1 0 R.length] from rfl, show accB 5 54 ((outJ shR O t j).map (AV.d ∘ encN)) true = some ⟨(outJ shR O t j).map (AV.d ∘ encN), 5, 54, true, true⟩ from rfl, show accB 1 3 (R.map (AV.d ∘ DV.int .i64)) true = some ⟨R.map (AV.d ∘ DV.int .i64), 1, 3, true, true⟩ from rfl]
        refine zE2 fun C hC => ?_
        generalize Q0 : DV.int .i64 x.k = Z0
        generalize Q1 : DV.int .i64 x.n = Z1
        generalize Q2 : DV.str x.tx = Z2
        generalize Q3 : encS (some x.names) = Z3
        generalize Q4 : encTs o = Z4
        generalize Q5 : DV.int .i64 (m : Int) = Z5
        generalize Q6 : DV.int .i64 (j : Int) = Z6
        generalize Q7 : DV.int .i64 (O.length : Int) = Z7
        generalize Q8 : (outJ shR O t j).map (AV.d ∘ encN) = Z8
        generalize Q9 : O.length + j = Z9
        generalize Q10 : R.map (AV.d ∘ DV.int .i64) = Z10
        generalize Q11 : R.length = Z11
        cbv
        subst Q0 Q1 Q2 Q3 Q4 Q5 Q6 Q7 Q8 Q9 Q10 Q11
        subst hC
        refine ⟨?_⟩
        simp (maxSteps:=9999999) only [hI, hF, std]
        by_cases hlj : j < t.length
        · have g2 := zI4 _ _ hlj
          have hy := okT_get hto hlj
          simp only [Option.getD_some] at hy
          generalize hyd : t.getD j default = y at g2 hy
          simp only [smp, smo, lookOk, lookRes, sfOf, ↓reduceIte, Nat.reduceEqDiff, reduceCtorEq, qA, qB, zG6, zG3, List.length_map, g1, g2, e29, Option.getD_some]
          simp [- List.getD_eq_getElem?_getD, - Subtype.exists, - Prod.exists, - Bool.exists_bool, hlt, hlj, qB, qA, g1, g2, hy.2.1, hy.2.2]
          have hal : ∀ a ∈ y.args, 0 ≤ a ∧ a ≤ 1048576 := ho.ar t ht1 y (by rw [← hyd]; exact memN hlj)
          have hyl : y.args.length ≤ 1048576 := hy.2.2
          repeat' (first | (refine And.intro ?_ ?_) | exact fun _ _ => rfl | (exact fun z hz => by obtain ⟨w, _, rfl⟩ := List.mem_map.1 hz; rfl) | rfl)
          refine zE1 (kend := fun I => kEnd I Tb [.tmp 4]) hI hF (sfOk (.cons ok29 .nil)) TbOk (by exact fun Bk e s h => endR TbOk Bk e s h) (lv := lv32) 4 (fun i : {i : Bool × Nat // i.2 ≤ y.args.length ∧ (i.1 = true ↔ 0 < i.2)} => [.d (encTs o), .loc 0 5 0 0, .slc 3 5 0 (O.length + j), .d (.int .i64 (m : Int)), .d (.int .i64 (O.length : Int)), .d (.int .i64 (j : Int)), .loc 4 5 0 0, .d (.int .i64 (i.1.2 : Int)), accU 5 1 i.1.1 i.1.2, .slc 2 1 0 R.length]) (fun i : {i : Bool × Nat // i.2 ≤ y.args.length ∧ (i.1 = true ↔ 0 < i.2)} => [(0, some ⟨[.agg [.d (.int .i64 x.k), .d (.int .i64 x.n), .d (.str x.tx), .d (encS (some x.names)), .slc 2 1 0 R.length]], 5, 54, true, true⟩), (2, some ⟨R.map (AV.d ∘ DV.int .i64), 1, 3, true, true⟩), (3, some ⟨(outJ shR O t j).map (AV.d ∘ encN), 5, 54, true, true⟩), (4, some ⟨[rtY y i.1.1 i.1.2], 5, 54, true, true⟩), (5, accB 1 3 (accI (takK O.length y.args i.1.2)) i.1.1)]) (fun i : {i : Bool × Nat // i.2 ≤ y.args.length ∧ (i.1 = true ↔ 0 < i.2)} => y.args.length - i.1.2) [0, 2, 3, 500004, 10074] (⟨(false, 0), by simp, by simp⟩ : {i : Bool × Nat // i.2 ≤ y.args.length ∧ (i.1 = true ↔ 0 < i.2)}) (by rfl) (by rfl) ?_ ?_ fun i => ?_
          · rfl
          · rfl
          obtain ⟨⟨e, k⟩, r1, r2⟩ := i
          have hk1 : k ≤ y.args.length := r1
          have hk2 : e = true ↔ 0 < k := r2
          have w5 := zE6 (n := k) (by omega)
          have hkl := takK_len (f := O.length) hk1
          cases e with
          | false =>
            rw [show accU 5 1 false k = .undef from rfl, show rtY y false k = .agg [.d (.int .i64 y.k), .d (.int .i64 y.n), .d (.str y.tx), .d (encS (some y.names)), .d .snil] from rfl, show accB 1 3 (accI (takK O.length y.args k)) false = none from rfl]
            refine zE2 fun C hC => ?_
            generalize Q0 : DV.int .i64 x.k = Z0
            generalize Q1 : DV.int .i64 x.n = Z1
            generalize Q2 : DV.str x.tx = Z2
            generalize Q3 : encS (some x.names) = Z3
            generalize Q4 : encTs o = Z4
            generalize Q5 : DV.int .i64 (m : Int) = Z5
            generalize Q6 : DV.int .i64 (j : Int) = Z6
            generalize Q7 : DV.int .i64 (O.length : Int) = Z7
            generalize Q8 : DV.int .i64 y.k = Z8
            generalize Q9 : DV.int .i64 y.n = Z9
            generalize Q10 : DV.str y.tx = Z10
            generalize Q11 : encS (some y.names) = Z11
            generalize Q12 : DV.int .i64 (k : Int) = Z12
            generalize Q13 : (outJ shR O t j).map (AV.d ∘ encN) = Z13
            generalize Q14 : O.length + j = Z14
            generalize Q15 : R.map (AV.d ∘ DV.int .i64) = Z15
            generalize Q16 : R.length = Z16
            cbv
            subst Q0 Q1 Q2 Q3 Q4 Q5 Q6 Q7 Q8 Q9 Q10 Q11 Q12 Q13 Q14 Q15 Q16
            subst hC
            refine ⟨?_⟩
            simp (maxSteps:=9999999) only [hI, hF, std]
            by_cases hlk : k < y.args.length
            · have g5 := zI0 _ _ hlk
              have g7 := hal _ (memJ hlk)
              have w6 : IntKind.i64.wrap (y.args.getD k 0 + (O.length : Int)) = y.args.getD k 0 + (O.length : Int) := zJ4 (by omega) (by omega)
              simp only [smp, smo, lookOk, lookRes, sfOf, ↓reduceIte, Nat.reduceEqDiff, reduceCtorEq, qA, qB, zG6, zG3, List.length_map, g1, g2, yar, g5, zH0, Option.getD_some, zF5]
              simp [- List.getD_eq_getElem?_getD, - Subtype.exists, - Prod.exists, - Bool.exists_bool, hlt, hlj, hlk, qB, qA, g1, g2, w5, w6, accI_bel, g5]
              have hk0 : k = 0 := by have := mt hk2.2; simp at this; omega
              repeat' (first | (refine And.intro ?_ ?_) | exact fun _ _ => rfl | (exact fun z hz => by obtain ⟨w, _, rfl⟩ := List.mem_map.1 hz; rfl) | rfl)
              refine ⟨⟨(true, k + 1), by show k + 1 ≤ y.args.length; omega, by simp⟩, by show y.args.length - (k + 1) < y.args.length - k; omega, ⟨by simp, by show AV.slc 5 1 0 1 = AV.slc 5 1 0 (k + 1); rw [hk0]⟩, by show AV.agg [.d (.int .i64 y.k), .d (.int .i64 y.n), .d (.str y.tx), .d (encS (some y.names)), .slc 5 1 0 1] = AV.agg [.d (.int .i64 y.k), .d (.int .i64 y.n), .d (.str y.tx), .d (encS (some y.names)), .slc 5 1 0 (k + 1)]; rw [hk0], ?_⟩
              show _ = some (LB.mk (accI (takK O.length y.args (k + 1))) 1 3 true true)
              have ht0 : takK O.length y.args k = [] := List.length_eq_zero_iff.1 (by omega)
              rw [takK_succ hlk, ht0]; rfl
            · simp only [smp, smo, lookOk, lookRes, sfOf, ↓reduceIte, Nat.reduceEqDiff, reduceCtorEq, qA, qB, zG6, zG3, List.length_map, g1, g2, yar, zH0, Option.getD_some, zF5]
              simp [- List.getD_eq_getElem?_getD, - Subtype.exists, - Prod.exists, - Bool.exists_bool, hlt, hlj, hlk, qB, qA, g1, g2]
              have hke : k = y.args.length := by omega
              have hya : y.args = [] := List.length_eq_zero_iff.1 (by have := mt hk2.2; simp at this; omega)
              have hmy : mkI (y.args.map fun a => a + (O.length : Int)) = none := by rw [hya]; rfl
              rw [List.take_of_length_le (by rw [List.length_map, hol]; omega), ← List.map_map (l := outJ shR O t j), frzOk_one (zJ8 y.k y.n y.tx (some y.names)).1 (by rw [(zJ8 y.k y.n y.tx (some y.names)).2]; simp), zK2 (zJ8 y.k y.n y.tx (some y.names)).1]
              refine ⟨⟨by rw [← List.length.eq_def]; simp [hol], by omega⟩, rfl, ⟨⟨rfl, fun _ _ => rfl⟩, fun z hz => ?_⟩, ?_⟩
              · obtain ⟨d, _, rfl⟩ := List.mem_map.1 hz; rfl
              · rw [zH3 (by decide), zJ1]
                refine ⟨⟨(true, j + 1), by show j + 1 ≤ t.length; omega, by simp⟩, by show t.length - (j + 1) < t.length - j; omega, ?_, ?_⟩
                · simp [accN, w4]; omega
                · simp [- List.getD_eq_getElem?_getD, accB, zJ5 hlj, hyd, shR, hmy]
          | true =>
            rw [show accU 5 1 true k = .slc 5 1 0 k from rfl, show rtY y true k = .agg [.d (.int .i64 y.k), .d (.int .i64 y.n), .d (.str y.tx), .d (encS (some y.names)), .slc 5 1 0 k] from rfl, show accB 1 3 (accI (takK O.length y.args k)) true = some ⟨accI (takK O.length y.args k), 1, 3, true, true⟩ from rfl]
            refine zE2 fun C hC => ?_
            generalize Q0 : DV.int .i64 x.k = Z0
            generalize Q1 : DV.int .i64 x.n = Z1
            generalize Q2 : DV.str x.tx = Z2
            generalize Q3 : encS (some x.names) = Z3
            generalize Q4 : encTs o = Z4
            generalize Q5 : DV.int .i64 (m : Int) = Z5
            generalize Q6 : DV.int .i64 (j : Int) = Z6
            generalize Q7 : DV.int .i64 (O.length : Int) = Z7
            generalize Q8 : DV.int .i64 y.k = Z8
            generalize Q9 : DV.int .i64 y.n = Z9
            generalize Q10 : DV.str y.tx = Z10
            generalize Q11 : encS (some y.names) = Z11
            generalize Q12 : DV.int .i64 (k : Int) = Z12
            generalize Q13 : accI (takK O.length y.args k) = Z13
            generalize Q14 : k = Z14
            generalize Q15 : (outJ shR O t j).map (AV.d ∘ encN) = Z15
            generalize Q16 : O.length + j = Z16
            generalize Q17 : R.map (AV.d ∘ DV.int .i64) = Z17
            generalize Q18 : R.length = Z18
            cbv
            subst Q0 Q1 Q2 Q3 Q4 Q5 Q6 Q7 Q8 Q9 Q10 Q11 Q12 Q13 Q14 Q15 Q16 Q17 Q18
            subst hC
            refine ⟨?_⟩
            simp (maxSteps:=9999999) only [hI, hF, std]
            by_cases hlk : k < y.args.length
            · have g5 := zI0 _ _ hlk
              have g7 := hal _ (memJ hlk)
              have w6 : IntKind.i64.wrap (y.args.getD k 0 + (O.length : Int)) = y.args.getD k 0 + (O.length : Int) := zJ4 (by omega) (by omega)
              simp only [smp, smo, lookOk, lookRes, sfOf, ↓reduceIte, Nat.reduceEqDiff, reduceCtorEq, qA, qB, zG6, zG3, List.length_map, g1, g2, yar, g5, zH0, Option.getD_some, zF5]
              simp [- List.getD_eq_getElem?_getD, - Subtype.exists, - Prod.exists, - Bool.exists_bool, hlt, hlj, hlk, qB, qA, g1, g2, w5, w6, accI_bel, g5]
              rw [List.take_of_length_le (by rw [zH0, hkl]; omega)]
              have q2 : accI (takK O.length y.args k) ++ [AV.d (.int .i64 (y.args.getD k 0 + (O.length : Int)))] = accI (takK O.length y.args (k + 1)) := by rw [takK_succ hlk]; simp [accI]
              rw [q2]
              repeat' (first | (refine And.intro ?_ ?_) | exact fun _ _ => rfl | (exact fun z hz => by obtain ⟨w, _, rfl⟩ := List.mem_map.1 hz; rfl) | rfl)
              · rw [← List.length.eq_def]; have := zH0 (takK O.length y.args k); omega
              · omega
              · exact ⟨⟨(true, k + 1), by show k + 1 ≤ y.args.length; omega, by simp⟩, by show y.args.length - (k + 1) < y.args.length - k; omega, ⟨by simp, rfl⟩, rfl, rfl⟩
            · simp only [smp, smo, lookOk, lookRes, sfOf, ↓reduceIte, Nat.reduceEqDiff, reduceCtorEq, qA, qB, zG6, zG3, List.length_map, g1, g2, yar, zH0, Option.getD_some, zF5]
              simp [- List.getD_eq_getElem?_getD, - Subtype.exists, - Prod.exists, - Bool.exists_bool, hlt, hlj, hlk, qB, qA, g1, g2]
              have hke : k = y.args.length := by omega
              have hya : takK O.length y.args k = y.args.map fun a => a + (O.length : Int) := by rw [hke]; exact takK_all _ _
              have hmy : mkI (y.args.map fun a => a + (O.length : Int)) = some (y.args.map fun a => a + (O.length : Int)) := by unfold mkI; rw [if_neg]; intro h; have h3 := List.map_eq_nil_iff.1 h; rw [h3] at hke; have h4 := hk2.1 rfl; rw [List.length_nil] at hke; omega
              rw [hya]
              have f1 : ∀ {L : LM}, L.get 5 = some ⟨accI (y.args.map fun a => a + (O.length : Int)), 1, 3, true, true⟩ → _ := fun {L} h => frz_nd (lh := L) (n := k) h (by rw [List.length_map]; exact hke.symm) (by rw [hke]; exact hyl) y.k y.n y.tx (some y.names)
              rw [List.take_of_length_le (by rw [List.length_map, hol]; omega), ← List.map_map (l := outJ shR O t j), frzOk_one (f1 rfl).1 (by rw [(f1 rfl).2]; simp), zK2 (f1 rfl).1]
              refine ⟨⟨by rw [← List.length.eq_def]; simp [hol], by omega⟩, rfl, ⟨⟨rfl, fun _ _ => rfl⟩, fun z hz => ?_⟩, ?_⟩
              · obtain ⟨d, _, rfl⟩ := List.mem_map.1 hz; rfl
              · rw [zH3 (by decide), zJ1]
                refine ⟨⟨(true, j + 1), by show j + 1 ≤ t.length; omega, by simp⟩, by show t.length - (j + 1) < t.length - j; omega, ?_, ?_⟩
                · simp [accN, w4]; omega
                · simp [- List.getD_eq_getElem?_getD, accB, zJ5 hlj, hyd, shR, hmy]
        · have hjt : j = t.length := by omega
          subst hjt
          have w7 : IntKind.i64.wrap ((O.length : Int) + (t.length : Int) - 1) = (O.length : Int) + (t.length : Int) - 1 := zJ4 (by omega) (by omega)
          simp only [smp, smo, lookOk, lookRes, sfOf, ↓reduceIte, Nat.reduceEqDiff, reduceCtorEq, qA, qB, zG6, zG3, List.length_map, g1, Option.getD_some, zF5]
          simp [- List.getD_eq_getElem?_getD, - Subtype.exists, - Prod.exists, - Bool.exists_bool, hlt, qB, qA, w7]
          rw [outJ_all]
          rw [List.take_of_length_le (by simp)]
          refine ⟨⟨by rw [← List.length.eq_def]; simp, by omega⟩, ?_⟩
          repeat' (first | (refine And.intro ?_ ?_) | exact fun _ _ => rfl | (exact fun z hz => by obtain ⟨w, _, rfl⟩ := List.mem_map.1 hz; rfl) | rfl)
          rw [zH3 (by decide), zJ1]
          have htp : 0 < t.length := List.length_pos_iff.2 (ho.pos t ht1)
          have q3 : O ++ t.map (shR O.length) ≠ [] := fun h => ho.pos t ht1 (List.map_eq_nil_iff.1 (List.append_eq_nil_iff.1 h).2)
          have q5 : (O ++ t.map (shR O.length)).length + totL ((o.getD []).drop (m + 1)) ≤ 1000000 := by rw [List.length_append, List.length_map]; omega
          have q6 : (R ++ [((O.length + t.length : Nat) : Int) - 1]).length = m + 1 := by rw [List.length_append, hi6]; rfl
          refine ⟨⟨(true, m + 1, O ++ t.map (shR O.length), R ++ [((O.length + t.length : Nat) : Int) - 1]), by show m + 1 ≤ (o.getD []).length; omega, by simp, fun _ => q3, (fun h => by cases h), q5, q6, ht3.symm.trans hi8⟩, by show (o.getD []).length - (m + 1) < (o.getD []).length - m; omega, ?_, ?_⟩
          · simp [accN, accU, w3]
          · simp [- List.getD_eq_getElem?_getD, accB, rtA, xR]
    · have hml : m = (o.getD []).length := by omega
      subst hml
      simp only [smp, smo, lookOk, lookRes, sfOf, ↓reduceIte, Nat.reduceEqDiff, reduceCtorEq, qA, qB, zG6, zG3, zF5, List.length_map]
      simp [- List.getD_eq_getElem?_getD, - Subtype.exists, - Prod.exists, - Bool.exists_bool, qB, qA]
      have hR : R ≠ [] := fun h => by rw [h] at hi6; have := hi2.1 rfl; simp at hi6; omega
      have hi8 := hi8
      rw [jnS_end] at hi8
      rw [← hi8, List.take_of_length_le (by simp)]
      have hmk : mkI R = some R := by unfold mkI; rw [if_neg hR]
      rw [hmk]
      refine ⟨⟨by rw [← List.length.eq_def]; simp, by omega⟩, ?_⟩
      have e1 : O.map (AV.d ∘ encN) = (O.map encN).map AV.d := by rw [List.map_map]
      rw [e1]
      refine frz_row2 (by rfl) rfl (by omega) ?_
      exact (frz_nd7 (l := R) (by rfl) rfl (by omega) x.k x.n x.tx (some x.names)).1
end Go.Proofs.Sx
