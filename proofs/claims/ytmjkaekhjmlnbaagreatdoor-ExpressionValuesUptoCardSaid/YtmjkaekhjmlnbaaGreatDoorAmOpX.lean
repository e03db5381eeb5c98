/- Further operations: conversions between strings and bytes, comparisons with nil and of structs, copy, min, max. -/
import Derived.Test.YtmjkaekhjmlnbaaGreatDoorAmOpEnd0
import Derived.Laws.IdiomStrings
import Derived.Laws.StructEq
import Derived.Laws.Pointers
set_option linter.unusedVariables false
set_option linter.unusedSimpArgs false
namespace Go.Proofs.Am
open Go Go.RowKit

section
variable {P : Program} {gs : List Nat} {c : Ctx} {A : Nat → Prop} {ρ : Nat → Option BR} {σ : St} {a : Act} {w : World}

theorem bytes_sound (hS : Sim c A ρ σ a w) (hf : ρ σ.nid = none) {src dst e : TypeId} {s : ByteArray} (hs : P.underlying src = some .string) (hd : P.underlying dst = some (.slice e)) (he : P.underlying e = some (.int .u8)) (hb : s.size ≤ big) :
    Yields P c A ρ σ a (convert src dst (.string s)) w ⟨.slc σ.nid 1 0 s.size, [(σ.nid, some ⟨bytesA s, 1, e, true, false⟩)], σ.nid + 1⟩ := by
  have hrun := run_bytes_of_string (P := P) w src dst e s hs hd he
  have hge := grownCap_ge w s.size 0 e
  have hle := grownCap_le_maxLen w s.size 0 e (by simp only [big] at hb; simp only [maxLen]; omega)
  generalize grownCap w s.size 0 e = cap at hrun hge hle
  have hsz : (bytesRow s cap).size = cap := by
    have : s.data.size = s.size := rfl
    simp only [bytesRow, Array.size_append, Array.size_map, Array.size_replicate]; omega
  let r : BR := ⟨w.heap.size, cap, 1⟩
  have hr : ∀ b r', ρ b = some r' → upd ρ σ.nid (some r) b = some r' := fun b r' h => by
    rw [upd_ne _ _ _ _ (fun e => by rw [e] at h; simp_all)]; exact h
  refine ⟨_, _, A, upd ρ σ.nid (some r), hrun, ?_, ?_, Names.one _ _ _⟩
  · refine hS.newBlock hf (w' := w.drew.alloc (.cells (bytesRow s cap) e ((bytesRow s cap).size, (bytesRow s cap).size + 1))) rfl rfl rfl (by simp) (fun g hg => heap_alloc_old w.drew _ g hg) _ r (Nat.le_refl _) ?_ rfl
    refine ⟨⟨bytesRow s cap, _, heap_alloc_new w.drew _, by simp [r, hsz], (fun h => by cases h), .inr (Nat.le_refl _), fun j m hj hm => ?_⟩, rfl, ?_, hle, fun j hj => ?_⟩
    · have hm0 : m = 0 := by simpa using hm
      subst hm0
      have hj : j < s.data.size := by simpa [bytesA] using hj
      have hx : s.data[j]? = some s.data[j] := Array.getElem?_eq_getElem hj
      refine ⟨.int .u8 (s.data[j]).toNat, ?_, rfl, ?_⟩
      · simp only [bytesRow, Nat.mul_one, Nat.add_zero]
        rw [Array.getElem?_append_left (by simpa using hj)]
        simp [hx]
      · have e1 : (bytesA s).getD j .undef = .d (.int .u8 (s.data[j]).toNat) := by simp [bytesA, List.getD, hx]
        simp only
        rw [e1]
        exact .d _ _ (.int _ _)
    · simpa [bytesA, r] using hge
    · have hj : j < s.data.size := by simpa [bytesA] using hj
      have hx : s.data[j]? = some s.data[j] := Array.getElem?_eq_getElem hj
      have e1 : (bytesA s).getD j .undef = .d (.int .u8 (s.data[j]).toNat) := by simp [bytesA, List.getD, hx]
      simp only
      rw [e1]; rfl
  · have := ARep.slc (w := w.drew.alloc (.cells (bytesRow s cap) e ((bytesRow s cap).size, (bytesRow s cap).size + 1))) (A := A) (ρ := upd ρ σ.nid (some r)) σ.nid 1 0 s.size r (by simp) rfl (by simpa [r] using hge)
    simpa [r] using this

theorem unbytes_get : ∀ {l : List AV} {bs : List UInt8}, unbytes l = some bs → bs.length = l.length ∧ ∀ j (h : j < bs.length), ∃ n, l.getD j .undef = .d (.int .u8 n) ∧ bs[j] = UInt8.ofNat n.toNat
  | [], bs, h => by simp only [unbytes, Option.some.injEq] at h; subst h; exact ⟨rfl, fun j h => by simp at h⟩
  | .d (.int .u8 n) :: r, bs, h => by
    simp only [unbytes, Option.map_eq_some_iff] at h
    obtain ⟨bs', h1, rfl⟩ := h
    obtain ⟨q1, q2⟩ := unbytes_get h1
    refine ⟨by simp [q1], fun j hj => ?_⟩
    cases j with
    | zero => exact ⟨n, rfl, rfl⟩
    | succ j => simpa using q2 j (by simpa using hj)
  | .d (.int .i64 n) :: r, bs, h => by simp [unbytes] at h
  | x :: r, bs, h => by
    unfold unbytes at h
    split at h
    · rename_i he; cases he
    · rename_i n r' he
      simp only [List.cons.injEq] at he
      obtain ⟨rfl, rfl⟩ := he
      simp only [Option.map_eq_some_iff] at h
      obtain ⟨bs', h1, rfl⟩ := h
      obtain ⟨q1, q2⟩ := unbytes_get h1
      refine ⟨by simp [q1], fun j hj => ?_⟩
      cases j with
      | zero => exact ⟨n, rfl, rfl⟩
      | succ j => simpa using q2 j (by simpa using hj)
    · cases h

theorem str_sound {src dst e : TypeId} (hs : P.underlying src = some (.slice e)) (he : P.underlying e = some (.int .u8)) (hd : P.underlying dst = some .string) {els : List AV} {ad : Addr} {news : List Value} (hsrc : Source w A ρ 1 els ad news) (cc : Nat)
    {bs : List UInt8} (h : unbytes els = some bs) (hb : bs.length ≤ big) :
    ∃ x, (convert src dst (.slice (some ad) els.length cc)).run P w = .ok x w ∧ ARep w A ρ (.d (.str ⟨bs.toArray⟩)) x := by
  obtain ⟨q1, q2⟩ := unbytes_get h
  refine ⟨.string ⟨bs.toArray⟩, ?_, .d _ _ (.str _ (by show bs.toArray.size ≤ big; simpa using hb))⟩
  have hnl : news.length = els.length := by rw [hsrc.len]; omega
  have hcell : ∀ j, j < els.length → ∃ n, w.cell? (ad.add j) = some (.int .u8 n) ∧ els.getD j .undef = .d (.int .u8 n) := fun j hj => by
    obtain ⟨v, h1, h2⟩ := hsrc.rep j 0 hj (by omega)
    obtain ⟨n, h3, _⟩ := q2 j (by omega)
    simp only [Nat.mul_one, Nat.add_zero] at h1
    rw [h3] at h2
    simp only [AV.cells, List.getD_cons_zero] at h2
    have h2 := h2.ofD
    cases h2
    exact ⟨n, hsrc.mem j _ h1, h3⟩
  rw [run_convert_bytes_string w src dst e (some ad) els.length cc hs he hd]
  have hns : ∃ ns : List Int, ns.length = els.length ∧ ∀ j, j < els.length → els.getD j .undef = .d (.int .u8 (ns.getD j 0)) := by
    refine ⟨(List.range els.length).map fun j => match els.getD j .undef with | .d (.int _ n) => n | _ => 0, by simp, fun j hj => ?_⟩
    obtain ⟨n, _, h3⟩ := hcell j hj
    have : ((List.range els.length).map fun j => match els.getD j .undef with | .d (.int _ n) => n | _ => 0).getD j 0 = n := by
      simp only [List.getD_eq_getElem?_getD, List.getElem?_map, List.getElem?_range hj, Option.map_some, Option.getD_some]
      simp only [List.getD_eq_getElem?_getD] at h3
      rw [h3]
    rw [this]; exact h3
  obtain ⟨ns, n1, n2⟩ := hns
  have hl := run_loadCells_list (P := P) w ad (ns.map (Value.int .u8)) (fun j v hj => by
    have hj' : j < els.length := by
      have := (List.getElem?_eq_some_iff.1 hj).1
      simp at this; omega
    obtain ⟨n, h1, h3⟩ := hcell j hj'
    rw [n2 j hj'] at h3
    have e : ns.getD j 0 = n := by simpa using h3
    have hj2 : j < ns.length := by omega
    simp [List.getElem?_eq_getElem hj2] at hj
    rw [h1, ← e, ← hj]; simp [List.getD, List.getElem?_eq_getElem hj2])
  rw [List.length_map, n1] at hl
  rw [run_bytesToString w ad els.length cc ns hl]
  have key : ∀ (l : List Int) (r : ByteArray), l.foldl (fun r n => r.push (UInt8.ofNat n.toNat)) r = ⟨r.data ++ (l.map fun n => UInt8.ofNat n.toNat).toArray⟩ := by
    intro l
    induction l with
    | nil => intro r; simp
    | cons n l ih => intro r; simp only [List.foldl_cons, ih]; simp [ByteArray.push]
  rw [key]
  have e2 : (ns.map fun n => UInt8.ofNat n.toNat) = bs := by
    apply List.ext_getElem (by simp; omega)
    intro j h1 h2
    obtain ⟨n, h3, h4⟩ := q2 j h2
    have hj : j < els.length := by omega
    have hj2 : j < ns.length := by omega
    have h5 := n2 j hj
    rw [h3] at h5
    have e : n = ns.getD j 0 := by simpa using h5
    rw [h4, e]; simp [List.getD, List.getElem?_eq_getElem hj2]
  have he0 : ByteArray.empty.data = #[] := rfl
  rw [e2, he0]; simp

theorem op_convert (hc : CtxOk gs c) (hS : Sim c A ρ σ a w) {o : Oper} (hd : ∀ d, o.dst = some d → d < c.n) (src dst : TypeId) (x : Operand) (hop : o.op = .convert src dst x) : OpGoal P gs c A ρ σ a w o := by
  intro tx K KP next Q h hfr hF hn hp
  simp only [hop, opB] at h
  have hex : execOp a.eval o = (do pure (.value (← convert src dst (a.eval x)))) := by rw [op_eq hop]; rfl
  unfold convB at h
  split at h
  · rename_i e hsu hdu
    split at h
    · rename_i s heu hev
      have hr := eval_rep hS x
      rw [hev] at hr
      have hr := hr.ofD
      generalize a.eval x = xv at hr hex
      cases hr with
      | str _ hs => exact wp_yields hd hex (bytes_sound hS (hfr _ h 0 (by simp [OpR.res])) hsu hdu heu hs) (fun x A' ρ' w' q hh => hn _ x A' ρ' w' h q hh)
    · exact h.elim
  · rename_i e hsu hdu
    split at h
    · rename_i heu
      have hr := eval_rep hS x
      unfold toStrB at h
      split at h
      · rename_i hev
        rw [hev] at hr
        have hr := hr.ofD
        generalize a.eval x = xv at hr hex
        cases hr
        refine wp_val hS hd hex ⟨.string ⟨#[]⟩, ?_, .d _ _ (.str _ (by decide))⟩ h hn
        rw [run_convert_bytes_string w src dst e none 0 0 hsu heu hdu]
        rfl
      · rename_i els hev
        unfold strB at h
        split at h
        · rename_i bs hbs
          split at h
          · rename_i hbig
            have hnews : wpB (calls P gs) tx (newsB ⟨1, false, 1, .inil⟩ (.d (.sim els)) fun xs => just σ.nid (.tup xs)) σ.lh (fun r => r.v = .tup (els.map .d)) (fun _ _ => False) := by
              have hall : els.all (fun x => x.cells.length = 1) = true := by
                rw [List.all_eq_true]
                intro d hdm
                obtain ⟨j, hj, rfl⟩ := List.mem_iff_getElem.1 hdm
                obtain ⟨q1, q2⟩ := unbytes_get hbs
                simp at q1
                obtain ⟨n, h3, _⟩ := q2 j (by omega)
                rw [getD_map_d _ _ hj] at h3
                have e : els.getD j .inil = els[j] := by simp [List.getD, List.getElem?_eq_getElem hj]
                rw [e] at h3
                have : els[j] = .int .u8 n := by simpa using h3
                rw [this]; rfl
              simp only [newsB, hall, if_true]
              rfl
            rw [hev] at hr
            obtain ⟨els', ad, cc, news, e1, hsrc, h'⟩ := newsB_sound (ti := ⟨1, false, 1, .inil⟩) hS hr (by decide) hnews
            have he' : els' = els.map .d := by
              have h2 : AV.tup els' = .tup (els.map .d) := h'
              simpa using h2
            subst he'
            obtain ⟨y, y1, y2⟩ := str_sound (P := P) hsu heu hdu hsrc cc hbs hbig
            rw [← e1] at y1
            exact wp_val hS hd hex ⟨y, y1, y2⟩ h hn
          · exact h.elim
        · exact h.elim
      · rename_i b es off n hev
        simp only [wpB] at h
        cases hq : σ.lh b with
        | none => simp [hq] at h
        | some q =>
          simp only [hq] at h
          split at h
          · rename_i hcc
            unfold strB at h
            split at h
            · rename_i bs hbs
              split at h
              · rename_i hbig
                have hnews : wpB (calls P gs) tx (newsB ⟨1, false, 1, .inil⟩ (.slc b es off n) fun xs => just σ.nid (.tup xs)) σ.lh (fun r => r.v = .tup ((q.els.drop off).take n)) (fun _ _ => False) := by
                  simp only [newsB, wpB, hq]
                  rw [if_pos hcc]
                  rfl
                rw [hev] at hr
                obtain ⟨els', ad, cc, news, e1, hsrc, h'⟩ := newsB_sound (ti := ⟨1, false, 1, .inil⟩) hS hr (by decide) hnews
                have he' : els' = (q.els.drop off).take n := by
                  have h2 : AV.tup els' = .tup ((q.els.drop off).take n) := h'
                  simpa using h2
                subst he'
                obtain ⟨y, y1, y2⟩ := str_sound (P := P) hsu heu hdu hsrc cc hbs hbig
                rw [← e1] at y1
                exact wp_val hS hd hex ⟨y, y1, y2⟩ h hn
              · exact h.elim
            · exact h.elim
          · exact h.elim
      · exact h.elim
    · exact h.elim
  · obtain ⟨v, hv, h⟩ := ofO_inv h
    exact wp_val hS hd hex (convA_sound (P := P) (eval_rep hS x) hv) h hn

theorem nil_eq {op : BinOp} {t : TypeId} {xv cv : Value} {v : DV} {ox : Operand} {r : Bool} (hE : (Op.equal t xv cv).run P w = .ok r w) (hg : (eqGuard op t ox (.const cv) xv cv).run P w = .ok () w)
    (hb : ∀ op, op = .eql ∨ op = .neq → binOp op t xv cv = (do let b ← Op.equal t xv cv; pure (.bool (if op = .eql then b else !b)))) (h : eqOp op r = some v) :
    ∃ z, (do eqGuard op t ox (.const cv) xv cv; binOp op t xv cv : Sem Value).run P w = .ok z w ∧ DRep w A v z := by
  unfold eqOp at h
  split at h
  · cases h
    refine ⟨.bool r, ?_, .bool _⟩
    simp only [Sem.run_bind, hg, Result.andThen_ok, hb _ (.inl rfl), hE]; rfl
  · cases h
    refine ⟨.bool (!r), ?_, .bool _⟩
    simp only [Sem.run_bind, hg, Result.andThen_ok, hb _ (.inr rfl), hE]; rfl
  · cases h

theorem nilOp_sound {op : BinOp} {t : TypeId} {x : AV} {cv : Value} {v : DV} {xv : Value} {ox : Operand} (hx : ARep w A ρ x xv) (h : nilOp P op t x cv = some v) :
    ∃ z, (do eqGuard op t ox (.const cv) xv cv; binOp op t xv cv : Sem Value).run P w = .ok z w ∧ DRep w A v z := by
  unfold nilOp at h
  split at h <;> first | (cases h; done) | skip
  · rename_i _ _ _ ms hu
    have hx := hx.ofD; cases hx
    have e : ∀ d, (Op.equalIn (d + 1) t .nilIface .nilIface).run P w = .ok true w := fun d => by simp [Op.equalIn, run_underlying hu]
    exact nil_eq (e 9999) (by cases op <;> cases ox <;> rfl) (fun op hop => by rcases hop with rfl | rfl <;> rfl) h
  · rename_i _ _ _ ms tt vv hu
    have hx := hx.ofD; cases hx
    have e : ∀ d y, (Op.equalIn (d + 1) t (.iface tt y) .nilIface).run P w = .ok false w := fun d y => by simp [Op.equalIn, run_underlying hu]
    exact nil_eq (e 9999 _) (by cases op <;> cases ox <;> rfl) (fun op hop => by rcases hop with rfl | rfl <;> rfl) h
  · rename_i _ _ _ ms tt vv hu
    cases hx
    have e : ∀ d y, (Op.equalIn (d + 1) t (.iface tt y) .nilIface).run P w = .ok false w := fun d y => by simp [Op.equalIn, run_underlying hu]
    exact nil_eq (e 9999 _) (by cases op <;> cases ox <;> rfl) (fun op hop => by rcases hop with rfl | rfl <;> rfl) h
  · rename_i _ _ _ e hu
    have hx := hx.ofD; cases hx
    have e : ∀ d, (Op.equalIn (d + 1) t (.pointer none) (.pointer none)).run P w = .ok true w := fun d => by simp [Op.equalIn, run_underlying hu]
    exact nil_eq (e 9999) (by cases op <;> cases ox <;> rfl) (fun op hop => by rcases hop with rfl | rfl <;> rfl) h
  · rename_i _ _ _ e b es i fo hu
    cases hx
    have e : ∀ d y, (Op.equalIn (d + 1) t (.pointer (some y)) (.pointer none)).run P w = .ok false w := fun d y => by simp [Op.equalIn, run_underlying hu]
    exact nil_eq (e 9999 _) (by cases op <;> cases ox <;> rfl) (fun op hop => by rcases hop with rfl | rfl <;> rfl) h
  · rename_i _ _ _ e els i fo hu
    have hx := hx.ofD; cases hx
    have e : ∀ d y, (Op.equalIn (d + 1) t (.pointer (some y)) (.pointer none)).run P w = .ok false w := fun d y => by simp [Op.equalIn, run_underlying hu]
    exact nil_eq (e 9999 _) (by cases op <;> cases ox <;> rfl) (fun op hop => by rcases hop with rfl | rfl <;> rfl) h
  · rename_i _ _ _ p1 p2 p3 hu
    have hx := hx.ofD; cases hx
    have e : ∀ d, (Op.equalIn (d + 1) t .nilFunc .nilFunc).run P w = .ok true w := fun d => by simp [Op.equalIn, run_underlying hu]
    exact nil_eq (e 9999) (by cases op <;> cases ox <;> rfl) (fun op hop => by rcases hop with rfl | rfl <;> rfl) h
  · rename_i _ _ _ p1 p2 p3 f cs hu
    have hx := hx.ofD; cases hx
    have e : ∀ d y, (Op.equalIn (d + 1) t (.func (.func f) #[] y) .nilFunc).run P w = .ok false w := fun d y => by simp [Op.equalIn, run_underlying hu]
    exact nil_eq (e 9999 _) (by cases op <;> cases ox <;> rfl) (fun op hop => by rcases hop with rfl | rfl <;> rfl) h
  · rename_i _ _ _ p1 p2 p3 f cs hu
    cases hx
    have e : ∀ d y, (Op.equalIn (d + 1) t (.func (.func f) #[] y) .nilFunc).run P w = .ok false w := fun d y => by simp [Op.equalIn, run_underlying hu]
    exact nil_eq (e 9999 _) (by cases op <;> cases ox <;> rfl) (fun op hop => by rcases hop with rfl | rfl <;> rfl) h

theorem agg_cells {x : AV} {xv : Value} (hx : ARep w A ρ x xv) (h : aIsAgg x = true) : ∃ cs, xv = .agg cs ∧ cs.size = x.cells.length ∧ ∀ i, i < x.cells.length → ARep w A ρ (x.cells.getD i .undef) (cs.getD i undef) := by
  cases hx with
  | agg cs vs hl hone hh => exact ⟨vs, rfl, hl, hh⟩
  | d v y hd =>
    cases hd with
    | agg cs vs hl hone hh =>
      refine ⟨vs, rfl, by simpa [AV.cells] using hl, fun i hi => ?_⟩
      have hi : i < cs.length := by simpa [AV.cells] using hi
      simp only [AV.cells]
      rw [getD_map_d _ _ hi]; exact .d _ _ (hh i hi)
    | _ => simp [aIsAgg] at h
  | _ => simp [aIsAgg] at h

theorem eqParts_sound {xs ys : List AV} {X Y : Array Value} (hX : X.size = xs.length) (hY : Y.size = ys.length) (hx : ∀ i, i < xs.length → ARep w A ρ (xs.getD i .undef) (X.getD i undef)) (hy : ∀ i, i < ys.length → ARep w A ρ (ys.getD i .undef) (Y.getD i undef)) (d : Nat) :
    ∀ (fs : List Field) (r : Bool), eqParts P fs xs ys = some r → (Op.eqFields (d + 1) X Y fs).run P w = .ok r w
  | [], r, h => by simp only [eqParts, Option.some.injEq] at h; subst h; rfl
  | f :: fs, r, h => by
    simp only [eqParts] at h
    split at h
    · cases h
    · rename_i hname
      have get : ∀ {zs : List AV} {Z : Array Value} {v : AV}, Z.size = zs.length → (∀ i, i < zs.length → ARep w A ρ (zs.getD i .undef) (Z.getD i undef)) → zs[f.offset]? = some v → ∃ z, Z[f.offset]? = some z ∧ ARep w A ρ v z := fun {zs Z v} h1 h2 h3 => by
        obtain ⟨hi, e⟩ := List.getElem?_eq_some_iff.1 h3
        have := h2 _ hi
        have e2 : zs.getD f.offset .undef = v := by simp [List.getD, h3]
        rw [e2] at this
        have hlt : f.offset < Z.size := by omega
        exact ⟨Z.getD f.offset undef, by simp [Array.getD, hlt], this⟩
      have pr : ∀ {u : TypeDesc} {Z : Array Value} {z : Value}, P.underlying f.type = some u → descAgg u = false → Z[f.offset]? = some z → (part f.type Z f.offset).run P w = .ok z w := fun {u Z z} h1 h2 h3 => by
        simp [part, run_isAgg' h1, h2, h3]
      split at h <;> first | (cases h; done) | skip
      · rename_i _ _ _ q k a k' b hu h1 h2
        obtain ⟨z1, g1, r1⟩ := get hX hx h1
        obtain ⟨z2, g2, r2⟩ := get hY hy h2
        have r1 := r1.ofD; cases r1
        have r2 := r2.ofD; cases r2
        split at h
        · rename_i hk
          subst hk
          have e1 := pr hu rfl g1
          have e2 := pr hu rfl g2
          have e3 := run_equalIn_int (P := P) w d f.type k q a b hu
          simp only [Op.eqFields, Sem.run_ite, if_pos hname, Sem.run_bind, e1, e2, e3, Result.andThen_ok]
          split at h
          · rename_i hab
            simp only [hab, Bool.not_true, Bool.false_eq_true, if_false]
            exact eqParts_sound hX hY hx hy d fs r h
          · rename_i hab
            cases h
            have hab' : (a == b) = false := by simpa using hab
            simp only [hab', Bool.not_false, if_true]; rfl
        · cases h
      · rename_i _ _ _ a b hu h1 h2
        rw [← ByteArray.toList_eq, ← ByteArray.toList_eq] at h
        obtain ⟨z1, g1, r1⟩ := get hX hx h1
        obtain ⟨z2, g2, r2⟩ := get hY hy h2
        have r1 := r1.ofD; cases r1
        have r2 := r2.ofD; cases r2
        have e1 := pr hu rfl g1
        have e2 := pr hu rfl g2
        have e3 := run_equalIn_string (P := P) w d f.type a b hu
        simp only [Op.eqFields, Sem.run_ite, if_pos hname, Sem.run_bind, e1, e2, e3, Result.andThen_ok]
        split at h
        · rename_i hab
          simp only [hab, Bool.not_true, Bool.false_eq_true, if_false]
          exact eqParts_sound hX hY hx hy d fs r h
        · rename_i hab
          cases h
          have hab' : (a.toList == b.toList) = false := by simpa using hab
          simp only [hab', Bool.not_false, if_true]; rfl
      · rename_i _ _ _ a b hu h1 h2
        obtain ⟨z1, g1, r1⟩ := get hX hx h1
        obtain ⟨z2, g2, r2⟩ := get hY hy h2
        have r1 := r1.ofD; cases r1
        have r2 := r2.ofD; cases r2
        have e1 := pr hu rfl g1
        have e2 := pr hu rfl g2
        have e3 := run_equalIn_bool (P := P) w d f.type a b hu
        simp only [Op.eqFields, Sem.run_ite, if_pos hname, Sem.run_bind, e1, e2, e3, Result.andThen_ok]
        split at h
        · rename_i hab
          simp only [hab, Bool.not_true, Bool.false_eq_true, if_false]
          exact eqParts_sound hX hY hx hy d fs r h
        · rename_i hab
          cases h
          have hab' : (a == b) = false := by simpa using hab
          simp only [hab', Bool.not_false, if_true]; rfl

theorem structOp_sound {op : BinOp} {t : TypeId} {x y : AV} {v : DV} {xv yv : Value} {ox oy : Operand} (hx : ARep w A ρ x xv) (hy : ARep w A ρ y yv) (h : structOp P op t x y = some v) :
    ∃ z, (do eqGuard op t ox oy xv yv; binOp op t xv yv : Sem Value).run P w = .ok z w ∧ DRep w A v z := by
  unfold structOp at h
  split at h
  · rename_i fs hu
    split at h
    · rename_i hc
      obtain ⟨h1, h2, h3, h4⟩ := hc
      obtain ⟨X, rfl, x1, x2⟩ := agg_cells hx h1
      obtain ⟨Y, rfl, y1, y2⟩ := agg_cells hy h2
      obtain ⟨r, hr, h⟩ := Option.bind_eq_some_iff.1 h
      have hf : P.fieldsOf t = fs := by simp [Program.fieldsOf, hu]
      have e1 := eqParts_sound (P := P) x1 y1 x2 y2 9998 fs.toList r hr
      have e2 := run_equalIn_struct (P := P) w 9999 t X Y (by rw [hf]; exact hu) h4
      rw [hf] at e2
      unfold eqOp at h
      split at h
      · cases h
        exact ⟨.bool r, by simp only [Sem.run_bind, run_eqGuard_agg w _ t ox oy X Y h3, Result.andThen_ok, run_eql_struct, e2, e1], .bool _⟩
      · cases h
        exact ⟨.bool (!r), by simp only [Sem.run_bind, run_eqGuard_agg w _ t ox oy X Y h3, Result.andThen_ok, run_neq_struct, e2, e1], .bool _⟩
      · cases h
    · cases h
  · cases h

theorem op_binOp (hc : CtxOk gs c) (hS : Sim c A ρ σ a w) {o : Oper} (hd : ∀ d, o.dst = some d → d < c.n) (op : BinOp) (t : TypeId) (x y : Operand) (t' : TypeId) (hop : o.op = (.binOp op t x y t')) : OpGoal P gs c A ρ σ a w o := by
  intro tx K KP next Q h hfr hF hn hp
  simp only [hop, opB] at h
  have hex : execOp a.eval o = (do pure (.value (← (do eqGuard op t x y (a.eval x) (a.eval y); binOp op t (a.eval x) (a.eval y) : Sem Value)))) := by rw [op_eq hop]; rfl
  split at h
  · rename_i v hv
    obtain ⟨z, hz, hzd⟩ := binD_sound (P := P) (ox := x) (oy := y) (eval_rep hS x) (eval_rep hS y) hv
    exact wp_val hS hd hex ⟨z, hz, .d _ _ hzd⟩ h hn
  · split at h
    · rename_i cv
      obtain ⟨v, hv, h⟩ := ofO_inv h
      obtain ⟨z, hz, hzd⟩ := nilOp_sound (P := P) (ox := x) (eval_rep hS x) hv
      exact wp_val hS hd hex ⟨z, hz, .d _ _ hzd⟩ h hn
    · obtain ⟨v, hv, h⟩ := ofO_inv h
      obtain ⟨z, hz, hzd⟩ := structOp_sound (P := P) (ox := x) (oy := y) (eval_rep hS x) (eval_rep hS y) hv
      exact wp_val hS hd hex ⟨z, hz, .d _ _ hzd⟩ h hn

theorem op_min (hc : CtxOk gs c) (hS : Sim c A ρ σ a w) {o : Oper} (hd : ∀ d, o.dst = some d → d < c.n) (args : Array Operand) (ts : Array TypeId) (hop : o.op = .call { callee := .builtin .min, args, argTypes := ts }) : OpGoal P gs c A ρ σ a w o := by
  intro tx K KP next Q h hfr hF hn hp
  simp only [hop, opB] at h
  split at h
  · rename_i hsz
    have e1 := two_args (.tmp 0) hsz
    split at h
    · rename_i k x k' y hx hy
      have r1 := eval_rep hS (args.getD 0 (.tmp 0))
      have r2 := eval_rep hS (args.getD 1 (.tmp 0))
      rw [hx] at r1; rw [hy] at r2
      have hex : execOp a.eval o = (do pure (.value (← Builtin.min_ ts o.type #[a.eval (args.getD 0 (.tmp 0)), a.eval (args.getD 1 (.tmp 0))]))) := by
        rw [op_eq hop]
        simp only [execOp, resolve, invoke, builtin, pure_bind]
        rw [e1]; simp
      have r1 := r1.ofD
      have r2 := r2.ofD
      generalize a.eval (args.getD 0 (.tmp 0)) = v1 at r1 hex
      generalize a.eval (args.getD 1 (.tmp 0)) = v2 at r2 hex
      cases r1; cases r2
      exact wp_val hS hd hex ⟨_, run_min_int2 w ts o.type k k' x y, .d _ _ (.int _ _)⟩ h hn
    · exact h.elim
  · exact h.elim

theorem op_max (hc : CtxOk gs c) (hS : Sim c A ρ σ a w) {o : Oper} (hd : ∀ d, o.dst = some d → d < c.n) (args : Array Operand) (ts : Array TypeId) (hop : o.op = .call { callee := .builtin .max, args, argTypes := ts }) : OpGoal P gs c A ρ σ a w o := by
  intro tx K KP next Q h hfr hF hn hp
  simp only [hop, opB] at h
  split at h
  · rename_i hsz
    have e1 := two_args (.tmp 0) hsz
    split at h
    · rename_i k x k' y hx hy
      have r1 := eval_rep hS (args.getD 0 (.tmp 0))
      have r2 := eval_rep hS (args.getD 1 (.tmp 0))
      rw [hx] at r1; rw [hy] at r2
      have hex : execOp a.eval o = (do pure (.value (← Builtin.max_ ts o.type #[a.eval (args.getD 0 (.tmp 0)), a.eval (args.getD 1 (.tmp 0))]))) := by
        rw [op_eq hop]
        simp only [execOp, resolve, invoke, builtin, pure_bind]
        rw [e1]; simp
      have r1 := r1.ofD
      have r2 := r2.ofD
      generalize a.eval (args.getD 0 (.tmp 0)) = v1 at r1 hex
      generalize a.eval (args.getD 1 (.tmp 0)) = v2 at r2 hex
      cases r1; cases r2
      exact wp_val hS hd hex ⟨_, run_max_int2 w ts o.type k k' x y, .d _ _ (.int _ _)⟩ h hn
    · exact h.elim
  · exact h.elim

theorem cap_run {t ty e : TypeId} (hu : P.underlying t = some (.slice e)) (ad : Option Addr) (n cc : Nat) : (Builtin.cap_ #[t] ty #[.slice ad n cc]).run P w = .ok (.int .i64 cc) w := by
  simp [Builtin.cap_, run_underlying hu, goInt]

theorem op_cap (hc : CtxOk gs c) (hS : Sim c A ρ σ a w) {o : Oper} (hd : ∀ d, o.dst = some d → d < c.n) (args : Array Operand) (ts : Array TypeId) (hop : o.op = .call { callee := .builtin .cap, args, argTypes := ts }) : OpGoal P gs c A ρ σ a w o := by
  intro tx K KP next Q h hfr hF hn hp
  simp only [hop, opB] at h
  split at h
  · rename_i hsz
    have e1 := one_arg (.tmp 0) hsz.1
    have e2 := one_arg (0 : TypeId) hsz.2
    have r1 := eval_rep hS (args.getD 0 (.tmp 0))
    have hex : execOp a.eval o = (do pure (.value (← Builtin.cap_ #[ts.getD 0 0] o.type #[a.eval (args.getD 0 (.tmp 0))]))) := by
      rw [op_eq hop]
      simp only [execOp, resolve, invoke, builtin, pure_bind]
      rw [e1, e2]
      simp
    split at h
    · rename_i e hu hx
      rw [hx] at r1
      have r1 := r1.ofD
      generalize a.eval (args.getD 0 (.tmp 0)) = v1 at r1 hex
      cases r1
      exact wp_val hS hd hex ⟨_, cap_run hu _ _ _, .d _ _ (.int .i64 0)⟩ h hn
    · rename_i e hu hx
      rw [hx] at r1
      generalize a.eval (args.getD 0 (.tmp 0)) = v1 at r1 hex
      cases r1
      exact wp_val hS hd hex ⟨_, cap_run hu _ _ _, .d _ _ (.int .i64 0)⟩ h hn
    · exact h.elim
  · exact h.elim

theorem op_slice3 (hc : CtxOk gs c) (hS : Sim c A ρ σ a w) {o : Oper} (hd : ∀ d, o.dst = some d → d < c.n) (t : TypeId) (x : Operand) (lo hi : Option Operand) (mx : Operand) (hop : o.op = .slice t x lo hi (some mx)) : OpGoal P gs c A ρ σ a w o := by
  intro tx K KP next Q h hfr hF hn hp
  simp only [hop, opB] at h
  obtain ⟨v, hv, h⟩ := ofO_inv h
  have hex : execOp a.eval o = (do pure (.value (← Instr.sliceAt t (a.eval x) (lo.map a.eval) (hi.map a.eval) (some (a.eval mx))))) := by
    rw [op_eq hop]; simp only [execOp, Option.map_some]
  unfold slice3A at hv
  split at hv
  · rename_i e k1 k2 hu hlo hhi hmx
    have hlo' : lo = none := by cases lo with
      | none => rfl
      | some _ => simp at hlo
    subst hlo'
    cases hi with
    | none => simp at hhi
    | some hi =>
      simp only [Option.map_some, Option.some.injEq] at hhi hmx
      have r1 := eval_rep hS hi
      have r2 := eval_rep hS mx
      rw [hhi] at r1; rw [hmx] at r2
      have r1 := r1.ofD
      have r2 := r2.ofD
      simp only [Option.map_none, Option.map_some] at hex
      have rx := eval_rep hS x
      generalize a.eval hi = v1 at r1 hex
      generalize a.eval mx = v2 at r2 hex
      cases r1; cases r2
      cases ht : tinfo P e with
      | none => simp [ht] at hv
      | some ti =>
        obtain ⟨ii, u, z, hii, hu', hz, hzd, hsz, _, _, hzl⟩ := tinfo_parts ht
        simp only [ht, Option.bind_some] at hv
        have run : ∀ (ad : Option Addr) (n cc : Nat), (Instr.sliceAt t (.slice ad n cc) none (some (.int k1 0)) (some (.int k2 0))).run P w = .ok (.slice ad 0 0) w := fun ad n cc => by
          simp [Instr.sliceAt, Instr.slice, Instr.sliceBounds, Instr.sliceBound, asIntOf, run_underlying hu, run_sizeOf' hii]
        generalize a.eval x = xv at rx hex
        generalize σ.eval x = xa at rx hv
        split at hv
        · cases hv
          have rx := rx.ofD; cases rx
          exact wp_val hS hd hex ⟨_, run _ _ _, .d _ _ .snil⟩ h hn
        · cases hv
          have rx := rx.ofD; cases rx
          exact wp_val hS hd hex ⟨_, run _ _ _, .zc _⟩ h hn
        · cases hv
          cases rx
          exact wp_val hS hd hex ⟨_, run _ _ _, .zc _⟩ h hn
        · cases hv
          cases rx
          exact wp_val hS hd hex ⟨_, run _ _ _, .zc _⟩ h hn
        · cases hv
  · cases hv

theorem putL_in (els xs : List AV) (off j : Nat) (h : off ≤ els.length) (h1 : off ≤ j) (h2 : j < off + xs.length) : (putL els off xs).getD j .undef = xs.getD (j - off) .undef := splice_in els xs off j .undef h h1 h2
theorem putL_out (els xs : List AV) (off j : Nat) (h : off + xs.length ≤ els.length) (h1 : j < off ∨ off + xs.length ≤ j) : (putL els off xs).getD j .undef = els.getD j .undef := splice_out els xs off j .undef h h1
theorem putL_len (els xs : List AV) (off : Nat) (h : off + xs.length ≤ els.length) : (putL els off xs).length = els.length := by
  simp only [putL, List.length_append, List.length_take, List.length_drop]; omega

theorem copy_sound (hS : Sim c A ρ σ a w) {t t' ty e : TypeId} {ti : TI} (hu : P.underlying t = some (.slice e)) (hti : tinfo P e = some ti) (h0 : 0 < ti.sz) {b es off n : Nat} {sv : Value} (hs : ARep w A ρ (.slc b es off n) sv)
    {q : LB} (hq : σ.lh b = some q) (hlive : q.live = true) (he : es = ti.sz) (hfit : off + n ≤ q.els.length) {xels : List AV} {ad : Addr} {news : List Value} (hsrc : Source w A ρ ti.sz xels ad news) (cc : Nat) :
    ∃ w', (Builtin.copy_ #[t, t'] ty #[sv, .slice (some ad) xels.length cc]).run P w = .ok (.int .i64 (min xels.length n : Nat)) w' ∧
      Sim c A ρ { σ with lh := upd σ.lh b (some { q with els := putL q.els off (xels.take n) }) } a w' := by
  obtain ⟨ii, u, z, hii, hu2, hz, hzd, hsz, _, hbyt, hzl⟩ := tinfo_parts hti
  cases hs with
  | slc _ _ _ _ r hr hre hle =>
    obtain ⟨⟨cur, fr, h1, h2, h3, h4, h5⟩, hes, hlen, hcap, hels⟩ := hS.blk b r q hr hq
    have hqe : q.es = ti.sz := by omega
    let m := min xels.length n
    have hml : m ≤ xels.length := Nat.min_le_left _ _
    have hmn : m ≤ n := Nat.min_le_right _ _
    have hnl : news.length = xels.length * ti.sz := hsrc.len
    have hle2 : m * ti.sz ≤ news.length := by rw [hnl]; exact Nat.mul_le_mul_right _ hml
    have hld := run_loadCells_list (P := P) w ad (news.take (m * ti.sz)) (fun j v hj => by
      have hj' : j < m * ti.sz := by
        have := (List.getElem?_eq_some_iff.1 hj).1
        simp at this; omega
      rw [List.getElem?_take, if_pos hj'] at hj
      exact hsrc.mem j v hj)
    have htl : (news.take (m * ti.sz)).length = m * ti.sz := by simp; omega
    rw [htl] at hld
    have hcs : cur.size = r.cap * ti.sz := by rw [h2, hes, hqe]
    have hroom : off * es + 0 + (news.take (m * ti.sz)).length ≤ cur.size := by
      rw [htl, hcs, he, Nat.add_zero, ← Nat.add_mul]
      exact Nat.mul_le_mul_right _ (by omega)
    obtain ⟨w', cur', q1, q2, q3, q4, q5, q6, q7, q8, q9⟩ := run_storeCells_row (P := P) r.g (off * es) q.ty fr (news.take (m * ti.sz)) 0 cur w h1 h4 hroom (fun v hv => hsrc.one v (List.mem_of_mem_take hv))
    refine ⟨w', ?_, ?_⟩
    · have hst : (storeCells ⟨r.g, off * es, none⟩ (news.take (m * ti.sz)).toArray.toList).run P w = .ok () w' := q1
      have hmin : Nat.min xels.length n = m := rfl
      simp only [Builtin.copy_, List.getElem?_toArray, List.getElem?_cons_zero, List.getElem?_cons_succ, Sem.run_bind, run_underlying hu, Result.andThen_ok, Builtin.lenOf, Sem.run_pure, run_sizeOf' hii, Builtin.firstCells, hmin, ← hsz, hld, hst]
      rfl
    · refine hS.change q7 q8 q9 q6 hr hq hlive q5 (fun kp => ?_) hlive
      have hxl : (xels.take n).length = m := by simp only [List.length_take, m]; omega
      have hput : (putL q.els off (xels.take n)).length = q.els.length := putL_len _ _ _ (by rw [hxl]; omega)
      have hcells : ∀ j, j < q.els.length → ((putL q.els off (xels.take n)).getD j .undef).cells.length = q.es := fun j hj => by
        by_cases hin : off ≤ j ∧ j < off + m
        · rw [putL_in _ _ _ _ (by omega) hin.1 (by rw [hxl]; exact hin.2), hqe]
          have e2 : (xels.take n).getD (j - off) .undef = xels.getD (j - off) .undef := by
            simp only [List.getD_eq_getElem?_getD]; rw [List.getElem?_take, if_pos (by omega)]
          rw [e2]; exact hsrc.els _ (by omega)
        · rw [putL_out _ _ _ _ (by rw [hxl]; omega) (by rw [hxl]; omega)]; exact hels j hj
      refine ⟨⟨cur', fr, q2, by rw [q3, h2], h3, by rw [q3]; exact h4, fun j k hj hk => ?_⟩, hes, by simpa only [hput] using hlen, hcap, fun j hj => hcells j (by simpa only [hput] using hj)⟩
      have hj : j < q.els.length := by simpa only [hput] using hj
      have hk : k < q.es := hk
      have q4' := q4 (j * q.es + k)
      simp only [Nat.add_zero, htl] at q4'
      by_cases hin : off ≤ j ∧ j < off + m
      · rw [putL_in _ _ _ _ (by omega) hin.1 (by rw [hxl]; exact hin.2)]
        have e2 : (xels.take n).getD (j - off) .undef = xels.getD (j - off) .undef := by
          simp only [List.getD_eq_getElem?_getD]; rw [List.getElem?_take, if_pos (by omega)]
        rw [e2]
        obtain ⟨v, p1, p2⟩ := hsrc.rep (j - off) k (by omega) (by omega)
        have hjj : j * q.es = off * es + (j - off) * ti.sz := by
          rw [hqe, he, ← Nat.add_mul]; congr 1; omega
        have hlt : (j - off) * ti.sz + k < m * ti.sz := mul_lt_of (by omega) (by omega)
        refine ⟨v, ?_, hsrc.one v (List.mem_of_getElem? p1), p2.mono kp (fun _ _ h => h)⟩
        rw [q4', if_pos (by omega), List.getElem?_take, if_pos (by omega), ← p1]
        congr 1; omega
      · rw [putL_out _ _ _ _ (by rw [hxl]; omega) (by rw [hxl]; omega)]
        obtain ⟨v, p1, p2, p3⟩ := h5 j k hj hk
        refine ⟨v, ?_, p2, p3.mono kp (fun _ _ h => h)⟩
        rw [q4', if_neg ?_]
        · exact p1
        · have : j < off ∨ off + m ≤ j := by omega
          rcases this with h | h
          · have : (j + 1) * q.es ≤ off * q.es := Nat.mul_le_mul_right _ h
            rw [Nat.add_mul] at this
            have e3 : off * es = off * q.es := by rw [he, hqe]
            omega
          · have : (off + m) * q.es ≤ j * q.es := Nat.mul_le_mul_right _ h
            rw [Nat.add_mul] at this
            have e3 : off * es = off * q.es := by rw [he, hqe]
            have e4 : m * q.es = m * ti.sz := by rw [hqe]
            omega

theorem op_copy (hc : CtxOk gs c) (hS : Sim c A ρ σ a w) {o : Oper} (hd : ∀ d, o.dst = some d → d < c.n) (args : Array Operand) (ts : Array TypeId) (hop : o.op = .call { callee := .builtin .copy, args, argTypes := ts }) : OpGoal P gs c A ρ σ a w o := by
  intro tx K KP next Q h hfr hF hn hp
  simp only [hop, opB] at h
  split at h
  · rename_i hsz
    have e1 := two_args (.tmp 0) hsz.1
    have e2 := two_args (0 : TypeId) hsz.2
    have r1 := eval_rep hS (args.getD 0 (.tmp 0))
    have r2 := eval_rep hS (args.getD 1 (.tmp 0))
    have hex : execOp a.eval o = (do pure (.value (← Builtin.copy_ #[ts.getD 0 0, ts.getD 1 0] o.type #[a.eval (args.getD 0 (.tmp 0)), a.eval (args.getD 1 (.tmp 0))]))) := by
      rw [op_eq hop]
      simp only [execOp, resolve, invoke, builtin, pure_bind]
      rw [e1, e2]
      simp
    split at h
    · rename_i e hu
      obtain ⟨ti, ht, h⟩ := ofO_inv h
      unfold copyB at h
      split at h
      · rename_i b es off n hs
        rw [hs] at r1
        by_cases h0 : 0 < ti.sz
        · obtain ⟨els, ad, cc, news, e3, hsrc, h⟩ := newsB_sound hS r2 h0 h
          simp only [wpB] at h
          cases hq : σ.lh b with
          | none => simp [hq] at h
          | some q =>
            simp only [hq] at h
            split at h
            · rename_i hcc
              obtain ⟨w', q1, q2⟩ := copy_sound (P := P) (t' := ts.getD 1 0) (ty := o.type) hS hu ht h0 r1 hq hcc.1 hcc.2.1 hcc.2.2.2 hsrc cc
              rw [← e3] at q1
              refine wp_yields (A := A) hd hex (r := ⟨.d (.int .i64 (min els.length n : Nat)), [(b, some { q with els := putL q.els off (els.take n) })], σ.nid⟩) ⟨_, w', A, ρ, q1, q2, .d _ _ (.int _ _), Names.refl _ _⟩ (fun x A' ρ' w' k hh => hn _ x A' ρ' w' h k hh)
            · exact h.elim
        · exfalso
          unfold newsB at h
          split at h
          · split at h
            · simp only [wpB] at h
              split at h
              · rename_i q _; rw [if_neg (fun hh => h0 hh.2.2.1)] at h; exact h
              · exact h
            · exact h
          · simp only [wpB] at h
            split at h
            · split at h
              · simp only [wpB] at h
                split at h
                · rw [if_neg (fun hh => h0 hh.2.2.1)] at h; exact h
                · exact h
              · exact h
            · exact h
          · exact h
      · exact h.elim
    · exact h.elim
  · exact h.elim

/-- EVERY OPERATION that the abstract walk goes through, the model goes through. -/
theorem op_sound (hc : CtxOk gs c) (hS : Sim c A ρ σ a w) (o : Oper) (hd : ∀ d, o.dst = some d → d < c.n) : OpGoal P gs c A ρ σ a w o := by
  have no : opB P σ.nid σ.eval o.op = .fail → OpGoal P gs c A ρ σ a w o := fun e tx K KP next Q h => by rw [e] at h; exact h.elim
  cases hop : o.op with
  | move x => exact op_move hc hS hd x hop
  | assign x => exact op_assign hc hS hd x hop
  | pick cc x y => exact op_pick hc hS hd cc x y hop
  | alloc t => exact op_alloc hc hS hd t hop
  | box t x => exact op_box hc hS hd t x hop
  | build t p => exact op_build hc hS hd t p hop
  | buildSlice t l p => exact op_buildSlice hc hS hd t l p hop
  | load t x => exact op_load hc hS hd t x hop
  | store t x y => exact op_store hc hS hd t x y hop
  | nilCheck x => exact op_nilCheck hc hS hd x hop
  | binOp op t x y t' => exact op_binOp hc hS hd op t x y t' hop
  | unOp op t x => exact op_unOp hc hS hd op t x hop
  | convert s t x => exact op_convert hc hS hd s t x hop
  | makeInterface t x => exact op_makeInterface hc hS hd t x hop
  | makeFunc fn f cs =>
    cases fn with
    | func f' => exact op_makeFunc hc hS hd f' f cs hop
    | _ => exact no (by rw [hop]; rfl)
  | makeSlice t l cc => exact op_makeSlice hc hS hd t l cc hop
  | slice t x lo hi mx =>
    cases mx with
    | none => exact op_slice hc hS hd t x lo hi hop
    | some m => exact op_slice3 hc hS hd t x lo hi m hop
  | fieldAddr s x f => exact op_fieldAddr hc hS hd s x f hop
  | field s x f => exact op_field hc hS hd s x f hop
  | indexAddr t x i => exact op_indexAddr hc hS hd t x i hop
  | index t x i => exact op_index hc hS hd t x i hop
  | extract x i => exact op_extract hc hS hd x i hop
  | typeAssert x s t ok => exact op_typeAssert hc hS hd x s t ok hop
  | panic x => exact op_panic hc hS hd x hop
  | call cl =>
    obtain ⟨callee, args, ts⟩ := cl
    cases callee with
    | value fv => exact op_call hc hS hd fv args ts hop
    | invoke r m => exact no (by rw [hop]; rfl)
    | builtin b =>
      cases b with
      | append => exact op_append hc hS hd args ts hop
      | len => exact op_len hc hS hd args ts hop
      | min => exact op_min hc hS hd args ts hop
      | max => exact op_max hc hS hd args ts hop
      | cap => exact op_cap hc hS hd args ts hop
      | copy => exact op_copy hc hS hd args ts hop
      | _ => exact no (by rw [hop]; rfl)
  | _ => exact no (by rw [hop]; rfl)
end
#print axioms op_sound
end Go.Proofs.Am
