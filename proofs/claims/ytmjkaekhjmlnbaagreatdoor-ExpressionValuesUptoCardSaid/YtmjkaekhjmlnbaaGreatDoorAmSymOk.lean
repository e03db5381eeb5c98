/- The walk over data as it stands: its operations are those of the walk. -/
import Derived.Test.YtmjkaekhjmlnbaaGreatDoorAmSym
set_option linter.unusedVariables false
set_option linter.unusedSimpArgs false
namespace Go.Proofs.Am
open Go Go.RowKit

section
variable {P : Program} {T : Nat → Option TRow}

theorem rowTi_ok (hT : TabOk P T) {t : Nat} {ti : TI} (h : rowTi T t = some ti) : tinfo P t = some ti := by
  unfold rowTi at h
  cases hr : T t with
  | none => simp [hr] at h
  | some r =>
    rw [hr] at h
    have := hT t r hr
    subst this
    simpa [rowOf] using h

def UKis (d : Option TypeDesc) : UK → Prop
  | .int k => d = some (.int k)
  | .str => d = some .string
  | .bool => d = some .bool
  | .slice e => d = some (.slice e)
  | .arr n e => d = some (.array n e)
  | .struct => ∃ fs, d = some (.struct fs)
  | .other => True

theorem un_ok {u : UK} {d : Option TypeDesc} (h : ukOf d = u) : UKis d u := by
  subst h
  unfold ukOf
  split <;> first | rfl | exact ⟨_, rfl⟩ | trivial

theorem rowUn_ok (hT : TabOk P T) {t : Nat} {u : UK} (h : rowUn T t = u) : UKis (P.underlying t) u := by
  unfold rowUn at h
  cases hr : T t with
  | none => rw [hr] at h; subst h; trivial
  | some r =>
    rw [hr] at h
    have := hT t r hr
    subst this
    exact un_ok h

theorem std_and (a b : Bool) : std.and a b = (a && b) := rfl

theorem isAgg_std {x : DV} {n : Nat} (h : std.isAgg x n = true) : ∃ l, x = .agg l ∧ l.length = n := by
  simp only [std, Bool.and_eq_true, beq_iff_eq] at h
  cases x <;> simp [dIsAgg] at h
  exact ⟨_, rfl, h⟩

theorem range_cells (l : List DV) : (List.range l.length).map (fun i => AV.d ((DV.agg l).cells.getD i .inil)) = l.map .d := by
  apply List.ext_getElem (by simp)
  intro i h1 h2
  simp at h1
  simp [DV.cells, List.getD, h1]

theorem one_cells {x : DV} (h : std.one x = true) : (AV.d x).cells = [.d x] := by
  cases x <;> simp [std, avOne] at h <;> rfl

theorem cellsT_ok {agg : Bool} {sz : Nat} {v : AV} {cs : List AV} {b : Bool} (h : cellsT std agg sz v = (cs, b)) (hb : b = true) : v.cells = cs := by
  subst hb
  unfold cellsT at h
  split at h
  · simp only [Prod.mk.injEq] at h; exact h.1
  · rename_i x
    split at h
    · simp only [Prod.mk.injEq] at h
      obtain ⟨h1, h2⟩ := h
      obtain ⟨l, rfl, rfl⟩ := isAgg_std h2
      rw [← h1]
      exact (range_cells l).symm
    · simp only [Prod.mk.injEq] at h
      obtain ⟨h1, h2⟩ := h
      rw [one_cells h2, h1]
  · simp only [Prod.mk.injEq] at h
    rw [← h.1]
    cases v <;> first | rfl | simp_all

theorem onesT_ok : ∀ {cs : List AV}, onesT std cs = true → cs.all avOne = true
  | [], _ => rfl
  | v :: r, h => by
    cases v with
    | d x =>
      simp only [onesT, std_and, Bool.and_eq_true] at h
      have h1 : avOne (.d x) = true := h.1
      rw [List.all_cons, h1, onesT_ok (cs := r) h.2]; rfl
    | agg _ => simp [onesT] at h
    | tup _ => simp [onesT] at h
    | undef => simp [onesT] at h
    | _ => simp only [onesT] at h; rw [List.all_cons, onesT_ok (cs := r) h]; rfl

theorem fillT_ok (hT : TabOk P T) {pl fl : List (Nat × Nat)} : ∀ {parts : List (Nat × AV)} {cs cs' : List AV} {b : Bool}, fillT std T pl fl cs parts = some (b, cs') → b = true →
    fillA pl cs parts = some cs' ∧ (parts.all fun p => p.2.cells.all avOne) = true
  | [], cs, cs', b, h, hb => by simp only [fillT, Option.some.injEq, Prod.mk.injEq] at h; rw [← h.2]; exact ⟨rfl, rfl⟩
  | (f, v) :: rest, cs, cs', b, h, hb => by
    simp only [fillT] at h
    split at h
    · rename_i off sz _ ft hp hf
      split at h
      · rename_i ti hti
        generalize hc : cellsT std ti.agg ti.sz v = q at h
        obtain ⟨vs, b1⟩ := q
        simp only at h
        split at h
        · rename_i hcond
          split at h
          · rename_i b2 cs2 hr
            simp only [Option.some.injEq, Prod.mk.injEq] at h
            obtain ⟨h1, rfl⟩ := h
            rw [hb] at h1
            simp only [std_and, Bool.and_eq_true] at h1
            obtain ⟨⟨h1, h2⟩, h3⟩ := h1
            obtain ⟨k1, k2⟩ := fillT_ok hT hr h3
            have hcv := cellsT_ok hc h1
            refine ⟨?_, ?_⟩
            · simp only [fillA, hp]
              rw [hcv, if_pos ⟨hcond.1, hcond.2.1⟩, hcond.1]
              exact k1
            · rw [List.all_cons, k2, Bool.and_true]
              simp only [hcv]
              exact onesT_ok h2
          · cases h
        · cases h
      · cases h
    · cases h

theorem fillLT_ok {agg : Bool} {es : Nat} : ∀ {parts : List (Nat × AV)} {els els' : List AV} {b : Bool}, fillLT std agg es els parts = some (b, els') → b = true →
    fillL es els parts = some els' ∧ (parts.all fun p => p.2.cells.all avOne) = true
  | [], els, els', b, h, hb => by simp only [fillLT, Option.some.injEq, Prod.mk.injEq] at h; rw [← h.2]; exact ⟨rfl, rfl⟩
  | (i, v) :: rest, els, els', b, h, hb => by
    simp only [fillLT] at h
    generalize hc : cellsT std agg es v = q at h
    obtain ⟨vs, b1⟩ := q
    simp only at h
    split at h
    · rename_i hcond
      split at h
      · rename_i b2 els2 hr
        simp only [Option.some.injEq, Prod.mk.injEq] at h
        obtain ⟨h1, rfl⟩ := h
        rw [hb] at h1
        simp only [std_and, Bool.and_eq_true] at h1
        obtain ⟨⟨h1, h2⟩, h3⟩ := h1
        obtain ⟨k1, k2⟩ := fillLT_ok hr h3
        have hcv := cellsT_ok hc h1
        refine ⟨?_, ?_⟩
        · simp only [fillL]
          rw [hcv, if_pos hcond]
          exact k1
        · rw [List.all_cons, k2, Bool.and_true]
          simp only [hcv]
          exact onesT_ok h2
      · cases h
    · cases h

theorem aloadT_ok {ti : TI} {n : Nat} {aggE : Bool} {e : AV} {fo nid : Nat} {B : BM} {o : Option AV} (hB : ∀ v, o = some v → B = just nid v) (ho : aload ti e fo = o) : (aloadT std ti n aggE e fo).le nid B := by
  have key : ∀ v, aload ti e fo = some v → B = just nid v := fun v h => hB v (by rw [← ho, h])
  unfold aloadT
  cases e with
  | agg cs =>
    simp only
    split
    · rename_i ha
      split
      · rename_i h; exact key _ (by simp [aload, ha, AV.cells, aIsAgg, h.1, h.2])
      · rename_i h
        split
        · rename_i h2; refine key _ ?_
          have e1 : (AV.agg cs).cells = cs := rfl
          simp only [aload, ha, if_true, e1]
          rw [if_neg (fun hc => h ⟨hc.1, hc.2.1⟩), if_pos h2]
        · trivial
    · rename_i ha
      split
      · rename_i v hv; refine key _ ?_; simp only [aload, ha, AV.cells]; simpa using hv
      · trivial
  | d x =>
    simp only
    split
    · rename_i ha
      split
      · rename_i h
        intro hx
        obtain ⟨l, rfl, rfl⟩ := isAgg_std hx
        exact key _ (by simp [aload, ha, AV.cells, aIsAgg, h.1, h.2])
      · rename_i h
        split
        · rename_i h2
          intro hx
          obtain ⟨l, rfl, rfl⟩ := isAgg_std hx
          refine key _ ?_
          have e1 : (AV.d (.agg l)).cells = l.map .d := rfl
          simp only [aload, ha, if_true, e1]
          rw [if_neg (fun hc => h ⟨hc.1, by simpa using hc.2.1⟩), if_pos (by simpa using h2)]
          congr 2
          apply List.ext_getElem (by simp; omega)
          intro i h1 h3
          simp at h1 h3
          have : fo + i < l.length := by omega
          simp [std, DV.cells, List.getD, this]
        · trivial
    · rename_i ha
      split
      · split
        · rename_i h2
          intro hx
          obtain ⟨l, rfl, rfl⟩ := isAgg_std hx
          refine key _ ?_
          simp only [aload, ha, AV.cells]
          simp [std, DV.cells, List.getD, h2]
        · trivial
      · split
        · rename_i h0
          intro hx
          refine key _ ?_
          simp only [aload, ha, one_cells hx, h0]; rfl
        · trivial
  | undef => trivial
  | _ =>
    simp only
    split
    · rename_i h; refine key _ ?_; simp [aload, h.1, h.2, AV.cells]
    · trivial

theorem aggS_ok {agg : Bool} {sz : Nat} {v : AV} {cs : List AV} (h : cellsT std agg sz v = (cs, true)) : aIsAgg v = aggS agg v := by
  unfold cellsT at h
  split at h
  · rfl
  · rename_i x
    split at h
    · rename_i ha
      simp only [Prod.mk.injEq] at h
      obtain ⟨l, rfl, rfl⟩ := isAgg_std h.2
      simp [aIsAgg, aggS, ha]
    · rename_i ha
      simp only [Prod.mk.injEq] at h
      have h1 : avOne (.d x) = true := h.2
      simp only [aggS]
      cases x <;> first | (simp [avOne] at h1; done) | simp_all [aIsAgg]
  · cases v <;> first | rfl | simp_all

theorem astoreT_ok {n m : Nat} {aggE aggV : Bool} {e v : AV} {fo : Nat} {vs : List AV} {b : Bool} {e' : AV} (h : astoreT std n aggE aggV e fo v vs = some (b, e')) (hb : b = true) (hv : cellsT std aggV m v = (vs, true)) : astore e fo v = e' := by
  have hv2 := cellsT_ok hv rfl
  have hv3 := aggS_ok hv
  unfold astoreT at h
  generalize hc : cellsT std aggE n e = q at h
  obtain ⟨es, b1⟩ := q
  simp only at h
  split at h
  · rename_i hl
    split at h
    · rename_i h2
      split at h
      · rename_i h4
        simp only [Option.some.injEq, Prod.mk.injEq] at h
        obtain ⟨rfl, rfl⟩ := h
        subst hb
        have he2 := cellsT_ok hc rfl
        have he3 := aggS_ok hc
        unfold astore
        rw [if_neg (fun hx => hx.2.2 ⟨by rw [hv2]; omega, by rw [hv3]; exact h4.2.1, by rw [he3]; exact h4.2.2⟩), hv2, he2, h2.1]
        simp
        omega
      · rename_i h4
        simp only [Option.some.injEq, Prod.mk.injEq] at h
        obtain ⟨rfl, rfl⟩ := h
        subst hb
        have he2 := cellsT_ok hc rfl
        have he3 := aggS_ok hc
        unfold astore
        rw [if_pos ⟨h2.1, by rw [hv2, he2]; omega, fun hx => h4 ⟨by rw [hv2] at hx; omega, by rw [← hv3]; exact hx.2.1, by rw [← he3]; exact hx.2.2⟩⟩]
    · rename_i h2
      simp only [Option.some.injEq, Prod.mk.injEq] at h
      obtain ⟨rfl, rfl⟩ := h
      have := cellsT_ok hc hb
      unfold astore
      rw [if_neg (fun hc => h2 ⟨hc.1, by rw [hv2, this] at hc; omega⟩), this, hv2]
  · cases h

theorem bounds_ok {ev : Operand → AV} {o : Option Operand} {d : Option DV} (h : boundsD ev o = some d) : o.map ev = d.map .d := by
  unfold boundsD at h
  split at h
  · cases h; rfl
  · split at h
    · rename_i hx; cases h; simp [hx]
    · cases h

theorem dl_eq {ti : TI} {e : DV} {fo : Nat} : dload' ti.sz ti.agg e fo = dload ti e fo := rfl

theorem dl_ok {ti : TI} {e : DV} {fo : Nat} (hb : std.dlOk ti.sz ti.agg e fo = true) : dload ti e fo = some (dlV ti.sz ti.agg e fo) := by
  have hb : (if ti.agg then dIsAgg e && decide (fo + ti.sz ≤ e.cells.length) else decide (fo < e.cells.length)) = true := hb
  unfold dload dlV
  cases hA : ti.agg with
  | true =>
    rw [hA] at hb
    simp only [if_true, Bool.and_eq_true, decide_eq_true_eq] at hb ⊢
    by_cases h : fo = 0 ∧ e.cells.length = ti.sz
    · rw [if_pos ⟨h.1, h.2, hb.1⟩, if_pos h]
    · rw [if_neg (fun hc => h ⟨hc.1, hc.2.1⟩), if_pos hb.2, if_neg h]
  | false =>
    rw [hA] at hb
    have hb : fo < e.cells.length := by simpa using hb
    simp [List.getD, hb]

theorem bounds_std {n : Nat} {lo hi : Option DV} (h1 : intO lo = true) (h2 : intO hi = true) (h3 : 0 ≤ loN lo) (h4 : loN lo ≤ hiN n hi) (h5 : hiN n hi ≤ n) :
    sliceBoundsA n n (lo.map .d) (hi.map .d) = some ((loN lo).toNat, (hiN n hi).toNat) := by
  have isI : ∀ x : DV, isIntD x = true → ∃ k m, x = .int k m := fun x h => by cases x <;> first | exact ⟨_, _, rfl⟩ | cases h
  cases lo with
  | none => cases hi with
    | none => simp [sliceBoundsA, loN, hiN]
    | some h =>
      obtain ⟨k, m, rfl⟩ := isI h h2
      simp only [hiN, asInt, loN] at h4 h5
      simp only [sliceBoundsA, Option.map_none, Option.map_some, hiN, asInt, loN]
      rw [if_pos ⟨h4, h5⟩]; rfl
  | some l =>
    obtain ⟨k, m, rfl⟩ := isI l h1
    cases hi with
    | none =>
      simp only [hiN, asInt, loN] at h3 h4 h5
      simp only [sliceBoundsA, Option.map_none, Option.map_some, hiN, asInt, loN]
      rw [if_pos ⟨h3, h4⟩]; rfl
    | some h =>
      obtain ⟨k', m', rfl⟩ := isI h h2
      simp only [hiN, asInt, loN] at h3 h4 h5
      simp only [sliceBoundsA, Option.map_some, hiN, asInt, loN]
      rw [if_pos ⟨h3, h4, h5⟩]

theorem ibin_ok {P : Program} {t : TypeId} {k : IntKind} {op : BinOp} {u v : DV} (hp : plainOp op = true) (h1 : std.isI k u = true) (h2 : std.isI k v = true) : binD P op t (.d u) (.d v) = some (std.ibin k op u v) := by
  cases u <;> first | (simp [std, isIK] at h1; done) | skip
  cases v <;> first | (simp [std, isIK] at h2; done) | skip
  have h1 := of_decide_eq_true h1
  have h2 := of_decide_eq_true h2
  subst h1 h2
  cases op <;> first | (simp [plainOp] at hp; done) | skip
  all_goals simp only [binD, if_true, intOp]
  all_goals first | rfl | skip

theorem sbin_ok {P : Program} {t : TypeId} {op : BinOp} {u v : DV} (hp : plainSOp op = true) (h1 : std.isStr u = true) (h2 : std.isStr v = true) : binD P op t (.d u) (.d v) = some (std.sbin op u v) := by
  cases u <;> first | (simp [std, isStrD] at h1; done) | skip
  cases v <;> first | (simp [std, isStrD] at h2; done) | skip
  rename_i a b
  have he : (a.data.toList == b.data.toList) = decide (a = b) := by
    obtain ⟨⟨a⟩⟩ := a; obtain ⟨⟨b⟩⟩ := b
    by_cases h : a = b <;> simp [h]
  cases op <;> first | (simp [plainSOp] at hp; done) | skip
  all_goals simp only [binD, strOp, he]
  all_goals first | rfl | (simp only [std, sbinD, asStr, ltB, eqB, he])

theorem newsT_ok {nid sz : Nat} {ti : TI} (hsz : ti.sz = sz) {x : AV} {k : List AV → Nat → TM} {k' : List AV → BM} (hk : ∀ xs, (k xs xs.length).le nid (k' xs)) : (newsT std sz x k).le nid (newsB ti x k') := by
  subst hsz
  unfold newsT
  cases x with
  | d v =>
    intro h
    cases v <;> simp [std] at h
    rename_i els
    have := hk (els.map .d)
    simp only [newsB]
    rw [if_pos (by simpa using h)]
    simpa [std, lstD] using this
  | slc b es off n =>
    refine ⟨_, rfl, fun q => ?_⟩
    simp only
    by_cases h : off + n ≤ q.els.length ∧ es = ti.sz
    · rw [if_pos h, if_pos h]
      have := hk ((q.els.drop off).take n)
      have hl : ((q.els.drop off).take n).length = n := by simp; omega
      rw [hl] at this; exact this
    · rw [if_neg h]; trivial
  | _ => trivial

theorem freshT_ok {nid : Nat} {ti : TI} {e : TypeId} {z : AV} {xs : List AV} : (freshT std nid ti e z xs xs.length).le nid
    (if xs.length = 0 then just nid z else if xs.length ≤ big then .pure ⟨.slc nid ti.sz 0 xs.length, [(nid, some ⟨xs, ti.sz, e, true, true⟩)], nid + 1⟩ else .fail) := by
  refine ⟨fun h => ?_, fun h h2 => ?_⟩
  · have h : xs.length ≤ 0 := of_decide_eq_true h
    rw [if_pos (by omega)]; rfl
  · have h : ¬ xs.length ≤ 0 := of_decide_eq_false h
    have h2 : xs.length ≤ big := of_decide_eq_true h2
    rw [if_neg (by omega), if_pos h2]; rfl

theorem appT_ok {nid : Nat} {ti : TI} {e : TypeId} {s : AV} (xs : List AV) : (appT std nid ti e s xs xs.length).le nid
    (match s with
      | .d .snil => if xs.length = 0 then just nid (.d .snil) else if xs.length ≤ big then .pure ⟨.slc nid ti.sz 0 xs.length, [(nid, some ⟨xs, ti.sz, e, true, true⟩)], nid + 1⟩ else .fail
      | .zc => if xs.length = 0 then just nid .zc else if xs.length ≤ big then .pure ⟨.slc nid ti.sz 0 xs.length, [(nid, some ⟨xs, ti.sz, e, true, true⟩)], nid + 1⟩ else .fail
      | .slc b es 0 len => .get b fun q =>
          if q.live = true ∧ q.plain = true ∧ q.ty = e ∧ es = ti.sz ∧ len ≤ q.els.length ∧ len + xs.length ≤ big then
            .pure ⟨.slc nid ti.sz 0 (len + xs.length), [(b, none), (nid, some ⟨q.els.take len ++ xs, ti.sz, e, true, true⟩)], nid + 1⟩ else .fail
      | _ => .fail) := by
  unfold appT
  cases s with
  | d v =>
    intro h
    cases v <;> first | (simp [std, isSnil] at h; done) | skip
    exact freshT_ok
  | zc => exact freshT_ok
  | slc b es off len =>
    cases off with
    | zero =>
      refine ⟨_, rfl, fun q => ?_⟩
      simp only
      split
      · rename_i h
        intro hb
        simp only [std_and, Bool.and_eq_true] at hb
        have h1 : len ≤ q.els.length := of_decide_eq_true hb.1
        have h2 : len + xs.length ≤ big := of_decide_eq_true hb.2
        rw [if_pos ⟨h.1, h.2.1, h.2.2.1, h.2.2.2, h1, h2⟩]; rfl
      · trivial
    | succ n => trivial
  | _ => trivial

theorem app_ok {nid : Nat} {ti : TI} {e : TypeId} {s x : AV} (hc : ti.bytes ≤ 32768 ∧ 0 < ti.sz) : (match x with
      | .d v => TM.ite (std.isNil v) (match s with
          | .slc b es off len => .val (.slc b es off len)
          | .zc => .val .zc
          | .d u => .req (std.isSl u) (.val (.d u))
          | _ => .fail) (newsT std ti.sz (.d v) (appT std nid ti e s))
      | x => newsT std ti.sz x (appT std nid ti e s)).le nid (appendB nid ti e s x) := by
  unfold appendB
  rw [if_pos hc]
  have main : ∀ x, (newsT std ti.sz x (appT std nid ti e s)).le nid (newsB ti x fun xs =>
      match s with
      | .d .snil => if xs.length = 0 then just nid (.d .snil) else if xs.length ≤ big then .pure ⟨.slc nid ti.sz 0 xs.length, [(nid, some ⟨xs, ti.sz, e, true, true⟩)], nid + 1⟩ else .fail
      | .zc => if xs.length = 0 then just nid .zc else if xs.length ≤ big then .pure ⟨.slc nid ti.sz 0 xs.length, [(nid, some ⟨xs, ti.sz, e, true, true⟩)], nid + 1⟩ else .fail
      | .slc b es 0 len => .get b fun q =>
          if q.live = true ∧ q.plain = true ∧ q.ty = e ∧ es = ti.sz ∧ len ≤ q.els.length ∧ len + xs.length ≤ big then
            .pure ⟨.slc nid ti.sz 0 (len + xs.length), [(b, none), (nid, some ⟨q.els.take len ++ xs, ti.sz, e, true, true⟩)], nid + 1⟩ else .fail
      | _ => .fail) := fun x => newsT_ok rfl fun xs => appT_ok xs
  cases x with
  | d v =>
    refine ⟨fun h => ?_, fun h => ?_⟩
    · cases v <;> first | (simp [std, isSnil] at h; done) | skip
      simp only
      cases s with
      | d u =>
        intro hu
        cases u <;> first | (simp [std, isSlD] at hu; done) | rfl
      | slc b es off len => rfl
      | zc => rfl
      | _ => trivial
    · have := main (.d v)
      cases v <;> first | exact this | (simp [std, isSnil] at h; done)
  | _ => exact main _

theorem sub_eq {s : ByteArray} {lo hi : Option DV} : subV (.str s) lo hi = (sliceBoundsA s.size s.size (lo.map .d) (hi.map .d)).map fun p => .str (s.extract p.1 p.2) := rfl

set_option maxHeartbeats 4000000 in
theorem opT_ok (hT : TabOk P T) (nid : Nat) (ev : Operand → AV) (hev : ∀ k n, ev (.const (.int k n)) = .d (.int k n)) (o : Op) : (opT std T nid ev o).le nid (opB P nid ev o) := by
  have ok1 : ∀ {d : Option DV}, (d.isSome) = true → d = some (d.getD .inil) := fun {d} h => by cases d <;> first | rfl | cases h
  cases o with
  | move x => rfl
  | assign x => rfl
  | pick c a b =>
    simp only [opT, opB]
    split
    · rename_i y hy
      intro hb
      cases y <;> simp [std, isBoolD] at hb
      rename_i t
      rw [hy]
      show (match ev a, ev b with
        | .d u, .d v => TM.val (.d (if t then u else v))
        | u, v => .ite t (.val u) (.val v)).le nid (just nid (if t then ev a else ev b))
      generalize ev a = u
      generalize ev b = v
      have key : (TM.ite t (.val u) (.val v)).le nid (just nid (if t then u else v)) := by
        cases t
        · exact ⟨(fun h => by cases h), fun _ => rfl⟩
        · exact ⟨fun _ => rfl, (fun h => by cases h)⟩
      cases u <;> first | exact key | skip
      cases v <;> first | exact key | skip
      cases t <;> rfl
    · trivial
  | alloc t =>
    simp only [opT, opB]
    split
    · rename_i ti h; rw [rowTi_ok hT h]; rfl
    · trivial
  | box t x =>
    simp only [opT, opB]
    split
    · rename_i ti h
      generalize hc : cellsT std ti.agg ti.sz (ev x) = q
      obtain ⟨cs, b⟩ := q
      simp only
      split
      · rename_i hl
        intro hb
        simp only [std_and, Bool.and_eq_true] at hb
        have := cellsT_ok hc hb.1
        rw [this, if_pos (onesT_ok hb.2), hl]; rfl
      · trivial
    · trivial
  | build t parts =>
    simp only [opT, opB]
    split
    · rename_i ti un fl pl hr
      have hrow := hT _ _ hr
      simp only [rowOf, TRow.mk.injEq] at hrow
      split
      · rename_i ha
        split
        · rename_i b cs hf
          intro hb
          obtain ⟨h1, h2⟩ := fillT_ok hT hf hb
          rw [hrow.1, hrow.2.2.2]
          simp only [BM.ofO]
          rw [List.all_map] at h2
          rw [if_pos ⟨h2, ha⟩, h1]
          rfl
        · trivial
      · trivial
    · trivial
  | buildSlice t len parts =>
    simp only [opT, opB]
    split
    · rename_i e hu
      have hu := rowUn_ok hT hu
      simp only [UKis] at hu
      split
      · rename_i ti h
        split
        · rename_i hc
          split
          · rename_i b els hf
            intro hb
            obtain ⟨h1, h2⟩ := fillLT_ok hf hb
            rw [hu]
            simp only [rowTi_ok hT h, BM.ofO]
            rw [List.all_map] at h2
            rw [if_pos ⟨hc.1, hc.2, h2⟩, h1]
            rfl
          · trivial
        · trivial
      · trivial
    · trivial
  | load t a =>
    simp only [opT, opB]
    split
    · rename_i ti h
      rw [rowTi_ok hT h]
      simp only [BM.ofO]
      split
      · rename_i els i fo he
        intro hb
        rw [he]
        simp only
        have : dload ti (els.getD i .inil) fo = some (dlV ti.sz ti.agg (els.getD i .inil) fo) := dl_ok hb
        rw [this]; rfl
      · rename_i b es i fo he
        rw [he]
        refine ⟨_, rfl, fun k => ?_⟩
        simp only
        by_cases hpl : k.plain = false
        · rw [if_pos hpl]
          split
          · rename_i hc
            intro hb
            simp only [std, Bool.and_eq_true, decide_eq_true_eq] at hb
            rw [if_pos hb.1]
            have hb2 := hb.2
            generalize he2 : k.els.getD i .undef = v at hb2
            cases v <;> first | (simp [isDatA] at hb2; done) | skip
            rename_i x
            have hx : (AV.d x).cells = [.d x] := one_cells hb2
            have : aload ti (.d x) fo = some (.d x) := by simp only [aload, hc.1, hx, hc.2]; rfl
            simp only [this]
            have hd : std.dget k.els i = x := by
              show dgetA k.els i = x
              unfold dgetA; rw [he2]
            rw [hd]; rfl
          · trivial
        rw [if_neg hpl]
        by_cases hi : i < k.els.length
        · rw [if_pos hi, if_pos hi]
          split
          · split
            · exact aloadT_ok (fun v hv => by rw [hv]) rfl
            · trivial
          · trivial
        · rw [if_neg hi]; trivial
      · trivial
    · trivial
  | store t a x =>
    simp only [opT, opB]
    split
    · rename_i ti h
      rw [rowTi_ok hT h]
      simp only [BM.ofO]
      split
      · rename_i b es i fo he
        rw [he]
        refine ⟨_, rfl, fun k => ?_⟩
        simp only
        by_cases hc : k.live = true ∧ i < k.els.length ∧ fo + ti.sz ≤ k.es
        · rw [if_pos hc]
          split
          · rename_i te vs c hte hcv
            split
            · rename_i hl
              split
              · rename_i c' e' hst
                intro hb
                simp only [std_and, Bool.and_eq_true] at hb
                have hv := cellsT_ok hcv hb.1
                have hs := astoreT_ok hst hb.2.1 (by rw [← hb.1]; exact hcv)
                rw [if_pos ⟨hc.1, hc.2.1, by rw [hv]; exact hl.2, by rw [hv]; exact onesT_ok hb.2.2, hc.2.2⟩, hs]
                rfl
              · trivial
            · trivial
          · trivial
        · rw [if_neg hc]; trivial
      · trivial
    · trivial
  | nilCheck x =>
    simp only [opT, opB]
    split <;> first | (rename_i h; rw [h]; rfl) | trivial
  | binOp op t x y yt =>
    simp only [opT, opB]
    split
    · rename_i u v hu hv
      have num : (std.binOk op u v = true → binD P op t (.d u) (.d v) = some (std.bin op u v)) := fun h => by
        have h1 := ok1 (d := binV op u v) h
        show _ = some ((binV op u v).getD .inil)
        rw [← h1]
        cases u <;> cases v <;> first | rfl | simp [std, binV] at h
      split
      · rename_i k _
        split
        · rename_i hp
          intro h1 h2
          have : binD P op t (.d u) (.d v) = some (std.ibin k op u v) := ibin_ok hp h1 h2
          rw [← hu, ← hv] at this; simp only [this]; rfl
        · intro h; have := num h; rw [← hu, ← hv] at this; simp only [this]; rfl
      · split
        · rename_i hp
          intro h1 h2
          have : binD P op t (.d u) (.d v) = some (std.sbin op u v) := sbin_ok hp h1 h2
          rw [← hu, ← hv] at this; simp only [this]; rfl
        · intro h; have := num h; rw [← hu, ← hv] at this; simp only [this]; rfl
      · rename_i hun
        have hun := rowUn_ok hT hun
        simp only [UKis] at hun
        intro h
        have : binD P op t (.d u) (.d v) = some (std.bbin op u v) := by
          have h1 := ok1 (d := bbinV op u v) h
          show _ = some ((bbinV op u v).getD .inil)
          rw [← h1]
          cases u <;> cases v <;> first | (simp [std, bbinV] at h; done) | skip
          simp only [binD, hun, bbinV]
        rw [← hu, ← hv] at this; simp only [this]; rfl
      · trivial
    · trivial
  | unOp op t x =>
    simp only [opT, opB]
    split
    · rename_i u hu
      rw [hu]
      split
      · intro h
        cases u <;> first | (simp [std, isBoolD] at h; done) | skip
        rfl
      · intro h
        have h1 := ok1 (d := unV op u) h
        have : unD op (.d u) = some ((unV op u).getD .inil) := by
          rw [← h1]
          cases op <;> cases u <;> first | rfl | simp [std, unV] at h
        rw [this]; rfl
    · trivial
  | convert s t x =>
    simp only [opT, opB]
    split
    · rename_i k1 k2 u h1 h2 hu
      have h1 : UKis _ _ := rowUn_ok hT h1
      have h2 := rowUn_ok hT h2
      simp only [UKis] at h1 h2
      intro h
      cases u <;> simp [std, isIntD] at h
      rw [hu]
      simp only [convB, h1, h2, convA, BM.ofO]
      rfl
    · rename_i e u h1 h2 hu
      have h1 : UKis _ _ := rowUn_ok hT h1
      have h2 := rowUn_ok hT h2
      simp only [UKis] at h1 h2
      split
      · rename_i h3
        have h3 := rowUn_ok hT h3
        simp only [UKis] at h3
        intro h
        cases u <;> simp [std, isStrD] at h
        rw [hu]
        simp only [convB, h1, h2, h3]
        rfl
      · trivial
    · trivial
  | makeFunc fn first caps =>
    cases fn with
    | func f =>
      simp only [opT, opB]
      split
      · rename_i hf
        cases allD (caps.toList.map ev) <;> rfl
      · trivial
    | _ => trivial
  | slice t x lo hi mx =>
    cases mx with
    | none =>
      simp only [opT, opB]
      split
      · rename_i u l h hx hl hh
        have hl := bounds_ok hl
        have hh := bounds_ok hh
        split
        · rename_i hun
          have hun := rowUn_ok hT hun
          simp only [UKis] at hun
          intro hb
          simp only [std, Bool.and_eq_true, decide_eq_true_eq] at hb
          obtain ⟨⟨⟨⟨⟨h0, h1⟩, h2⟩, h3⟩, h4⟩, h5⟩ := hb
          cases u <;> first | (simp [isStrD] at h0; done) | skip
          rename_i s
          have : sliceA P t (.d (.str s)) (lo.map ev) (hi.map ev) = some (.d (std.sub (.str s) l h)) := by
            simp only [sliceA, hun, hl, hh]
            have := bounds_std (n := s.size) h1 h2 h3 h4 h5
            rw [this]; rfl
          rw [hx, this]; rfl
        · rename_i e hun
          have hun := rowUn_ok hT hun
          simp only [UKis] at hun
          split
          · rename_i ti hti
            have hti := rowTi_ok hT hti
            intro hb
            simp only [std, Bool.and_eq_true, decide_eq_true_eq] at hb
            obtain ⟨⟨⟨⟨⟨⟨h0, ha⟩, h1⟩, h2⟩, h3⟩, h4⟩, h5⟩ := hb
            cases u <;> first | (simp [isSlD] at h0; done) | skip
            · rename_i els
              have : sliceA P t (.d (.sim els)) (lo.map ev) (hi.map ev) = some (.d (std.sl ti.sz (.sim els) l h)) := by
                have ha : (els.all fun x => decide (x.cells.length = ti.sz)) = true := ha
                simp only [sliceA, hun, hl, hh, hti, Option.bind_some, ha, if_true]
                have := bounds_std (n := els.length) h1 h2 h3 h4 h5
                rw [this]; rfl
              rw [hx, this]; rfl
            · have : sliceA P t (.d .snil) (lo.map ev) (hi.map ev) = some (.d (std.sl ti.sz .snil l h)) := by
                simp only [sliceA, hun, hl, hh, hti, Option.bind_some]
                have := bounds_std (n := 0) h1 h2 h3 h4 h5
                rw [this]; rfl
              rw [hx, this]; rfl
          · trivial
        · trivial
      · rename_i b es off len hx hl hh
        have hl := bounds_ok hl
        have hh := bounds_ok hh
        split
        · rename_i e hun
          have hun := rowUn_ok hT hun
          simp only [UKis] at hun
          split
          · rename_i ti hti
            have hti := rowTi_ok hT hti
            split
            · rename_i hc
              rw [hx]
              have : sliceA P t (.slc b es off len) (lo.map ev) (hi.map ev) = some (.slc b es 0 len) := by
                simp only [sliceA, hun, hl, hh, hti, Option.bind_some, hc.1, if_true, Option.map_none, sliceBoundsA, Nat.le_refl, Option.map_some, hc.2]
                simp
              rw [this]; rfl
            · trivial
          · trivial
        · trivial
      · trivial
    | some mx => trivial
  | fieldAddr s x f =>
    simp only [opT, opB]
    split
    · rename_i r hr
      have hrow := hT _ _ hr
      subst hrow
      split
      · rename_i off ft hun hfl
        obtain ⟨fs, hfs⟩ := un_ok hun
        split
        · rename_i ti hti
          have hti := rowTi_ok hT hti
          have hfo : fieldO P s f = some (off, ft) := by
            simp only [rowOf, fldsOf, hfs] at hfl
            simp only [fieldO, hfs]
            simpa using hfl
          split
          · trivial
          · rename_i hsz
            split
            · rename_i he; rw [he]; simp only [fieldAddrA, hfo, Option.bind_some, hti, hsz, if_false, BM.ofO]; rfl
            · rename_i he; rw [he]; simp only [fieldAddrA, hfo, Option.bind_some, hti, hsz, if_false, BM.ofO]; rfl
            · trivial
        · trivial
      · trivial
    · trivial
  | field s x f =>
    simp only [opT, opB]
    split
    · rename_i r hr
      have hrow := hT _ _ hr
      subst hrow
      split
      · rename_i off ft ts hun hfl hts
        obtain ⟨fs, hfs⟩ := un_ok hun
        have hfo : fieldO P s f = some (off, ft) := by
          simp only [rowOf, fldsOf, hfs] at hfl
          simp only [fieldO, hfs]
          simpa using hfl
        split
        · rename_i ti cs hti he
          have hti := rowTi_ok hT hti
          rw [he]
          refine aloadT_ok (o := aload ti (.agg cs) off) (fun v hv => ?_) rfl
          simp only [fieldA, hfo, Option.bind_some, hti, aIsAgg, if_true, hv, BM.ofO]
        · rename_i ti u hti he
          have hti := rowTi_ok hT hti
          rw [he]
          by_cases hu : aIsAgg (.d u) = true
          · refine aloadT_ok (o := aload ti (.d u) off) (fun v hv => ?_) rfl
            simp only [fieldA, hfo, Option.bind_some, hti, hu, if_true, hv, BM.ofO]
          · have : ∀ n, std.isAgg u n = false := fun n => by
              cases u <;> first | rfl | exact absurd rfl hu
            unfold aloadT
            simp only
            split
            · split
              · intro h; rw [this] at h; cases h
              · split
                · intro h; rw [this] at h; cases h
                · trivial
            · split
              · split
                · intro h; rw [this] at h; cases h
                · trivial
              · rename_i hx; exact absurd trivial hx
        · trivial
      · trivial
    · trivial
  | indexAddr t x i =>
    simp only [opT, opB]
    split
    · rename_i e hun
      have hun := rowUn_ok hT hun
      simp only [UKis] at hun
      split
      · rename_i ti hti
        have hti := rowTi_ok hT hti
        split
        · rename_i u j hx hi
          intro hb
          simp only [std, Bool.and_eq_true, decide_eq_true_eq] at hb
          obtain ⟨⟨⟨h0, h1⟩, h2⟩, h3⟩ := hb
          cases j <;> first | (simp [isIntD] at h0; done) | skip
          cases u <;> first | (exfalso; simp only [lstD, asInt, List.length_nil] at h1 h2; omega) | skip
          rw [hx, hi]
          simp only [indexAddrA, hun, hti, Option.bind_some]
          rw [if_pos ⟨h1, h2, h3⟩]
          rfl
        · rename_i b es off len j hx hi
          split
          · rename_i hes
            split
            · rename_i n hlit
              split
              · rename_i hn
                unfold litOf at hlit
                split at hlit
                · rename_i k m
                  cases hlit
                  have hc := hev k (.ofNat n)
                  rw [hx, hc]
                  simp only [indexAddrA, hun, hti, Option.bind_some]
                  rw [if_pos ⟨Int.natCast_nonneg n, by simpa using hn, hes⟩]
                  rfl
                · cases hlit
              · trivial
            · intro hb
              simp only [std, Bool.and_eq_true, decide_eq_true_eq] at hb
              obtain ⟨⟨h0, h1⟩, h2⟩ := hb
              cases j <;> first | (simp [isIntD] at h0; done) | skip
              rw [hx, hi]
              simp only [indexAddrA, hun, hti, Option.bind_some]
              rw [if_pos ⟨h1, h2, hes⟩]
              rfl
          · trivial
        · trivial
      · trivial
    · rename_i n e hun
      have hun := rowUn_ok hT hun
      simp only [UKis] at hun
      split
      · rename_i ti b es k fo j hti hx hlit
        have hti := rowTi_ok hT hti
        split
        · rename_i hn
          unfold litOf at hlit
          split at hlit
          · rename_i kk m
            cases hlit
            have hc := hev kk (.ofNat j)
            rw [hx, hc]
            simp only [indexAddrA, hun, hti, Option.bind_some]
            rw [if_pos ⟨Int.natCast_nonneg j, by simpa using hn⟩]
            rfl
          · cases hlit
        · trivial
      · rename_i ti els k fo j hti hx hlit
        have hti := rowTi_ok hT hti
        split
        · rename_i hn
          unfold litOf at hlit
          split at hlit
          · rename_i kk m
            cases hlit
            have hc := hev kk (.ofNat j)
            rw [hx, hc]
            simp only [indexAddrA, hun, hti, Option.bind_some]
            rw [if_pos ⟨Int.natCast_nonneg j, by simpa using hn⟩]
            rfl
          · cases hlit
        · trivial
      · trivial
    · trivial
  | index t x i =>
    simp only [opT, opB]
    split
    · rename_i u j hun hx hi
      have hun := rowUn_ok hT hun
      simp only [UKis] at hun
      intro hb
      simp only [std, Bool.and_eq_true, decide_eq_true_eq] at hb
      obtain ⟨⟨⟨h0, h1⟩, h2⟩, h3⟩ := hb
      cases u <;> first | (simp [isStrD] at h0; done) | skip
      cases j <;> first | (simp [isIntD] at h1; done) | skip
      rw [hun, hx, hi]
      simp only
      rw [if_pos ⟨h2, h3⟩]; rfl
    · trivial
  | extract x i =>
    simp only [opT, opB]
    split
    · rename_i vs he; rw [he]; simp only
      split
      · rename_i v hv; rw [hv]; rfl
      · trivial
    · rename_i u he; rw [he]
      intro hb
      have hb : i < (tupD u).length := of_decide_eq_true hb
      cases u <;> first | (simp [tupD] at hb; done) | skip
      rename_i vs _
      have hb : i < vs.length := hb
      simp only [List.getElem?_eq_getElem hb, BM.ofO]
      show just nid (.d vs[i]) = just nid (.d ((tupD (.tup vs)).getD i .inil))
      simp [tupD, List.getD, hb]
    · trivial
  | call cl =>
    obtain ⟨callee, args, ts⟩ := cl
    cases callee with
    | value fv =>
      simp only [opT, opB]
      split <;> first | (rename_i h; rw [h]; rfl) | trivial
    | invoke r m => trivial
    | builtin b =>
      cases b with
      | append =>
        simp only [opT, opB]
        split
        · rename_i hsz
          split
          · rename_i e e' h1 h2
            have h1 : UKis _ _ := rowUn_ok hT h1
            have h2 := rowUn_ok hT h2
            simp only [UKis] at h1 h2
            rw [h1, h2]
            simp only
            split
            · rename_i ti hti
              rw [rowTi_ok hT hti]
              simp only [BM.ofO]
              split
              · rename_i hc
                exact app_ok hc
              · trivial
            · trivial
          · trivial
        · trivial
      | len =>
        simp only [opT, opB]
        split
        · rename_i hsz
          split
          · rename_i u h1 h2
            have h1 : UKis _ _ := rowUn_ok hT h1
            simp only [UKis] at h1
            intro hb
            cases u <;> first | (simp [std, isStrD] at hb; done) | skip
            rw [h2]; simp only [lenA, h1, BM.ofO]; rfl
          · rename_i u h1 h2
            have h1 : UKis _ _ := rowUn_ok hT h1
            simp only [UKis] at h1
            intro hb
            cases u <;> first | (simp [std, isSlD] at hb; done) | skip
            · rw [h2]; simp only [lenA, h1, BM.ofO]; rfl
            · rw [h2]; simp only [lenA, h1, BM.ofO]; rfl
          · rename_i h1 h2
            have h1 : UKis _ _ := rowUn_ok hT h1
            simp only [UKis] at h1
            rw [h2]; simp only [lenA, h1, BM.ofO]; rfl
          · rename_i h1 h2
            have h1 : UKis _ _ := rowUn_ok hT h1
            simp only [UKis] at h1
            rw [h2]; simp only [lenA, h1, BM.ofO]; rfl
          · trivial
        · trivial
      | _ => trivial
  | _ => trivial
end
end Go.Proofs.Am
