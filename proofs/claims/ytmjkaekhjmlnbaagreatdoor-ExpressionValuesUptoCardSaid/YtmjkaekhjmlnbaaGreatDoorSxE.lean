/- What an argument reads as is data: what a call is entered with. -/
import Derived.Test.YtmjkaekhjmlnbaaGreatDoorSx13
import Derived.Test.YtmjkaekhjmlnbaaGreatDoorRows
import Derived.Test.YtmjkaekhjmlnbaaGreatDoorSxBase
import Derived.Test.YtmjkaekhjmlnbaaGreatDoorAmPtr
set_option linter.unusedVariables false
set_option linter.unusedSimpArgs false
set_option maxRecDepth 100000
namespace Go.Proofs.Sx
open Go Go.Proofs Go.Proofs.Am 
variable {gs : List Nat}

section
variable {H : Type} {enc : TypeId × Value → H} {w : World} {base : Nat} {sp : Nat → Bool} {held : Bool}
theorem getD_app {α : Type} {l r : List α} {d : α} {i : Nat} (h : i < l.length) : (l ++ r).getD i d = l.getD i d := by simp [List.getD, List.getElem?_append_left h]
theorem getD_app_right {α : Type} {l r : List α} {d : α} {i : Nat} (h : l.length ≤ i) : (l ++ r).getD i d = r.getD (i - l.length) d := by simp [List.getD, List.getElem?_append_right h]
/-- Blocks that are there. -/
abbrev There (w : World) : Nat → Prop := fun g => g < w.heap.size
/-- Cells of the model are these data. -/
structure CRep (w : World) (ds : List DV) (cs : List Value) : Prop where
  len : cs.length = ds.length
  one : ∀ i, i < ds.length → (cs.getD i undef).oneCell' = true
  at_ : ∀ i, i < ds.length → DRep w (There w) (ds.getD i .inil) (cs.getD i undef)
theorem CRep.single {d : DV} {v : Value} (h1 : v.oneCell' = true) (h : DRep w (There w) d v) : CRep w [d] [v] :=
  ⟨rfl, fun i hi => by have : i = 0 := by simpa using hi
                       subst this; exact h1, fun i hi => by have : i = 0 := by simpa using hi
                                                            subst this; exact h⟩
theorem CRep.inv {d : DV} {cs : List Value} (h : CRep w [d] cs) : ∃ v, cs = [v] ∧ v.oneCell' = true ∧ DRep w (There w) d v := by
  match cs, h with
  | [v], h => exact ⟨v, rfl, h.one 0 (by simp), h.at_ 0 (by simp)⟩
  | [], h => have := h.len; simp at this
  | _ :: _ :: _, h => have := h.len; simp at this
theorem CRep.append {a b : List DV} {x y : List Value} (h : CRep w a x) (k : CRep w b y) : CRep w (a ++ b) (x ++ y) := by
  refine ⟨by simp [h.len, k.len], fun i hi => ?_, fun i hi => ?_⟩
  · by_cases hi2 : i < a.length
    · rw [show (x ++ y).getD i undef = x.getD i undef from getD_app (by rw [h.len]; exact hi2)]; exact h.one i hi2
    · rw [show (x ++ y).getD i undef = y.getD (i - a.length) undef from by rw [getD_app_right (by rw [h.len]; omega), h.len]]; exact k.one _ (by simp at hi; omega)
  · by_cases hi2 : i < a.length
    · rw [show (x ++ y).getD i undef = x.getD i undef from getD_app (by rw [h.len]; exact hi2), show (a ++ b).getD i .inil = a.getD i .inil from getD_app hi2]; exact h.at_ i hi2
    · rw [show (x ++ y).getD i undef = y.getD (i - a.length) undef from by rw [getD_app_right (by rw [h.len]; omega), h.len], show (a ++ b).getD i .inil = b.getD (i - a.length) .inil from getD_app_right (by omega)]; exact k.at_ _ (by simp at hi; omega)
theorem CRep.agg {ds : List DV} {cs : Array Value} (h : CRep w ds cs.toList) : DRep w (There w) (.agg ds) (.agg cs) := by
  have e : ∀ i, cs.getD i undef = cs.toList.getD i undef := fun i => by simp [Array.getD_eq_getD_getElem?, List.getD]
  exact .agg ds cs (by simpa using h.len) (fun i hi => by rw [e]; exact h.one i hi) (fun i hi => by rw [e]; exact h.at_ i hi)
theorem bulk_part {d : DataW H} {l : List (DataW H)} (h : d ∈ l) : _root_.Go.Proofs.YtmjkaekhjmlnbaaGreatDoor.Rows.uptoBulk d ≤ _root_.Go.Proofs.YtmjkaekhjmlnbaaGreatDoor.Rows.uptoBulkAll l := by
  induction l with
  | nil => cases h
  | cons x r ih =>
    simp only [_root_.Go.Proofs.YtmjkaekhjmlnbaaGreatDoor.Rows.uptoBulkAll]
    cases List.mem_cons.1 h with
    | inl e => subst e; omega
    | inr e => have := ih e; omega
theorem bulk_one (d : DataW H) : 1 ≤ _root_.Go.Proofs.YtmjkaekhjmlnbaaGreatDoor.Rows.uptoBulk d := by
  cases d with
  | lit l => cases l <;> simp [_root_.Go.Proofs.YtmjkaekhjmlnbaaGreatDoor.Rows.uptoBulk]
  | nil => simp [_root_.Go.Proofs.YtmjkaekhjmlnbaaGreatDoor.Rows.uptoBulk]
  | ptr d => simp [_root_.Go.Proofs.YtmjkaekhjmlnbaaGreatDoor.Rows.uptoBulk]
  | slice elems spare => simp [_root_.Go.Proofs.YtmjkaekhjmlnbaaGreatDoor.Rows.uptoBulk]
  | agg parts => simp [_root_.Go.Proofs.YtmjkaekhjmlnbaaGreatDoor.Rows.uptoBulk]
  | iface t d => simp [_root_.Go.Proofs.YtmjkaekhjmlnbaaGreatDoor.Rows.uptoBulk]
  | map entries => simp [_root_.Go.Proofs.YtmjkaekhjmlnbaaGreatDoor.Rows.uptoBulk]
  | held h => simp [_root_.Go.Proofs.YtmjkaekhjmlnbaaGreatDoor.Rows.uptoBulk]
theorem bulk_len (l : List (DataW H)) : l.length ≤ _root_.Go.Proofs.YtmjkaekhjmlnbaaGreatDoor.Rows.uptoBulkAll l := by
  induction l with
  | nil => simp [_root_.Go.Proofs.YtmjkaekhjmlnbaaGreatDoor.Rows.uptoBulkAll]
  | cons x r ih => have := bulk_one x; simp only [_root_.Go.Proofs.YtmjkaekhjmlnbaaGreatDoor.Rows.uptoBulkAll, List.length_cons]; omega

theorem mapM_range {α : Type} {g : Nat → Option α} {n : Nat} {l : List α} (h : (List.range n).mapM g = some l) : l.length = n ∧ ∀ i, i < n → g i = l[i]? := by
  obtain ⟨h1, h2⟩ := mapM_some h
  refine ⟨by simpa using h1, fun i hi => ?_⟩
  obtain ⟨y, e1, e2⟩ := h2 i i (by simp [hi])
  rw [e1]; exact e2
theorem cells_get {a : Addr} {n : Nat} {cs : List Value} (h : w.cells? base a n = some cs) : cs.length = n ∧ ∀ i, i < n → w.cell? (a.add i) = some (cs.getD i undef) := by
  unfold World.cells? at h
  split at h
  · obtain ⟨h1, h2⟩ := mapM_range h
    refine ⟨h1, fun i hi => ?_⟩
    rw [h2 i hi]
    simp [List.getD, List.getElem?_eq_getElem (show i < cs.length by omega)]
  · cases h
theorem cell_some {a : Addr} {v : Value} (h : w.cell? a = some v) : a.spot = none ∧ a.block < w.heap.size := by
  unfold World.cell? at h
  split at h
  · rename_i hb
    refine ⟨?_, (Array.getElem?_eq_some_iff.1 hb).1⟩
    split at h
    · cases h
    · rename_i hs; simpa using hs
  · cases h
theorem add_none {c o : Nat} (i : Nat) : (⟨c, o, none⟩ : Addr).add i = ⟨c, o + i, none⟩ := by unfold Addr.add; split <;> simp_all

/-- A SLICE of what is data. -/
theorem slice_rep {α : Type} [Inhabited α] {t e es : Nat} (ht : Tryz.prog.underlying t = some (.slice e)) (he : Tryz.prog.cellsOf e = es) (hes : 0 < es) (f : α → DV) (hf : ∀ a, (f a).cells.length = es) (ok : α → Prop)
    {fuel : Nat} {cs : List Value} {x : DataW H × List MemPlace} (h : DataW.trod enc Tryz.prog w base sp held fuel t cs = some x) (hb : _root_.Go.Proofs.YtmjkaekhjmlnbaaGreatDoor.Rows.uptoBulk x.1 ≤ 1048576)
    (conv : ∀ n cs' y, n < fuel → DataW.trod enc Tryz.prog w base sp held n e cs' = some y → _root_.Go.Proofs.YtmjkaekhjmlnbaaGreatDoor.Rows.uptoBulk y.1 ≤ 1048576 → ∃ a, ok a ∧ CRep w (f a).cells cs') :
    ∃ o : Option (List α), ((o.getD []).length ≤ 1048576 ∧ ∀ a ∈ o.getD [], ok a) ∧ CRep w [match o with | none => .snil | some l => .sim (l.map f)] cs := by
  rcases DataW.trod_slice ht h with ⟨rfl, rfl⟩ | ⟨a, len, cap, elems, rest, n, rfl, rfl, rfl, hba, hl, hm, hlen, hel, _, _⟩
  · exact ⟨none, ⟨by simp, by simp⟩, CRep.single rfl .snil⟩
  · simp only [_root_.Go.Proofs.YtmjkaekhjmlnbaaGreatDoor.Rows.uptoBulk] at hb
    have h0 := bulk_len (elems.map (·.1))
    rw [List.length_map] at h0
    rw [he] at hel
    have key : ∀ i, ∃ b : α, i < len → ok b ∧ ∃ ecs : List Value, w.cells? base (a.add (i * es)) es = some ecs ∧ CRep w (f b).cells ecs := fun i => by
      by_cases hi : i < len
      · have h1 := hel i hi
        rw [List.getElem?_eq_getElem (by omega), Option.bind_eq_some_iff] at h1
        obtain ⟨ecs, h2, h3⟩ := h1
        obtain ⟨b, k1, k2⟩ := conv n ecs _ (by omega) h3 (by
          have := bulk_part (d := (elems[i]).1) (l := elems.map (·.1)) (List.mem_map.2 ⟨_, List.getElem_mem _, rfl⟩)
          omega)
        exact ⟨b, fun _ => ⟨k1, ecs, h2, k2⟩⟩
      · exact ⟨default, fun h => absurd h hi⟩
    obtain ⟨g, hg⟩ := Classical.axiomOfChoice key
    have key2 : ∀ i, ∃ ecs : List Value, i < len → w.cells? base (a.add (i * es)) es = some ecs ∧ CRep w (f (g i)).cells ecs := fun i => by
      by_cases hi : i < len
      · obtain ⟨_, ecs, q⟩ := hg i hi; exact ⟨ecs, fun _ => q⟩
      · exact ⟨[], fun h => absurd h hi⟩
    obtain ⟨ec, hec⟩ := Classical.axiomOfChoice key2
    have hL : ((List.range len).map g).length = len := by simp
    have hgd : ∀ j, j < len → (((List.range len).map g).map f).getD j .inil = f (g j) := fun j hj => by simp [List.getD, List.getElem?_map, hj]
    have hcell : ∀ j m, j < len → m < es → w.cell? ((a.add (j * es)).add m) = some ((ec j).getD m undef) := fun j m hj hm => (cells_get (hec j hj).1).2 m hm
    have hspot : 0 < len → a = ⟨a.block, a.off, none⟩ ∧ a.block < w.heap.size := fun hp => by
      have := hcell 0 0 hp hes
      rw [Nat.zero_mul] at this
      have h2 := cell_some (a := a) (by simpa [Addr.add] using this)
      exact ⟨by cases a; simp at h2 ⊢; exact h2.1, h2.2⟩
    refine ⟨some ((List.range len).map g), ⟨by simp; omega, fun b hb => ?_⟩, CRep.single rfl ?_⟩
    · obtain ⟨i, hi, rfl⟩ := List.mem_map.1 hb
      exact (hg i (by simpa using hi)).1
    · have hs := DRep.sim (w := w) (A := There w) (((List.range len).map g).map f) a cap a.block a.off es (fun j m => (ec j).getD m undef) (by simp [big]; omega) (by simpa using hl) (fun hp => hspot (by simpa using hp))
        (fun j hj => by rw [hgd j (by simpa using hj)]; exact hf _)
        (fun j m hj hm => by
          have hj : j < len := by simpa using hj
          have := hcell j m hj hm
          rw [(hspot (by omega)).1, add_none, add_none] at this
          rw [← this])
        (fun j m hj hm => by
          have hj : j < len := by simpa using hj
          have k := (hec j hj).2
          exact k.one m (by rw [hf]; exact hm))
        (fun j m hj hm => by
          have hj : j < len := by simpa using hj
          rw [hgd j hj]
          have k := (hec j hj).2
          exact k.at_ m (by rw [hf]; exact hm))
      rw [show (((List.range len).map g).map f).length = len by simp] at hs
      exact hs
theorem str_rep {fuel t : Nat} {cs : List Value} {x : DataW H × List MemPlace} (ht : Tryz.prog.underlying t = some .string) (h : DataW.trod enc Tryz.prog w base sp held fuel t cs = some x) (hb : _root_.Go.Proofs.YtmjkaekhjmlnbaaGreatDoor.Rows.uptoBulk x.1 ≤ 1048576) :
    ∃ s : ByteArray, s.size ≤ 1048576 ∧ CRep w [.str s] cs := by
  obtain ⟨s, rfl, rfl, hs⟩ := DataW.trod_string ht h
  simp only [_root_.Go.Proofs.YtmjkaekhjmlnbaaGreatDoor.Rows.uptoBulk] at hb
  have : s.size ≤ 1048576 := by have : s.data.toList.length = s.size := by simp
                                omega
  exact ⟨s, this, CRep.single rfl (.str s (by unfold big; omega))⟩
theorem int_rep {fuel t : Nat} {k : IntKind} {cs : List Value} {x : DataW H × List MemPlace} (ht : Tryz.prog.underlying t = some (.int k)) (h : DataW.trod enc Tryz.prog w base sp held fuel t cs = some x) :
    ∃ n : Int, CRep w [.int k n] cs := by
  obtain ⟨n, rfl, rfl, _⟩ := DataW.trod_int ht h
  exact ⟨n, CRep.single rfl (.int k n)⟩
theorem okL_of : ∀ {l : List V}, (∀ v ∈ l, v.ok) → okL l
  | [], _ => by rw [okL]; trivial
  | v :: r, h => by rw [okL]; exact ⟨h v (by simp), okL_of fun x hx => h x (by simp [hx])⟩
theorem encS_match (o : Option (List ByteArray)) : encS o = match o with | none => .snil | some l => .sim (l.map .str) := by cases o <;> rfl
theorem encO_match (o : Option (List V)) : encO o = match o with | none => .snil | some l => .sim (l.map V.enc) := by cases o <;> simp [encO, encL_map]
theorem cells3 : Tryz.prog.cellsOf 3 = 1 := by kernel_rfl
theorem cells9 : Tryz.prog.cellsOf 9 = 1 := by kernel_rfl
theorem cells22 : Tryz.prog.cellsOf 22 = 1 := by kernel_rfl
theorem cells23 : Tryz.prog.cellsOf 23 = 1 := by kernel_rfl
theorem cells25 : Tryz.prog.cellsOf 25 = 6 := by kernel_rfl
theorem cells26 : Tryz.prog.cellsOf 26 = 1 := by kernel_rfl
theorem cells44 : Tryz.prog.cellsOf 44 = 7 := by kernel_rfl
theorem cells28 : Tryz.prog.cellsOf 28 = 1 := by kernel_rfl
theorem strs_rep {fuel : Nat} {cs : List Value} {x : DataW H × List MemPlace} (h : DataW.trod enc Tryz.prog w base sp held fuel 22 cs = some x) (hb : _root_.Go.Proofs.YtmjkaekhjmlnbaaGreatDoor.Rows.uptoBulk x.1 ≤ 1048576) : ∃ o, okS0 o ∧ CRep w [encS o] cs := by
  haveI : Inhabited ByteArray := ⟨⟨#[]⟩⟩
  obtain ⟨o, h1, h2⟩ := slice_rep Tryz.underlying22 cells9 (by omega) DV.str (fun _ => rfl) (fun s : ByteArray => s.size ≤ 1048576) h hb fun n cs' y _ hy hb' => str_rep Tryz.underlying9 hy hb'
  exact ⟨o, h1, by cases o <;> exact h2⟩
theorem drop_take1 {cs : List Value} {k : Nat} (h : k < cs.length) : (cs.drop k).take 1 = [cs.getD k undef] := by
  rw [List.drop_eq_getElem_cons h, List.take_succ_cons, List.take_zero]; simp [List.getD, h]
/-- A VALUE. -/
theorem val_rep : ∀ (fuel : Nat) (cs : List Value) (x : DataW H × List MemPlace), DataW.trod enc Tryz.prog w base sp held fuel 25 cs = some x → _root_.Go.Proofs.YtmjkaekhjmlnbaaGreatDoor.Rows.uptoBulk x.1 ≤ 1048576 → ∃ v : V, v.ok ∧ CRep w v.enc.cells cs := by
  intro fuel
  induction fuel using Nat.strongRecOn with
  | _ fuel ih =>
  intro cs x h hb
  obtain ⟨xs, n, rfl, rfl, hl, hxl, hf⟩ := DataW.trod_struct Tryz.underlying25 h
  rw [cells25] at hl
  have hxl : xs.length = 6 := hxl
  simp only [_root_.Go.Proofs.YtmjkaekhjmlnbaaGreatDoor.Rows.uptoBulk] at hb
  have hpart : ∀ i (hi : i < xs.length), _root_.Go.Proofs.YtmjkaekhjmlnbaaGreatDoor.Rows.uptoBulk (xs[i]).1 ≤ 1048576 := fun i hi => by
    have := bulk_part (d := (xs[i]).1) (l := xs.map (·.1)) (List.mem_map.2 ⟨_, List.getElem_mem _, rfl⟩)
    omega
  have f0 : DataW.trod enc Tryz.prog w base sp held n 3 ((cs.drop 0).take (Tryz.prog.cellsOf 3)) = xs[0]? := hf 0 _ rfl
  have f1 : DataW.trod enc Tryz.prog w base sp held n 3 ((cs.drop 1).take (Tryz.prog.cellsOf 3)) = xs[1]? := hf 1 _ rfl
  have f2 : DataW.trod enc Tryz.prog w base sp held n 3 ((cs.drop 2).take (Tryz.prog.cellsOf 3)) = xs[2]? := hf 2 _ rfl
  have f3 : DataW.trod enc Tryz.prog w base sp held n 9 ((cs.drop 3).take (Tryz.prog.cellsOf 9)) = xs[3]? := hf 3 _ rfl
  have f4 : DataW.trod enc Tryz.prog w base sp held n 22 ((cs.drop 4).take (Tryz.prog.cellsOf 22)) = xs[4]? := hf 4 _ rfl
  have f5 : DataW.trod enc Tryz.prog w base sp held n 23 ((cs.drop 5).take (Tryz.prog.cellsOf 23)) = xs[5]? := hf 5 _ rfl
  rw [List.getElem?_eq_getElem (by omega)] at f0 f1 f2 f3 f4 f5
  simp only [cells3, cells9, cells22, cells23] at f0 f1 f2 f3 f4 f5
  rw [drop_take1 (by omega)] at f0 f1 f2 f3 f4 f5
  obtain ⟨k, r0⟩ := int_rep Tryz.underlying3 f0
  obtain ⟨m, r1⟩ := int_rep Tryz.underlying3 f1
  obtain ⟨e, r2⟩ := int_rep Tryz.underlying3 f2
  obtain ⟨s, hs, r3⟩ := str_rep Tryz.underlying9 f3 (hpart 3 (by omega))
  obtain ⟨nm, hnm, r4⟩ := strs_rep f4 (hpart 4 (by omega))
  obtain ⟨it, hit, r5⟩ := slice_rep Tryz.underlying23 cells25 (by omega) V.enc (fun v => by rw [enc_cells]; rfl) V.ok f5 (hpart 5 (by omega)) fun n' cs' y hn hy hb' => ih n' (by omega) cs' y hy hb'
  have r5 : CRep w [encO it] [cs.getD 5 undef] := by rw [encO_match]; cases it <;> exact r5
  refine ⟨.mk k m e s nm it, ?_, ?_⟩
  · rw [V.ok]
    refine ⟨hs, hnm.1, hnm.2, ?_⟩
    cases it with
    | none => rw [okO]; trivial
    | some l => rw [okO]; exact ⟨hit.1, okL_of hit.2⟩
  · have e1 : cs = [cs.getD 0 undef] ++ ([cs.getD 1 undef] ++ ([cs.getD 2 undef] ++ ([cs.getD 3 undef] ++ ([cs.getD 4 undef] ++ [cs.getD 5 undef])))) := by
      match cs, hl with
      | [a, b, c, d, e, f], _ => rfl
    rw [enc_cells, e1]
    exact r0.append (r1.append (r2.append (r3.append (r4.append r5))))
/-- A BINDING. -/
theorem bind_rep (fuel : Nat) (cs : List Value) (x : DataW H × List MemPlace) (h : DataW.trod enc Tryz.prog w base sp held fuel 44 cs = some x) (hb : _root_.Go.Proofs.YtmjkaekhjmlnbaaGreatDoor.Rows.uptoBulk x.1 ≤ 1048576) : ∃ b : B, okB0 b ∧ CRep w (encB b).cells cs := by
  obtain ⟨xs, n, rfl, rfl, hl, hxl, hf⟩ := DataW.trod_struct Tryz.underlying44 h
  rw [cells44] at hl
  have hxl : xs.length = 2 := hxl
  simp only [_root_.Go.Proofs.YtmjkaekhjmlnbaaGreatDoor.Rows.uptoBulk] at hb
  have hpart : ∀ i (hi : i < xs.length), _root_.Go.Proofs.YtmjkaekhjmlnbaaGreatDoor.Rows.uptoBulk (xs[i]).1 ≤ 1048576 := fun i hi => by
    have := bulk_part (d := (xs[i]).1) (l := xs.map (·.1)) (List.mem_map.2 ⟨_, List.getElem_mem _, rfl⟩)
    omega
  have f0 : DataW.trod enc Tryz.prog w base sp held n 9 ((cs.drop 0).take (Tryz.prog.cellsOf 9)) = xs[0]? := hf 0 _ rfl
  have f1 : DataW.trod enc Tryz.prog w base sp held n 25 ((cs.drop 1).take (Tryz.prog.cellsOf 25)) = xs[1]? := hf 1 _ rfl
  rw [List.getElem?_eq_getElem (by omega)] at f0 f1
  simp only [cells9, cells25] at f0 f1
  rw [drop_take1 (by omega)] at f0
  obtain ⟨s, hs, r0⟩ := str_rep Tryz.underlying9 f0 (hpart 0 (by omega))
  obtain ⟨v, hv, r1⟩ := val_rep _ _ _ f1 (hpart 1 (by omega))
  refine ⟨⟨s, v⟩, ⟨hs, hv⟩, ?_⟩
  have e1 : cs = [cs.getD 0 undef] ++ (cs.drop 1).take 6 := by
    match cs, hl with
    | [a, b, c, d, e, f, g], _ => rfl
  rw [encB_eq, e1]
  exact r0.append r1
theorem binds_rep {fuel : Nat} {cs : List Value} {x : DataW H × List MemPlace} (h : DataW.trod enc Tryz.prog w base sp held fuel 26 cs = some x) (hb : _root_.Go.Proofs.YtmjkaekhjmlnbaaGreatDoor.Rows.uptoBulk x.1 ≤ 1048576) : ∃ o, okBs o ∧ CRep w [encBs o] cs := by
  obtain ⟨o, h1, h2⟩ := slice_rep Tryz.underlying26 cells44 (by omega) encB (fun _ => rfl) okB0 h hb fun n cs' y _ hy hb' => bind_rep n cs' y hy hb'
  exact ⟨o, h1, by cases o <;> exact h2⟩
/-- The arguments of a call. -/
theorem val_arg {v : Value} {d : DataW H} {p : List MemPlace} {b0 : Nat} (hval : Value.okWide Tryz.prog w .any b0 25 v) (h : DataW.Trod enc Tryz.prog w base sp held 25 v d p) (hb : _root_.Go.Proofs.YtmjkaekhjmlnbaaGreatDoor.Rows.uptoBulk d ≤ 1048576) : ∃ a : V, a.ok ∧ DRep w (There w) a.enc v := by
  unfold Value.okWide at hval
  rw [Tryz.underlying25] at hval
  obtain ⟨cs, rfl, _⟩ := hval
  obtain ⟨fuel, hf⟩ := h
  obtain ⟨a, h1, h2⟩ := val_rep fuel _ _ hf hb
  exact ⟨a, h1, by rw [enc_eq]; rw [enc_cells] at h2; exact CRep.agg h2⟩
theorem set_arg {v : Value} {d : DataW H} {p : List MemPlace} {b0 : Nat} (hval : Value.okWide Tryz.prog w .any b0 28 v) (h : DataW.Trod enc Tryz.prog w base sp held 28 v d p) (hb : _root_.Go.Proofs.YtmjkaekhjmlnbaaGreatDoor.Rows.uptoBulk d ≤ 1048576) : ∃ o, okBs o ∧ DRep w (There w) (.agg [encBs o]) v := by
  unfold Value.okWide at hval
  rw [Tryz.underlying28] at hval
  obtain ⟨cs, rfl, _⟩ := hval
  obtain ⟨fuel, hf⟩ := h
  obtain ⟨xs, n, rfl, hx, hl, hxl, hf⟩ := DataW.trod_struct Tryz.underlying28 hf
  rw [cells28] at hl
  have hxl : xs.length = 1 := hxl
  have f0 : DataW.trod enc Tryz.prog w base sp held n 26 (((Value.agg cs).cells.toList.drop 0).take (Tryz.prog.cellsOf 26)) = xs[0]? := hf 0 _ rfl
  rw [List.getElem?_eq_getElem (by omega)] at f0
  simp only [cells26] at f0
  have hd : d = .agg (xs.map (·.1)) := congrArg Prod.fst hx
  subst hd
  simp only [_root_.Go.Proofs.YtmjkaekhjmlnbaaGreatDoor.Rows.uptoBulk] at hb
  have := bulk_part (d := (xs[0]).1) (l := xs.map (·.1)) (List.mem_map.2 ⟨_, List.getElem_mem _, rfl⟩)
  have hcs : (Value.agg cs).cells = cs := rfl
  rw [hcs] at f0 hl
  rw [show cs.toList.drop 0 = cs.toList from rfl, List.take_of_length_le (by omega)] at f0
  obtain ⟨o, h1, h2⟩ := binds_rep f0 (by omega)
  exact ⟨o, h1, CRep.agg h2⟩
end
end Go.Proofs.Sx
