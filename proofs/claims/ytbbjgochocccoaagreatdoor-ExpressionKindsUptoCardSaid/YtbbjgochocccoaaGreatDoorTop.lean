/- For every list of names with kinds and every term, of together at most 1048576 values and letters, the law 'examinerlaw20.ExpressionKinds' returns true, and what it was handed reads as it did. -/
import Derived.Test.YtbbjgochocccoaaGreatDoorP4
import Derived.Test.YtbbjgochocccoaaGreatDoorRows
import Derived.Test.YtbbjgochocccoaaGreatDoorP3
import Derived.WalkKit
import Derived.ProofKit
import Derived.OpenShut
import Derived.Deep.DeepHandedRow
import Derived.Lay
import Derived.Carry
import Derived.Test.YtbbjgochocccoaaGreatDoorP5
import Derived.Test.YtbbjgochocccoaaGreatDoorCards
import Derived.Test.YtbbjgochocccoaaGreatDoorTie

set_option linter.unusedVariables false
set_option linter.unusedSimpArgs false
set_option maxRecDepth 100000
namespace Go.Proofs.Sx
open Go Go.Proofs Go.Proofs.Am 
variable {gs : List Nat}

section
variable {H : Type} {enc : TypeId × Value → H} {w : World} {base : Nat} {sp : Nat → Bool} {held : Bool}
theorem getD_app {α : Type} {l r : List α} {d : α} {i : Nat} (h : i < l.length) : (l ++ r).getD i d = l.getD i d := by simp [List.getD, List.getElem?_append_left h]
theorem getD_app_right {α : Type} {l r : List α} {d : α} {i : Nat} (h : l.length ≤ i) : (l ++ r).getD i d = r.getD (i - l.length) d := by simp [List.getD, List.getElem?_append_right h]
/-- Blocks that are there. -/
abbrev There (w : World) : Nat → Prop := fun g => g < w.heap.size
/-- Cells of the model are these data. -/
structure CRep (w : World) (ds : List DV) (cs : List Value) : Prop where
  len : cs.length = ds.length
  one : ∀ i, i < ds.length → (cs.getD i undef).oneCell' = true
  at_ : ∀ i, i < ds.length → DRep w (There w) (ds.getD i .inil) (cs.getD i undef)
theorem CRep.single {d : DV} {v : Value} (h1 : v.oneCell' = true) (h : DRep w (There w) d v) : CRep w [d] [v] :=
  ⟨rfl, fun i hi => by have : i = 0 := by simpa using hi
                       subst this; exact h1, fun i hi => by have : i = 0 := by simpa using hi
                                                            subst this; exact h⟩
theorem CRep.inv {d : DV} {cs : List Value} (h : CRep w [d] cs) : ∃ v, cs = [v] ∧ v.oneCell' = true ∧ DRep w (There w) d v := by
  match cs, h with
  | [v], h => exact ⟨v, rfl, h.one 0 (by simp), h.at_ 0 (by simp)⟩
  | [], h => have := h.len; simp at this
  | _ :: _ :: _, h => have := h.len; simp at this
theorem CRep.append {a b : List DV} {x y : List Value} (h : CRep w a x) (k : CRep w b y) : CRep w (a ++ b) (x ++ y) := by
  refine ⟨by simp [h.len, k.len], fun i hi => ?_, fun i hi => ?_⟩
  · by_cases hi2 : i < a.length
    · rw [show (x ++ y).getD i undef = x.getD i undef from getD_app (by rw [h.len]; exact hi2)]; exact h.one i hi2
    · rw [show (x ++ y).getD i undef = y.getD (i - a.length) undef from by rw [getD_app_right (by rw [h.len]; omega), h.len]]; exact k.one _ (by simp at hi; omega)
  · by_cases hi2 : i < a.length
    · rw [show (x ++ y).getD i undef = x.getD i undef from getD_app (by rw [h.len]; exact hi2), show (a ++ b).getD i .inil = a.getD i .inil from getD_app hi2]; exact h.at_ i hi2
    · rw [show (x ++ y).getD i undef = y.getD (i - a.length) undef from by rw [getD_app_right (by rw [h.len]; omega), h.len], show (a ++ b).getD i .inil = b.getD (i - a.length) .inil from getD_app_right (by omega)]; exact k.at_ _ (by simp at hi; omega)
theorem CRep.agg {ds : List DV} {cs : Array Value} (h : CRep w ds cs.toList) : DRep w (There w) (.agg ds) (.agg cs) := by
  have e : ∀ i, cs.getD i undef = cs.toList.getD i undef := fun i => by simp [Array.getD_eq_getD_getElem?, List.getD]
  exact .agg ds cs (by simpa using h.len) (fun i hi => by rw [e]; exact h.one i hi) (fun i hi => by rw [e]; exact h.at_ i hi)
theorem bulk_part {d : DataW H} {l : List (DataW H)} (h : d ∈ l) : _root_.Go.Proofs.YtbbjgochocccoaaGreatDoor.Rows.uptoBulk d ≤ _root_.Go.Proofs.YtbbjgochocccoaaGreatDoor.Rows.uptoBulkAll l := by
  induction l with
  | nil => cases h
  | cons x r ih =>
    simp only [_root_.Go.Proofs.YtbbjgochocccoaaGreatDoor.Rows.uptoBulkAll]
    cases List.mem_cons.1 h with
    | inl e => subst e; omega
    | inr e => have := ih e; omega
theorem bulk_one (d : DataW H) : 1 ≤ _root_.Go.Proofs.YtbbjgochocccoaaGreatDoor.Rows.uptoBulk d := by
  cases d with
  | lit l => cases l <;> simp [_root_.Go.Proofs.YtbbjgochocccoaaGreatDoor.Rows.uptoBulk]
  | nil => simp [_root_.Go.Proofs.YtbbjgochocccoaaGreatDoor.Rows.uptoBulk]
  | ptr d => simp [_root_.Go.Proofs.YtbbjgochocccoaaGreatDoor.Rows.uptoBulk]
  | slice elems spare => simp [_root_.Go.Proofs.YtbbjgochocccoaaGreatDoor.Rows.uptoBulk]
  | agg parts => simp [_root_.Go.Proofs.YtbbjgochocccoaaGreatDoor.Rows.uptoBulk]
  | iface t d => simp [_root_.Go.Proofs.YtbbjgochocccoaaGreatDoor.Rows.uptoBulk]
  | map entries => simp [_root_.Go.Proofs.YtbbjgochocccoaaGreatDoor.Rows.uptoBulk]
  | held h => simp [_root_.Go.Proofs.YtbbjgochocccoaaGreatDoor.Rows.uptoBulk]
theorem bulk_len (l : List (DataW H)) : l.length ≤ _root_.Go.Proofs.YtbbjgochocccoaaGreatDoor.Rows.uptoBulkAll l := by
  induction l with
  | nil => simp [_root_.Go.Proofs.YtbbjgochocccoaaGreatDoor.Rows.uptoBulkAll]
  | cons x r ih => have := bulk_one x; simp only [_root_.Go.Proofs.YtbbjgochocccoaaGreatDoor.Rows.uptoBulkAll, List.length_cons]; omega

theorem mapM_range {α : Type} {g : Nat → Option α} {n : Nat} {l : List α} (h : (List.range n).mapM g = some l) : l.length = n ∧ ∀ i, i < n → g i = l[i]? := by
  obtain ⟨h1, h2⟩ := mapM_some h
  refine ⟨by simpa using h1, fun i hi => ?_⟩
  obtain ⟨y, e1, e2⟩ := h2 i i (by simp [hi])
  rw [e1]; exact e2
theorem cells_get {a : Addr} {n : Nat} {cs : List Value} (h : w.cells? base a n = some cs) : cs.length = n ∧ ∀ i, i < n → w.cell? (a.add i) = some (cs.getD i undef) := by
  unfold World.cells? at h
  split at h
  · obtain ⟨h1, h2⟩ := mapM_range h
    refine ⟨h1, fun i hi => ?_⟩
    rw [h2 i hi]
    simp [List.getD, List.getElem?_eq_getElem (show i < cs.length by omega)]
  · cases h
theorem cell_some {a : Addr} {v : Value} (h : w.cell? a = some v) : a.spot = none ∧ a.block < w.heap.size := by
  unfold World.cell? at h
  split at h
  · rename_i hb
    refine ⟨?_, (Array.getElem?_eq_some_iff.1 hb).1⟩
    split at h
    · cases h
    · rename_i hs; simpa using hs
  · cases h
theorem add_none {c o : Nat} (i : Nat) : (⟨c, o, none⟩ : Addr).add i = ⟨c, o + i, none⟩ := by unfold Addr.add; split <;> simp_all

/-- A SLICE of what is data. -/
theorem slice_rep {α : Type} [Inhabited α] {t e es : Nat} (ht : Tryz.prog.underlying t = some (.slice e)) (he : Tryz.prog.cellsOf e = es) (hes : 0 < es) (f : α → DV) (hf : ∀ a, (f a).cells.length = es) (ok : α → Prop)
    {fuel : Nat} {cs : List Value} {x : DataW H × List MemPlace} (h : DataW.trod enc Tryz.prog w base sp held fuel t cs = some x) (hb : _root_.Go.Proofs.YtbbjgochocccoaaGreatDoor.Rows.uptoBulk x.1 ≤ 1048576)
    (conv : ∀ n cs' y, n < fuel → DataW.trod enc Tryz.prog w base sp held n e cs' = some y → _root_.Go.Proofs.YtbbjgochocccoaaGreatDoor.Rows.uptoBulk y.1 ≤ 1048576 → ∃ a, ok a ∧ CRep w (f a).cells cs') :
    ∃ o : Option (List α), ((o.getD []).length ≤ 1048576 ∧ ∀ a ∈ o.getD [], ok a) ∧ CRep w [match o with | none => .snil | some l => .sim (l.map f)] cs := by
  rcases DataW.trod_slice ht h with ⟨rfl, rfl⟩ | ⟨a, len, cap, elems, rest, n, rfl, rfl, rfl, hba, hl, hm, hlen, hel, _, _⟩
  · exact ⟨none, ⟨by simp, by simp⟩, CRep.single rfl .snil⟩
  · simp only [_root_.Go.Proofs.YtbbjgochocccoaaGreatDoor.Rows.uptoBulk] at hb
    have h0 := bulk_len (elems.map (·.1))
    rw [List.length_map] at h0
    rw [he] at hel
    have key : ∀ i, ∃ b : α, i < len → ok b ∧ ∃ ecs : List Value, w.cells? base (a.add (i * es)) es = some ecs ∧ CRep w (f b).cells ecs := fun i => by
      by_cases hi : i < len
      · have h1 := hel i hi
        rw [List.getElem?_eq_getElem (by omega), Option.bind_eq_some_iff] at h1
        obtain ⟨ecs, h2, h3⟩ := h1
        obtain ⟨b, k1, k2⟩ := conv n ecs _ (by omega) h3 (by
          have := bulk_part (d := (elems[i]).1) (l := elems.map (·.1)) (List.mem_map.2 ⟨_, List.getElem_mem _, rfl⟩)
          omega)
        exact ⟨b, fun _ => ⟨k1, ecs, h2, k2⟩⟩
      · exact ⟨default, fun h => absurd h hi⟩
    obtain ⟨g, hg⟩ := Classical.axiomOfChoice key
    have key2 : ∀ i, ∃ ecs : List Value, i < len → w.cells? base (a.add (i * es)) es = some ecs ∧ CRep w (f (g i)).cells ecs := fun i => by
      by_cases hi : i < len
      · obtain ⟨_, ecs, q⟩ := hg i hi; exact ⟨ecs, fun _ => q⟩
      · exact ⟨[], fun h => absurd h hi⟩
    obtain ⟨ec, hec⟩ := Classical.axiomOfChoice key2
    have hL : ((List.range len).map g).length = len := by simp
    have hgd : ∀ j, j < len → (((List.range len).map g).map f).getD j .inil = f (g j) := fun j hj => by simp [List.getD, List.getElem?_map, hj]
    have hcell : ∀ j m, j < len → m < es → w.cell? ((a.add (j * es)).add m) = some ((ec j).getD m undef) := fun j m hj hm => (cells_get (hec j hj).1).2 m hm
    have hspot : 0 < len → a = ⟨a.block, a.off, none⟩ ∧ a.block < w.heap.size := fun hp => by
      have := hcell 0 0 hp hes
      rw [Nat.zero_mul] at this
      have h2 := cell_some (a := a) (by simpa [Addr.add] using this)
      exact ⟨by cases a; simp at h2 ⊢; exact h2.1, h2.2⟩
    refine ⟨some ((List.range len).map g), ⟨by simp; omega, fun b hb => ?_⟩, CRep.single rfl ?_⟩
    · obtain ⟨i, hi, rfl⟩ := List.mem_map.1 hb
      exact (hg i (by simpa using hi)).1
    · have hs := DRep.sim (w := w) (A := There w) (((List.range len).map g).map f) a cap a.block a.off es (fun j m => (ec j).getD m undef) (by simp [big]; omega) (by simpa using hl) (fun hp => hspot (by simpa using hp))
        (fun j hj => by rw [hgd j (by simpa using hj)]; exact hf _)
        (fun j m hj hm => by
          have hj : j < len := by simpa using hj
          have := hcell j m hj hm
          rw [(hspot (by omega)).1, add_none, add_none] at this
          rw [← this])
        (fun j m hj hm => by
          have hj : j < len := by simpa using hj
          have k := (hec j hj).2
          exact k.one m (by rw [hf]; exact hm))
        (fun j m hj hm => by
          have hj : j < len := by simpa using hj
          rw [hgd j hj]
          have k := (hec j hj).2
          exact k.at_ m (by rw [hf]; exact hm))
      rw [show (((List.range len).map g).map f).length = len by simp] at hs
      exact hs
theorem str_rep {fuel t : Nat} {cs : List Value} {x : DataW H × List MemPlace} (ht : Tryz.prog.underlying t = some .string) (h : DataW.trod enc Tryz.prog w base sp held fuel t cs = some x) (hb : _root_.Go.Proofs.YtbbjgochocccoaaGreatDoor.Rows.uptoBulk x.1 ≤ 1048576) :
    ∃ s : ByteArray, s.size ≤ 1048576 ∧ CRep w [.str s] cs := by
  obtain ⟨s, rfl, rfl, hs⟩ := DataW.trod_string ht h
  simp only [_root_.Go.Proofs.YtbbjgochocccoaaGreatDoor.Rows.uptoBulk] at hb
  have : s.size ≤ 1048576 := by have : s.data.toList.length = s.size := by simp
                                omega
  exact ⟨s, this, CRep.single rfl (.str s (by unfold big; omega))⟩
theorem int_rep {fuel t : Nat} {k : IntKind} {cs : List Value} {x : DataW H × List MemPlace} (ht : Tryz.prog.underlying t = some (.int k)) (h : DataW.trod enc Tryz.prog w base sp held fuel t cs = some x) :
    ∃ n : Int, CRep w [.int k n] cs := by
  obtain ⟨n, rfl, rfl, _⟩ := DataW.trod_int ht h
  exact ⟨n, CRep.single rfl (.int k n)⟩
theorem cells3 : Tryz.prog.cellsOf 3 = 1 := by kernel_rfl
theorem cells9 : Tryz.prog.cellsOf 9 = 1 := by kernel_rfl
theorem cells22 : Tryz.prog.cellsOf 39 = 1 := by kernel_rfl
theorem strs_rep {fuel : Nat} {cs : List Value} {x : DataW H × List MemPlace} (h : DataW.trod enc Tryz.prog w base sp held fuel 39 cs = some x) (hb : _root_.Go.Proofs.YtbbjgochocccoaaGreatDoor.Rows.uptoBulk x.1 ≤ 1048576) : ∃ o, okS0 o ∧ CRep w [encS o] cs := by
  haveI : Inhabited ByteArray := ⟨⟨#[]⟩⟩
  obtain ⟨o, h1, h2⟩ := slice_rep Tryz.underlying39 cells9 (by omega) DV.str (fun _ => rfl) (fun s : ByteArray => s.size ≤ 1048576) h hb fun n cs' y _ hy hb' => str_rep Tryz.underlying9 hy hb'
  exact ⟨o, h1, by cases o <;> exact h2⟩
theorem drop_take1 {cs : List Value} {k : Nat} (h : k < cs.length) : (cs.drop k).take 1 = [cs.getD k undef] := by
  rw [List.drop_eq_getElem_cons h, List.take_succ_cons, List.take_zero]; simp [List.getD, h]
end
end Go.Proofs.Sx

set_option linter.unusedVariables false
set_option linter.unusedSimpArgs false
set_option maxRecDepth 100000
namespace Go.Proofs.Sx
open Go Go.Proofs Go.Proofs.Am 
variable {gs : List Nat}

section
variable {H : Type} {enc : TypeId × Value → H} {w : World} {base : Nat} {sp : Nat → Bool} {held : Bool}
theorem cells62 : Tryz.prog.cellsOf 65 = 1 := by kernel_rfl
theorem cells64 : Tryz.prog.cellsOf 67 = 5 := by kernel_rfl
theorem ints_rep {fuel : Nat} {cs : List Value} {x : DataW H × List MemPlace} (h : DataW.trod enc Tryz.prog w base sp held fuel 65 cs = some x) (hb : _root_.Go.Proofs.YtbbjgochocccoaaGreatDoor.Rows.uptoBulk x.1 ≤ 1048576) : ∃ o, okIs o ∧ CRep w [encIs o] cs := by
  obtain ⟨o, h1, h2⟩ := slice_rep Tryz.underlying65 cells3 (by omega) (DV.int .i64) (fun _ => rfl) (fun _ : Int => True) h hb fun n cs' y _ hy hb' => by
    obtain ⟨m, hm⟩ := int_rep Tryz.underlying3 hy
    exact ⟨m, trivial, hm⟩
  exact ⟨o, h1.1, by cases o <;> exact h2⟩
/-- A NODE. -/
theorem node_rep (fuel : Nat) (cs : List Value) (x : DataW H × List MemPlace) (h : DataW.trod enc Tryz.prog w base sp held fuel 67 cs = some x) (hb : _root_.Go.Proofs.YtbbjgochocccoaaGreatDoor.Rows.uptoBulk x.1 ≤ 1048576) : ∃ b : Nd, okN b ∧ CRep w (encN b).cells cs := by
  obtain ⟨xs, n, rfl, rfl, hl, hxl, hf⟩ := DataW.trod_struct Tryz.underlying67 h
  rw [cells64] at hl
  have hxl : xs.length = 5 := hxl
  simp only [_root_.Go.Proofs.YtbbjgochocccoaaGreatDoor.Rows.uptoBulk] at hb
  have hpart : ∀ i (hi : i < xs.length), _root_.Go.Proofs.YtbbjgochocccoaaGreatDoor.Rows.uptoBulk (xs[i]).1 ≤ 1048576 := fun i hi => by
    have := bulk_part (d := (xs[i]).1) (l := xs.map (·.1)) (List.mem_map.2 ⟨_, List.getElem_mem _, rfl⟩)
    omega
  have f0 : DataW.trod enc Tryz.prog w base sp held n 3 ((cs.drop 0).take (Tryz.prog.cellsOf 3)) = xs[0]? := hf 0 _ rfl
  have f1 : DataW.trod enc Tryz.prog w base sp held n 3 ((cs.drop 1).take (Tryz.prog.cellsOf 3)) = xs[1]? := hf 1 _ rfl
  have f2 : DataW.trod enc Tryz.prog w base sp held n 9 ((cs.drop 2).take (Tryz.prog.cellsOf 9)) = xs[2]? := hf 2 _ rfl
  have f3 : DataW.trod enc Tryz.prog w base sp held n 39 ((cs.drop 3).take (Tryz.prog.cellsOf 39)) = xs[3]? := hf 3 _ rfl
  have f4 : DataW.trod enc Tryz.prog w base sp held n 65 ((cs.drop 4).take (Tryz.prog.cellsOf 65)) = xs[4]? := hf 4 _ rfl
  rw [List.getElem?_eq_getElem (by omega)] at f0 f1 f2 f3 f4
  simp only [cells3, cells9, cells22, cells62] at f0 f1 f2 f3 f4
  rw [drop_take1 (by omega)] at f0 f1 f2 f3 f4
  obtain ⟨k, r0⟩ := int_rep Tryz.underlying3 f0
  obtain ⟨m, r1⟩ := int_rep Tryz.underlying3 f1
  obtain ⟨s, hs, r2⟩ := str_rep Tryz.underlying9 f2 (hpart 2 (by omega))
  obtain ⟨nm, hnm, r3⟩ := strs_rep f3 (hpart 3 (by omega))
  obtain ⟨ar, har, r4⟩ := ints_rep f4 (hpart 4 (by omega))
  refine ⟨⟨k, m, s, nm, ar⟩, ⟨hs, hnm, har⟩, ?_⟩
  have e1 : cs = [cs.getD 0 undef] ++ ([cs.getD 1 undef] ++ ([cs.getD 2 undef] ++ ([cs.getD 3 undef] ++ [cs.getD 4 undef]))) := by
    match cs, hl with
    | [a, b, c, d, e], _ => rfl
  rw [zA6, e1]
  exact r0.append (r1.append (r2.append (r3.append r4)))
theorem term_rep {fuel : Nat} {cs : List Value} {x : DataW H × List MemPlace} (h : DataW.trod enc Tryz.prog w base sp held fuel 26 cs = some x) (hb : _root_.Go.Proofs.YtbbjgochocccoaaGreatDoor.Rows.uptoBulk x.1 ≤ 1048576) : ∃ o, okT o ∧ CRep w [encT o] cs := by
  obtain ⟨o, h1, h2⟩ := slice_rep Tryz.underlying26 cells64 (by omega) encN (fun _ => rfl) okN h hb fun n cs' y _ hy hb' => node_rep n cs' y hy hb'
  exact ⟨o, h1, by cases o <;> exact h2⟩
/-- An argument that is a term. -/
theorem term_arg {v : Value} {d : DataW H} {p : List MemPlace} {b0 : Nat} (hval : Value.okWide Tryz.prog w .any b0 26 v) (h : DataW.Trod enc Tryz.prog w base sp held 26 v d p) (hb : _root_.Go.Proofs.YtbbjgochocccoaaGreatDoor.Rows.uptoBulk d ≤ 1048576) : ∃ o, okT o ∧ DRep w (There w) (encT o) v := by
  have hv : v.cells = #[v] := by
    unfold Value.okWide at hval
    rw [Tryz.underlying26] at hval
    simp only at hval
    unfold Cell.okWide at hval
    rw [Tryz.underlying26] at hval
    cases v <;> simp only at hval <;> first | rfl | skip
    all_goals (unfold Cell.ok at hval; rw [Tryz.underlying26] at hval; simp only at hval)
  obtain ⟨fuel, hf⟩ := h
  obtain ⟨o, h1, h2⟩ := term_rep hf hb
  obtain ⟨v', h3, _, h4⟩ := h2.inv
  rw [hv] at h3
  have : v = v' := by simpa using h3
  exact ⟨o, h1, this ▸ h4⟩
end
end Go.Proofs.Sx

set_option linter.unusedVariables false
set_option linter.unusedSimpArgs false
set_option maxRecDepth 100000
namespace Go.Proofs.Sx
open Go Go.Proofs Go.Proofs.Am 
variable {gs : List Nat}

section
variable {H : Type} {enc : TypeId × Value → H} {w : World} {base : Nat} {sp : Nat → Bool} {held : Bool}
theorem cells1055 : Tryz.prog.cellsOf 55 = 2 := by kernel_rfl
theorem cells1022 : Tryz.prog.cellsOf 22 = 1 := by kernel_rfl
theorem cells1024 : Tryz.prog.cellsOf 24 = 1 := by kernel_rfl
theorem kn_rep (fuel : Nat) (cs : List Value) (x : DataW H × List MemPlace) (h : DataW.trod enc Tryz.prog w base sp held fuel 55 cs = some x) (hb : _root_.Go.Proofs.YtbbjgochocccoaaGreatDoor.Rows.uptoBulk x.1 ≤ 1048576) : ∃ b : Kn, okK b ∧ CRep w (encK b).cells cs := by
  obtain ⟨xs, n, rfl, rfl, hl, hxl, hf⟩ := DataW.trod_struct Tryz.underlying55 h
  rw [cells1055] at hl
  have hxl : xs.length = 2 := hxl
  simp only [_root_.Go.Proofs.YtbbjgochocccoaaGreatDoor.Rows.uptoBulk] at hb
  have hpart : ∀ i (hi : i < xs.length), _root_.Go.Proofs.YtbbjgochocccoaaGreatDoor.Rows.uptoBulk (xs[i]).1 ≤ 1048576 := fun i hi => by
    have := bulk_part (d := (xs[i]).1) (l := xs.map (·.1)) (List.mem_map.2 ⟨_, List.getElem_mem _, rfl⟩)
    omega
  have f0 : DataW.trod enc Tryz.prog w base sp held n 9 ((cs.drop 0).take (Tryz.prog.cellsOf 9)) = xs[0]? := hf 0 _ rfl
  have f1 : DataW.trod enc Tryz.prog w base sp held n 3 ((cs.drop 1).take (Tryz.prog.cellsOf 3)) = xs[1]? := hf 1 _ rfl
  rw [List.getElem?_eq_getElem (by omega)] at f0 f1
  simp only [cells3, cells9] at f0 f1
  rw [drop_take1 (by omega)] at f0 f1
  obtain ⟨s, hs, r0⟩ := str_rep Tryz.underlying9 f0 (hpart 0 (by omega))
  obtain ⟨k, r1⟩ := int_rep Tryz.underlying3 f1
  refine ⟨⟨s, k⟩, hs, ?_⟩
  have e1 : cs = [cs.getD 0 undef] ++ [cs.getD 1 undef] := by
    match cs, hl with
    | [a, b], _ => rfl
  rw [zD4, e1]
  exact r0.append r1
theorem kns_rep {fuel : Nat} {cs : List Value} {x : DataW H × List MemPlace} (h : DataW.trod enc Tryz.prog w base sp held fuel 22 cs = some x) (hb : _root_.Go.Proofs.YtbbjgochocccoaaGreatDoor.Rows.uptoBulk x.1 ≤ 1048576) : ∃ o, okKs o ∧ CRep w [encKs o] cs := by
  obtain ⟨o, h1, h2⟩ := slice_rep Tryz.underlying22 cells1055 (by omega) encK (fun _ => rfl) okK h hb fun n cs' y _ hy hb' => kn_rep n cs' y hy hb'
  exact ⟨o, h1, by cases o <;> exact h2⟩
theorem kinds_arg {v : Value} {d : DataW H} {p : List MemPlace} {b0 : Nat} (hval : Value.okWide Tryz.prog w .any b0 24 v) (h : DataW.Trod enc Tryz.prog w base sp held 24 v d p) (hb : _root_.Go.Proofs.YtbbjgochocccoaaGreatDoor.Rows.uptoBulk d ≤ 1048576) : ∃ o, okKs o ∧ DRep w (There w) (.agg [encKs o]) v := by
  unfold Value.okWide at hval
  rw [Tryz.underlying24] at hval
  obtain ⟨cs, rfl, _⟩ := hval
  obtain ⟨fuel, hf⟩ := h
  obtain ⟨xs, n, rfl, hx, hl, hxl, hf⟩ := DataW.trod_struct Tryz.underlying24 hf
  rw [cells1024] at hl
  have hxl : xs.length = 1 := hxl
  have f0 : DataW.trod enc Tryz.prog w base sp held n 22 (((Value.agg cs).cells.toList.drop 0).take (Tryz.prog.cellsOf 22)) = xs[0]? := hf 0 _ rfl
  rw [List.getElem?_eq_getElem (by omega)] at f0
  simp only [cells1022] at f0
  have hd : d = .agg (xs.map (·.1)) := congrArg Prod.fst hx
  subst hd
  simp only [_root_.Go.Proofs.YtbbjgochocccoaaGreatDoor.Rows.uptoBulk] at hb
  have := bulk_part (d := (xs[0]).1) (l := xs.map (·.1)) (List.mem_map.2 ⟨_, List.getElem_mem _, rfl⟩)
  have hcs : (Value.agg cs).cells = cs := rfl
  rw [hcs] at f0 hl
  rw [show cs.toList.drop 0 = cs.toList from rfl, List.take_of_length_le (by omega)] at f0
  obtain ⟨o, h1, h2⟩ := kns_rep f0 (by omega)
  exact ⟨o, h1, CRep.agg h2⟩
end
end Go.Proofs.Sx
namespace Go.Proofs.YtbbjgochocccoaaGreatDoor.law
open Go Go.Proofs Go.Proofs.Am Go.Proofs.Sx
open Go.ChangeShapes Go.WideShapes Go.ChangeAt Go.RowKit

theorem own : ownKnob Tryz.prog.godebug = none := by kernel_rfl
theorem laidOut : laidOutB Tryz.prog = true := by kernel_rfl
theorem readableA : Tryz.prog.readableRec 24 = true := by kernel_rfl
theorem readableB : Tryz.prog.readableRec 26 = true := by kernel_rfl
theorem typesA : 24 < Tryz.prog.types.size := of_decide_eq_true (by kernel_rfl)
theorem typesB : 26 < Tryz.prog.types.size := of_decide_eq_true (by kernel_rfl)
/-- The variable that Go's library reads is a whole number. -/
theorem gint {W : World} (h : W.ShapedOpen Tryz.prog) : GInt [0] W := by
  intro g hg
  have : g = 0 := by simpa using hg
  subst this
  obtain ⟨cs, hh, hs, hr⟩ := h.1 0 #[.int .i64 0] 3 (of_decide_eq_true (by kernel_rfl)) (by kernel_rfl)
  obtain ⟨ts, hts, _, hall⟩ := hr (by kernel_rfl)
  rw [show Tryz.prog.cellTypes Tryz.prog.depth 3 = some [3] by kernel_rfl] at hts
  cases hts
  have h1 : 0 < cs.size := by rw [hs]; simp
  obtain ⟨u, hu', hok⟩ := hall 0 cs[0] (by simp [h1])
  have : u = 3 := by simpa using hu'.symm
  subst this
  have hcell : W.cell? ⟨0, 0, none⟩ = some cs[0] := by simp [World.cell?, hh, h1]
  unfold Cell.ok at hok
  rw [Tryz.underlying3] at hok
  cases hv : cs[0] <;> rw [hv] at hok <;> simp only at hok
  obtain ⟨rfl, _⟩ := hok
  exact ⟨_, by rw [hcell, hv]⟩

theorem contract (H : Type) (enc : TypeId × Value → H) (W : World) (base : Nat) (args : Array Value) (ds gs : List (DataW H)) (before : List MemPlace)
    (hval : ∀ (j : Nat) t v, Tryz.f3.params[j]? = some t → args[j]? = some v → Value.okWide Tryz.prog W .any base t v)
    (hW : DataW.Whole enc Tryz.prog Tryz.f3.params.toList Rows.expressionKindsSpec.vars false W args.toList ds gs before)
    (hk : Rows.uptoSmall H (ds ++ gs) = true) (hsh : W.ShapedOpen Tryz.prog) :
    Calls Tryz.prog 3 args W fun e W' => ∃ v, e = .returned v ∧ Rows.expressionKindsSpec.post enc Tryz.prog Tryz.f3 false true false false W args v W' := by
  have hW' := hW
  have hlt := hW.lt
  obtain ⟨p, q, hA0, hV, rfl, hfz, hnd⟩ := hW
  have hA : DataW.TrodAll enc Tryz.prog W 0 (fun _ => true) true Tryz.f3.params.toList args.toList ds p := hA0
  rw [Tryz.params3] at hA hval
  obtain ⟨v0, v1, d0, d1, p0, p1, rfl, rfl, rfl, h0, h1⟩ := trodAll_two hA
  obtain ⟨rfl, rfl⟩ := trodVars_none hV
  have hb := of_decide_eq_true hk
  simp only [List.append_nil, _root_.Go.Proofs.YtbbjgochocccoaaGreatDoor.Rows.uptoBulkAll] at hb
  obtain ⟨a, ha, ra⟩ := kinds_arg (hval 0 24 v0 rfl rfl) h0 (by omega)
  obtain ⟨o, ho, ro⟩ := term_arg (hval 1 26 v1 rfl rfl) h1 (by omega)
  have hc := (pc1003 a o ha ho).2 W (There W) #[v0, v1] (fun g h => h) rfl (fun i hi => by
    match i, hi with
    | 0, _ => exact ra
    | 1, _ => exact ro) (gint hsh)
  refine hc.mono fun e W' ⟨v, he, hr⟩ => ?_
  obtain ⟨A', ρ, hbl, _, _, _, hv, _, _, _⟩ := hr.ex
  have hv : ARep W' A' ρ (.d (.bool true)) v := hv
  have : v = .bool true := by
    cases hv with
    | d _ _ h => cases h; rfl
  subst this
  subst he
  simp only [List.append_nil] at hW' hlt
  have q0 := Below.trod laidOut readableA typesA h0 hbl (fun x hx => hlt x (by simp [hx]))
  have q1 := Below.trod laidOut readableB typesB h1 hbl (fun x hx => hlt x (by simp [hx]))
  exact ⟨_, rfl, _, _, _, [], p0 ++ p1, [], hW', trodAll_mk1 (shut_bool Tryz.underlying4 _), trodAll_mk2 q0 q1, rfl, hbl.frame _, fun h => by cases h⟩

/-- What the witness reads as. -/
noncomputable def zeroArgs : Array Value := #[.agg #[.slice none 0 0], .slice none 0 0]
noncomputable def start (os : Os) : World := World.laidAll Tryz.prog os Rows.expressionKindsUptoRow.laid
theorem reads (os : Os) {H : Type} (enc : TypeId × Value → H) : DataW.whole enc Tryz.prog ((start os).forCall (fun _ _ => 0) ⟨#[], zeroArgs, []⟩).memory Tryz.f3.params.toList Rows.expressionKindsSpec.vars false zeroArgs.toList 8 =
    some ([.agg [.nil], .nil], [], []) := by kernel_rfl
set_option maxRecDepth 100000 in
theorem laid_met (os : Os) : laidMetH Tryz.prog Rows.expressionKindsUptoRow.laid ((start os).forCall (fun _ _ => 0) ⟨#[], zeroArgs, []⟩).memory := by
  rw [MakeChecks.laidMetH_plain _ _ _ (by kernel_rfl)]; exact laidMet_laidAll _ (by kernel_rfl) (by kernel_rfl)
set_option maxRecDepth 100000 in
theorem shaped (os : Os) : ((start os).forCall (fun _ _ => 0) ⟨#[], zeroArgs, []⟩).Shaped Tryz.prog := World.shaped_of_ZipB (by kernel_rfl) (by kernel_rfl)
set_option maxRecDepth 100000 in
theorem liftedUpto (os : Os) (started : os.Started) (H : Type) (enc : TypeId × Value → H) (F : Stop.Interp) :
    ReturnsInHanded {} Tryz.checked os 3 .any ((Rows.OpenSpec.upto Rows.expressionKindsSpec).preRow enc Tryz.prog Tryz.f3 Rows.expressionKindsUptoRow.domain false Rows.expressionKindsUptoRow.laid) (((Rows.OpenSpec.upto Rows.expressionKindsSpec).at F).post enc Tryz.prog Tryz.f3 false true false false) := by
  have hok : Input.okWideB Tryz.prog ((start os).forCall (fun _ _ => 0) ⟨#[], zeroArgs, []⟩) 3 ⟨#[], zeroArgs, []⟩ = true := by kernel_rfl
  refine returnsInHanded_of_row (C := Tryz.checked) (s := Rows.OpenSpec.upto Rows.expressionKindsSpec) own started (by kernel_rfl) Tryz.func3
    ⟨start os, fun _ _ => 0, ⟨#[], zeroArgs, []⟩, World.laidAll_os _ _ _, shaped os, (Input.okWide_of_okWideB (base := 0) hok).1, (Input.okWide_of_okWideB hok).2,
      OpenSpec.preRow_of_cond 8 (reads os enc) (by kernel_rfl) (fun k hk => by cases hk; kernel_rfl) (by kernel_rfl) (laid_met os), by
        simp only [Assume.holds]
        exact ⟨by simp, by simp, fun _ => Modest.zero, by simp, by simp⟩⟩ ?_
  intro W base args ds gs before hval hW _ hcond _ _ hsh _
  exact contract H enc W base args ds gs before hval hW (hcond _ rfl) hsh
theorem saidUpto : Rows.ExpressionKindsUptoSaid :=
  OpenClaim.holds_of_cond 3 Tryz.f3 rfl rfl rfl rfl rfl rfl rfl ⟨rfl, rfl, rfl, rfl, rfl⟩ rfl rfl rfl rfl rfl (by kernel_rfl) Tryz.func3 (by kernel_rfl)
    (of_decide_eq_true (by kernel_rfl)) (by unfold Func.isWrapper; first | (rw [if_pos (by decide +kernel)]; kernel_rfl) | (rw [if_neg (by decide +kernel)]; exact ⟨rfl, rfl⟩))
    (fun os started H enc _ F => by rw [OpenClaim.pre_eq_preRow]; exact liftedUpto os started H enc F)
theorem plain (f : FuncId) (fn : Func) (hf : Tryz.pinned.checked.prog.funcNamed "examiner/examinerlaw20.ExpressionKinds" = some f) (hfn : Tryz.pinned.checked.prog.funcs[f]? = some fn) :
    true = Tryz.pinned.checked.prog.looks [] ∧ ∀ (j : Nat) t, fn.params[j]? = some t → Tryz.pinned.checked.prog.wantsStandIn t = false := by
  obtain rfl : f = 3 := Option.some.inj ((show Tryz.prog.funcNamed "examiner/examinerlaw20.ExpressionKinds" = some 3 by kernel_rfl).symm.trans hf) |>.symm
  obtain rfl : fn = Tryz.f3 := (Option.some.inj (Tryz.func3.symm.trans hfn)).symm
  refine ⟨by kernel_rfl, fun j t ht => ?_⟩
  rw [Tryz.params3] at ht
  have hm : t ∈ [24, 26] := by simpa using Array.mem_of_getElem? ht
  have hall : ([24, 26].all fun u => !Tryz.prog.wantsStandIn u) = true := by kernel_rfl
  exact (show Tryz.prog.wantsStandIn t = false by simpa using List.all_eq_true.1 hall t hm)
/-- THE STATEMENT. -/
theorem cardUpto : Rows.ExpressionKindsUptoCardSaid :=
  Claim7.holds_tied_plain_at .later [] _ _ _ _ saidUpto (fun _ h => by cases h) (by kernel_rfl) (fun _ h => by cases h) expressionKindsUpto_row_tie rfl ⟨rfl, rfl⟩ (by kernel_rfl) rfl plain (by kernel_rfl)
#print axioms cardUpto
end Go.Proofs.YtbbjgochocccoaaGreatDoor.law
namespace Go.Proofs.Sx
end Go.Proofs.Sx
